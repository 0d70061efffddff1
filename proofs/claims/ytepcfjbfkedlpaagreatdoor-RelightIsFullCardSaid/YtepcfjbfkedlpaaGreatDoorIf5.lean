/- Parts of the proof. -/
import Derived.Test.YtepcfjbfkedlpaaGreatDoorIf4
import Derived.Shelf.GgClosure.StringsIndexFuncTop
import Derived.ProofKit
import Derived.Ground.GgwProg
set_option maxRecDepth 100000
set_option maxHeartbeats 4000000
noncomputable section
namespace Go.Proofs.YtepcfjbfkedlpaaGreatDoor
open Go Go.Proofs Go.RowKit
namespace AE
abbrev Qf:aH:=25
theorem aif (p q:bF):rk Tryz.prog 10000 Qf (X.val p) (X.val q)=some ((p.1==q.1&&(p.2.1==q.2.1&&(p.2.2.1==q.2.2.1&&true)))&&((p.2.2.2.1==q.2.2.2.1&&(p.2.2.2.2.1==q.2.2.2.2.1&&(p.2.2.2.2.2==q.2.2.2.2.2&&true)))&&true)):=aw
theorem aih:Tryz.prog.eqGuardType Tryz.prog.depth Qf=false:=aw
theorem aii (p q:bF):((p.1==q.1&&(p.2.1==q.2.1&&(p.2.2.1==q.2.2.1&&true)))&&((p.2.2.2.1==q.2.2.2.1&&(p.2.2.2.2.1==q.2.2.2.2.1&&(p.2.2.2.2.2==q.2.2.2.2.2&&true)))&&true))=decide (p=q):=by
 obtain⟨a,b,c,d,e,f⟩:=p;obtain⟨aS,b',c',nr,e',iC⟩:=q;rw[Bool.eq_iff_iff];simp [and_assoc]
section
variable [aY]
theorem Gi {x y:U} {p q:bF} (ak:aM x=true) (bg:aM y=true) (ex:aK x=X.val p) (hk:aK y=X.val q) {d:Bool} (a_:d= !decide (p=q)):aR Tryz.prog (.bin .neq Qf x y,.bool d):=by
 subst a_;exact aR.ML aih ak bg ex hk ((aif p q).trans (by rw[aii]))
theorem x5 {x r:U} {b:bF} (hp:dW [x]=true) (hr:aM r=true) (a':et [x]=[X.val b]) (bX:aK r= .bool true) (h:okB b):ju Tryz.prog (86,[x],r):=
 lR (a:= #[X.val b]) hp hr a' bX λw _=>(Qd.any w b).mono λe w' he=>by rw[gU h] at he;exact he
theorem aij {x r:U} {b:bF} (hp:dW [x]=true) (hr:aM r=true) (a':et [x]=[X.val b]) (bX:aK r= .bool false) (h:¬okB b):ju Tryz.prog (86,[x],r):=
 lR (a:= #[X.val b]) hp hr a' bX λw _=>(Qd.any w b).mono λe w' he=>by rw[di h] at he;exact he
theorem Gj {x r:U} {b:bF} (hp:dW [x]=true) (hr:aM r=true) (a':et [x]=[X.val b]) (bX:aK r= .bool true) (h:¬hG b):ju Tryz.prog (87,[x],r):=
 lR (a:= #[X.val b]) hp hr a' bX λw _=>(Qe.any w b).mono λe w' he=>by rw[gU h] at he;exact he
theorem JR {x r:U} {b:bF} (hp:dW [x]=true) (hr:aM r=true) (a':et [x]=[X.val b]) (bX:aK r= .bool false) (h:¬¬hG b):ju Tryz.prog (87,[x],r):=
 lR (a:= #[X.val b]) hp hr a' bX λw _=>(Qe.any w b).mono λe w' he=>by rw[di h] at he;exact he
theorem zI {x r:U} {b:bF} (hp:dW [x]=true) (hr:aM r=true) (a':et [x]=[X.val b]) (bX:aK r= .int .i64 (dZ b)) (ad:okB b):ju Tryz.prog (88,[x],r):=
 lR (a:= #[X.val b]) hp hr a' bX λw _=>Xj.any w b ad
def Gk:U:= .func (.func 90) ⟨[]⟩ ⟨[]⟩
theorem JS {x r:U} {a:Option Addr} {n c:Nat} {l:List Int} (hp:dW [x,Gk]=true) (hr:aM r=true) (a':et [x,Gk]=[.slice a n c,Gk]) (bX:aK r= .int .i64 (oS l)) (hl:b7 aY.dg 1 ih (.slice a n c) l) (aq:l.length<=10000000):ju Tryz.prog (115,[x,Gk],r):=
 lR (a:= #[.slice a n c,Gk]) hp hr a' bX λw hw=>Xi.any w (hl.mono hw) aq
end
theorem Xk {b:bF} {cells:List Int} (aJ:okB b) (h1:hG b\/b=Qc) (ae:dZ b<=2097152) (ay:dZ b=((cells.length:Nat):Int)) (bE:¬0<=oS cells):decide (vh b cells)=true:=gU ⟨aJ,h1,ae,ay,ao⟩
theorem zJ {b:bF} {cells:List Int} (h:okB b->(hG b\/b=Qc)->dZ b<=2097152->dZ b=((cells.length:Nat):Int)->0<=oS cells):decide (vh b cells)=false:=di λq=>by
 obtain⟨q1,aE,b9,ey,hv⟩:=q;have:=h q1 aE b9 ey;omega
end AE
namespace AE
namespace Qg
noncomputable def body:Code:=(Tryz.f52.body).getD .skip
def N:Nat:=37
noncomputable abbrev bV:=gu Tryz.prog Tryz.f52
def a6:b6:={sl:=dn [(0,.agg ⟨[0,1,2,3,4,5,6]⟩)],ms:=[],A:=start}
def cq:bC:=[(.bin .neq 25 (.agg ⟨[0,1,2,3,4,5]⟩) (.agg ⟨[I 0,I 0,I 0,I 0,I 0,I 0]⟩),.bool false),
 (.bin .leq 3 7 (I 2097152),.bool true),
 (.len #[26] 3 6,8),
 (.bin .eql 3 7 8,.bool true),
 (.bin .geq 3 9 (I 0),.bool true)]
def lE:ef:=[(86,[.agg ⟨[0,1,2,3,4,5]⟩],.bool true),
 (87,[.agg ⟨[aj 0,aj 1,aj 2,aj 3,aj 4,aj 5]⟩],.bool true),
 (88,[.agg ⟨[aj 0,aj 1,aj 2,aj 3,aj 4,aj 5]⟩],aj 7),
 (115,[aj 6,.func (.func 90) ⟨[]⟩ ⟨[]⟩],aj 9)]
theorem bk:bV (at' 37 cq lE body a6)=some (.bool false):=aw
def c4:bC:=[(.bin .neq 25 (.agg ⟨[0,1,2,3,4,5]⟩) (.agg ⟨[I 0,I 0,I 0,I 0,I 0,I 0]⟩),.bool false),
 (.bin .leq 3 7 (I 2097152),.bool true),
 (.len #[26] 3 6,8),
 (.bin .eql 3 7 8,.bool true),
 (.bin .geq 3 9 (I 0),.bool false)]
def jH:ef:=[(86,[.agg ⟨[0,1,2,3,4,5]⟩],.bool true),
 (87,[.agg ⟨[aj 0,aj 1,aj 2,aj 3,aj 4,aj 5]⟩],.bool true),
 (88,[.agg ⟨[aj 0,aj 1,aj 2,aj 3,aj 4,aj 5]⟩],aj 7),
 (115,[aj 6,.func (.func 90) ⟨[]⟩ ⟨[]⟩],aj 9)]
theorem e1:bV (at' 37 c4 jH body a6)=some (.bool true):=aw
def ew:bC:=[(.bin .neq 25 (.agg ⟨[0,1,2,3,4,5]⟩) (.agg ⟨[I 0,I 0,I 0,I 0,I 0,I 0]⟩),.bool false),
 (.bin .leq 3 7 (I 2097152),.bool true),
 (.len #[26] 3 6,8),
 (.bin .eql 3 7 8,.bool false)]
def nK:ef:=[(86,[.agg ⟨[0,1,2,3,4,5]⟩],.bool true),
 (87,[.agg ⟨[aj 0,aj 1,aj 2,aj 3,aj 4,aj 5]⟩],.bool true),
 (88,[.agg ⟨[aj 0,aj 1,aj 2,aj 3,aj 4,aj 5]⟩],aj 7)]
theorem e2:bV (at' 37 ew nK body a6)=some (.bool false):=aw
def eP:bC:=[(.bin .neq 25 (.agg ⟨[0,1,2,3,4,5]⟩) (.agg ⟨[I 0,I 0,I 0,I 0,I 0,I 0]⟩),.bool false),
 (.bin .leq 3 7 (I 2097152),.bool false)]
def rQ:ef:=[(86,[.agg ⟨[0,1,2,3,4,5]⟩],.bool true),
 (87,[.agg ⟨[aj 0,aj 1,aj 2,aj 3,aj 4,aj 5]⟩],.bool true),
 (88,[.agg ⟨[aj 0,aj 1,aj 2,aj 3,aj 4,aj 5]⟩],aj 7)]
theorem dH:bV (at' 37 eP rQ body a6)=some (.bool false):=aw
def gL:bC:=[(.bin .neq 25 (.agg ⟨[0,1,2,3,4,5]⟩) (.agg ⟨[I 0,I 0,I 0,I 0,I 0,I 0]⟩),.bool true)]
def vl:ef:=[(86,[.agg ⟨[0,1,2,3,4,5]⟩],.bool true),
 (87,[.agg ⟨[aj 0,aj 1,aj 2,aj 3,aj 4,aj 5]⟩],.bool true)]
theorem jD:bV (at' 37 gL vl body a6)=some (.bool false):=aw
def iz:bC:=[(.bin .leq 3 7 (I 2097152),.bool true),
 (.len #[26] 3 6,8),
 (.bin .eql 3 7 8,.bool true),
 (.bin .geq 3 9 (I 0),.bool true)]
def Gl:ef:=[(86,[.agg ⟨[0,1,2,3,4,5]⟩],.bool true),
 (87,[.agg ⟨[aj 0,aj 1,aj 2,aj 3,aj 4,aj 5]⟩],.bool false),
 (88,[.agg ⟨[aj 0,aj 1,aj 2,aj 3,aj 4,aj 5]⟩],aj 7),
 (115,[aj 6,.func (.func 90) ⟨[]⟩ ⟨[]⟩],aj 9)]
theorem oP:bV (at' 37 iz Gl body a6)=some (.bool false):=aw
def mK:bC:=[(.bin .leq 3 7 (I 2097152),.bool true),
 (.len #[26] 3 6,8),
 (.bin .eql 3 7 8,.bool true),
 (.bin .geq 3 9 (I 0),.bool false)]
def x6:ef:=[(86,[.agg ⟨[0,1,2,3,4,5]⟩],.bool true),
 (87,[.agg ⟨[aj 0,aj 1,aj 2,aj 3,aj 4,aj 5]⟩],.bool false),
 (88,[.agg ⟨[aj 0,aj 1,aj 2,aj 3,aj 4,aj 5]⟩],aj 7),
 (115,[aj 6,.func (.func 90) ⟨[]⟩ ⟨[]⟩],aj 9)]
theorem kY:bV (at' 37 mK x6 body a6)=some (.bool true):=aw
def oT:bC:=[(.bin .leq 3 7 (I 2097152),.bool true),
 (.len #[26] 3 6,8),
 (.bin .eql 3 7 8,.bool false)]
def Gm:ef:=[(86,[.agg ⟨[0,1,2,3,4,5]⟩],.bool true),
 (87,[.agg ⟨[aj 0,aj 1,aj 2,aj 3,aj 4,aj 5]⟩],.bool false),
 (88,[.agg ⟨[aj 0,aj 1,aj 2,aj 3,aj 4,aj 5]⟩],aj 7)]
theorem kR:bV (at' 37 oT Gm body a6)=some (.bool false):=aw
def qL:bC:=[(.bin .leq 3 7 (I 2097152),.bool false)]
def zK:ef:=[(86,[.agg ⟨[0,1,2,3,4,5]⟩],.bool true),
 (87,[.agg ⟨[aj 0,aj 1,aj 2,aj 3,aj 4,aj 5]⟩],.bool false),
 (88,[.agg ⟨[aj 0,aj 1,aj 2,aj 3,aj 4,aj 5]⟩],aj 7)]
theorem lN:bV (at' 37 qL zK body a6)=some (.bool false):=aw
def Gn:ef:=[(86,[.agg ⟨[0,1,2,3,4,5]⟩],.bool false)]
theorem sS:bV (at' 37 [] Gn body a6)=some (.bool false):=aw
@[reducible] noncomputable def cl (cells:List Int) (cY:dA) (cG cZ:Nat) (b:bF):List U:=[I b.1,I b.2.1,I b.2.2.1,I b.2.2.2.1,I b.2.2.2.2.1,I b.2.2.2.2.2,.slice cY cG cZ,I (dZ b),I ((cells.length:Nat):Int),I (oS cells)]
theorem any (W:au) {b:bF} {cY:dA} {cG cZ:Nat} {cells:List Int} (hf:b7 (aG W) 1 ih (.slice cY cG cZ) cells) (aq:cells.length<=10000000) (iD:cG=cells.length):Calls Tryz.prog 52 #[.agg ⟨[I b.1,I b.2.1,I b.2.2.1,I b.2.2.2.1,I b.2.2.2.2.1,I b.2.2.2.2.2,.slice cY cG cZ]⟩] W λe w'=>e= .returned (.bool (decide (vh b cells)))/\ch W.heap.size W w':=by
 refine kH (cl cells cY cG cZ b) body a6 N [.agg ⟨[aj 0,aj 1,aj 2,aj 3,aj 4,aj 5,aj 6]⟩] Tryz.func52 λa ai=> ?_
 letI:=du ai;have aA:=bW.qs W;by_cases aJ:okB b
 ·by_cases h1:¬hG b
  ·by_cases ae:b=((0,0,0,0,0,0):bF)
   ·by_cases ay:(dZ b)<=2097152
    ·by_cases bE:(dZ b)=((cells.length:Nat):Int)
     ·by_cases cn:0<=(oS cells)
      ·refine bO cq lE (ah (Gi J J J J (by rw[gU ae];rfl)) (ah bD (ah (fW (hf.mono aA.ext) l8) (ah bD (ah bD bc))))) (cz (x5 J J J J aJ) (cz (Gj J J J J h1) (cz (zI J J J J bB) (cz (JS J J J J (hf.mono aA.ext) aq) bd)))) ?_ ai
       exact bT bk λw2 br=>(by (rw[zJ (λq1 aE b9 ey=>by omega)];rfl))
      ·refine bO c4 jH (ah (Gi J J J J (by rw[gU ae];rfl)) (ah bD (ah (fW (hf.mono aA.ext) l8) (ah bD (ah a8 bc))))) (cz (x5 J J J J aJ) (cz (Gj J J J J h1) (cz (zI J J J J bB) (cz (JS J J J J (hf.mono aA.ext) aq) bd)))) ?_ ai
       exact bT e1 λw2 br=>(by (rw[Xk bB (by exact .inr bB) ao ao ao];rfl))
     ·refine bO ew nK (ah (Gi J J J J (by rw[gU ae];rfl)) (ah bD (ah (fW (hf.mono aA.ext) l8) (ah a8 bc)))) (cz (x5 J J J J aJ) (cz (Gj J J J J h1) (cz (zI J J J J bB) bd))) ?_ ai
      exact bT e2 λw2 br=>(by (rw[zJ (λq1 aE b9 ey=>by omega)];rfl))
    ·refine bO eP rQ (ah (Gi J J J J (by rw[gU ae];rfl)) (ah a8 bc)) (cz (x5 J J J J aJ) (cz (Gj J J J J h1) (cz (zI J J J J bB) bd))) ?_ ai
     exact bT dH λw2 br=>(by (rw[zJ (λq1 aE b9 ey=>by omega)];rfl))
   ·refine bO gL vl (ah (Gi J J J J (by rw[di ae];rfl)) bc) (cz (x5 J J J J aJ) (cz (Gj J J J J h1) bd)) ?_ ai
    exact bT jD λw2 br=>(by (rw[zJ (λq1 aE b9 ey=>by exact absurd (aE.resolve_left bB) bB)];rfl))
  ·by_cases ae:(dZ b)<=2097152
   ·by_cases ay:(dZ b)=((cells.length:Nat):Int)
    ·by_cases bE:0<=(oS cells)
     ·refine bO iz Gl (ah bD (ah (fW (hf.mono aA.ext) l8) (ah bD (ah bD bc)))) (cz (x5 J J J J aJ) (cz (JR J J J J h1) (cz (zI J J J J bB) (cz (JS J J J J (hf.mono aA.ext) aq) bd)))) ?_ ai
      exact bT oP λw2 br=>(by (rw[zJ (λq1 aE b9 ey=>by omega)];rfl))
     ·refine bO mK x6 (ah bD (ah (fW (hf.mono aA.ext) l8) (ah bD (ah a8 bc)))) (cz (x5 J J J J aJ) (cz (JR J J J J h1) (cz (zI J J J J bB) (cz (JS J J J J (hf.mono aA.ext) aq) bd)))) ?_ ai
      exact bT kY λw2 br=>(by (rw[Xk bB (by exact .inl (Classical.not_not.1 bB)) ao ao ao];rfl))
    ·refine bO oT Gm (ah bD (ah (fW (hf.mono aA.ext) l8) (ah a8 bc))) (cz (x5 J J J J aJ) (cz (JR J J J J h1) (cz (zI J J J J bB) bd))) ?_ ai
     exact bT kR λw2 br=>(by (rw[zJ (λq1 aE b9 ey=>by omega)];rfl))
   ·refine bO qL zK (ah a8 bc) (cz (x5 J J J J aJ) (cz (JR J J J J h1) (cz (zI J J J J bB) bd))) ?_ ai
    exact bT lN λw2 br=>(by (rw[zJ (λq1 aE b9 ey=>by omega)];rfl))
 ·refine bO [] Gn bc (cz (aij J J J J aJ) bd) ?_ ai
  exact bT sS λw2 br=>(by (rw[zJ (λq1 aE b9 ey=>by exact absurd q1 bB)];rfl))
end Qg
end AE
namespace AE
def JT (r:Nat):Bool:=decide (97<=r)&&decide (r<=122)
def BG (r:Nat):Bool:= !JT r&& !decide (r=45)
def oh (s:hn):Prop:=(0<s.length/\s.length<=32)/\¬(((s.getD 0 0).toNat:Nat):Int)=45/\¬(((s.getD ((((s.length:Nat):Int)-1)).toNat 0).toNat:Nat):Int)=45/\Lib.idxFunc BG true ⟨s.toArray⟩<0
instance (s:hn):Decidable (oh s):=by unfold oh;infer_instance
abbrev Qh:=hn×Bool×Bool×Bool
def aik (x:Qh):List U:=[cp x.1,.bool x.2.1,.bool x.2.2.1,.bool x.2.2.2]
abbrev K.val (x:Qh):U:= .agg ⟨aik x⟩
def lj (x:cr):Qh:=
 if x.2.1=true then (if x.2.2.1=true then ([],false,false,false) else if x.2.2.2.1=true then ([102,97,108,108,105,110,103],true,false,true) else ([115,111,108,105,100],true,false,false))
 else if x.2.2.1=true then (if x.2.2.2.1=true then ([],false,false,false) else ([108,105,113,117,105,100],false,true,false))
 else if x.2.2.2.1=true then ([],false,false,false) else ([103,97,115],false,false,false)
section
variable {x:cr}
theorem ail (aJ:¬x.2.1=true) (h1:¬x.2.2.1=true) (ae:¬x.2.2.2.1=true):lj x=([103,97,115],false,false,false):=by unfold lj;rw[aO aJ,aO h1,aO ae]
theorem aim (aJ:x.2.1=true) (h1:¬x.2.2.1=true) (ae:¬x.2.2.2.1=true):lj x=([115,111,108,105,100],true,false,false):=by unfold lj;rw[aN aJ,aO h1,aO ae]
theorem ain (aJ:x.2.1=true) (h1:¬x.2.2.1=true) (ae:x.2.2.2.1=true):lj x=([102,97,108,108,105,110,103],true,false,true):=by unfold lj;rw[aN aJ,aO h1,aN ae]
theorem aio (aJ:¬x.2.1=true) (h1:x.2.2.1=true) (ae:¬x.2.2.2.1=true):lj x=([108,105,113,117,105,100],false,true,false):=by unfold lj;rw[aO aJ,aN h1,aO ae]
theorem aip (aJ:x.2.1=true) (h1:x.2.2.1=true):lj x=([],false,false,false):=by unfold lj;rw[aN aJ,aN h1]
theorem Xl (aJ:¬x.2.1=true) (ae:x.2.2.2.1=true):lj x=([],false,false,false):=by unfold lj;rw[aO aJ];split<;>first|rfl|rw[aN ae]
end
def gS (x:cr):Prop:=oh x.1/\¬(lj x).1=[]/\1<=x.2.2.2.2.1/\x.2.2.2.2.1<=16/\0<=x.2.2.2.2.2.1/\x.2.2.2.2.2.1<=15/\0<=x.2.2.2.2.2.2.1/\x.2.2.2.2.2.2.1<=15/\0<=x.2.2.2.2.2.2.2/\x.2.2.2.2.2.2.2<=15
instance (x:cr):Decidable (gS x):=by unfold gS;infer_instance
def Gp:cr:=([97,105,114],false,false,false,1,0,0,0)
def BH (l:List cr) (i:Nat):List hn:=(l.take i).map (·.1)
def x7 (l:List cr) (i:Nat):Prop:=¬gS (l.getD i default)\/(l.getD i default).1∈BH l i
instance (l:List cr) (i:Nat):Decidable (x7 l i):=by unfold x7;infer_instance
def lW (l:List cr):Int×Int:=
 if 256<l.length then (-1,2) else if l.length=0 then (-1,1) else if ¬l.getD 0 default=Gp then (0,1) else
 match (List.range l.length).find? (λi=>decide (x7 l i)) with
 |some i=>(i,if gS (l.getD i default) then 10 else 1)
 |none=>(0,0)
section
variable {l:List cr}
theorem aiq (h:256<l.length):lW l=(-1,2):=by unfold lW;rw[aN h]
theorem air (aJ:¬256<l.length) (h:l.length=0):lW l=(-1,1):=by unfold lW;rw[aO aJ,aN h]
theorem ais (aJ:¬256<l.length) (h1:¬l.length=0) (h:¬l.getD 0 default=Gp):lW l=(0,1):=by unfold lW;rw[aO aJ,aO h1,aN h]
theorem Xm {p:Nat->Bool} {n i:Nat} (af:i<n) (h:∀j,j<i->p j=false) (hp:p i=true):(List.range n).find? p=some i:=by
 rw[List.find?_eq_some_iff_getElem];refine⟨hp,i,by simpa using af,by simp,λj hj=> ?_⟩;simp [h j hj]
theorem ait {i:Nat} (aJ:¬256<l.length) (h1:¬l.length=0) (ha:l.getD 0 default=Gp) (af:i<l.length) (h:∀j,j<i->¬x7 l j) (ad:¬gS (l.getD i default)):lW l=((i:Int),1):=by
 unfold lW;rw[aO aJ,aO h1,aO (λh=>h ha),Xm af (λj hj=>di (h j hj)) (gU (.inl ad))];simp only;rw[aO ad]
theorem aiu {i:Nat} (aJ:¬256<l.length) (h1:¬l.length=0) (ha:l.getD 0 default=Gp) (af:i<l.length) (h:∀j,j<i->¬x7 l j) (aC:gS (l.getD i default)) (ad:(l.getD i default).1∈BH l i):lW l=((i:Int),10):=by
 unfold lW;rw[aO aJ,aO h1,aO (λh=>h ha),Xm af (λj hj=>di (h j hj)) (gU (.inr ad))];simp only;rw[aN aC]
theorem aiv (aJ:¬256<l.length) (h1:¬l.length=0) (ha:l.getD 0 default=Gp) (h:∀j,j<l.length->¬x7 l j):lW l=(0,0):=by
 unfold lW;rw[aO aJ,aO h1,aO (λh=>h ha),List.find?_eq_none.2 λj hj=>by simpa using h j (by simpa using hj)]
theorem aiw {i:Nat} (aC:gS (l.getD i default)) (ad:¬(l.getD i default).1∈BH l i):¬x7 l i:=λh=>h.elim (λh=>h aC) ad
theorem aix {i:Nat} (af:i<l.length):BH l (i+1)=BH l i++[(l.getD i default).1]:=by
 unfold BH;rw[List.take_add_one,List.map_append,fP af,dr,fP af];rfl
end
theorem Qi:a7 Tryz.prog (underlying 133)=some (.map 9 4):=aw
theorem Qj:a7 Tryz.prog (underlying 9)=some .string:=aw
theorem aiy:a7 Tryz.prog (zeroValue 4)=some (.bool false):=aw
theorem Qk (b:Bool) (n:hn):a7 Tryz.prog (Instr.checkKey b 10000 9 (cp n))=some ():=aw
end AE
end Go.Proofs.YtepcfjbfkedlpaaGreatDoor
namespace Go.Proofs.YtepcfjbfkedlpaaGreatDoor
open Go Go.Proofs Go.Shelf Go.RowKit Go.Lib
section
def aiz:Go.Shelf.Ren:=⟨λ|15=>126|20=>132|n=>n,λ|9=>9|23=>166|3=>3|4=>4|0=>0|21=>21|n=>n,λ|n=>n⟩
theorem aiA:Go.Proofs.LaysGw.n15 Tryz.prog aiz:={
 mixed:=by kernel_rfl
 f15:=Tryz.func126.trans (congrArg some aw)
 f20:=Tryz.func132.trans (congrArg some aw)
 t0:=Tryz.underlying0
 a0:=Tryz.isAgg0
 z0:=Tryz.sizeOf0
 v0:=Tryz.zeroValue0
 i0:=by kernel_rfl
 t3:=Tryz.underlying3
 a3:=Tryz.isAgg3
 z3:=Tryz.sizeOf3
 v3:=Tryz.zeroValue3
 i3:=by kernel_rfl
 t4:=Tryz.underlying4
 a4:=Tryz.isAgg4
 z4:=Tryz.sizeOf4
 v4:=Tryz.zeroValue4
 i4:=by kernel_rfl
 t9:=Tryz.underlying9
 a9:=Tryz.isAgg9
 z9:=Tryz.sizeOf9
 v9:=Tryz.zeroValue9
 i9:=by kernel_rfl
 t21:=Tryz.underlying21
 a21:=Tryz.isAgg21
 z21:=Tryz.sizeOf21
 v21:=Tryz.zeroValue21
 i21:=by kernel_rfl
 t23:=Tryz.underlying166
 a23:=Tryz.isAgg166
 z23:=Tryz.sizeOf166
 v23:=Tryz.zeroValue166
 i23:=by kernel_rfl}
open Go.RowKit Go.Lib in
theorem strings_IndexFunc (g:Nat) (Hn:Array U) (aiB:∀args w,(callFunc g args).run Tryz.prog w= .ok (.enter g args) w) (p:Nat->Bool) (s:ByteArray) (w:au) (hp:PredAt Tryz.prog g Hn encR p w):
 Calls Tryz.prog 126 #[.string s,.func (.func g) #[] Hn] w λe w'=>e= .returned (.int .i64 (Lib.idxFunc p true s))/\Below w.heap.size w w':=Any.strings_IndexFunc aiA g Hn aiB p s w hp
namespace AE
theorem aiC (r:Nat) (W:au):Calls Tryz.prog 125 #[encR r] W λe w'=>e= .returned (.bool (JT r))/\∃q,w'=W.drewN q:=by
 by_cases h1:97<=r<;>by_cases ae:r<=122
 all_goals
  have xo:(97:Int)<=(r:Int)↔97<=r:=by omega
  have z2:(r:Int)<=122↔r<=122:=by omega
  go_enter Tryz.func125,Tryz.ntmps125
  go_wp2
  all_goals first|(exfalso;omega)|(go_ret;exact⟨by simp [JT,h1,ae],0,rfl⟩)
theorem aiD (w:au) (B off:Nat) (dI:B<w.heap.size) (al:w.cell? ⟨B,off,none⟩=some (.func (.func 125) #[] #[])):
  PredAt Tryz.prog 127 #[.pointer (some ⟨B,off,none⟩)] encR BG w:=λW r ad=>by
 have Ah:W.cell? ⟨B,off,none⟩=some (.func (.func 125) #[] #[]):=(ad.cell (p:=⟨B,off,none⟩) dI).trans al;have hL:=aiC r W;unfold FnGives;cases h1:JT r<;>by_cases z2:(r:Int)=45
 all_goals
  have ae:r=45↔(r:Int)=45:=by omega
  rw[h1] at hL
  go_enter Tryz.func127,Tryz.ntmps127
  go_wp2_with (go_at_call 125;refine hL.mono ?_;rintro e w' ⟨rfl,q,rfl⟩)
  all_goals first|(go_ret;exact⟨by simp [BG,h1,ae,z2],q,rfl⟩)|omega
theorem Xn (g:FuncId) (u:U):aM (yT g u)=false:=by unfold yT;simp [aM,dW]
theorem Xo [aY] {x r:U} {s:hn} (hp:aM x=true) (hr:aM r=true) (ex:aK x=cp s) (bX:aK r= .int .i64 (Lib.idxFunc BG true ⟨s.toArray⟩)):
  AH Tryz.prog (126,[x,yT 127 (.func (.func 125) ⟨[]⟩ ⟨[]⟩)],r):=by
 intro w _ us ha
 match us,ha with
 |[dD,ej],⟨h1,ae,_⟩=>
  have e1:dD=cp s:=by
   rcases h1 with ⟨_,h⟩|⟨g,u,B,off,h,_⟩
   ·rw[h,ex]
   ·rw[h,Xn] at hp;cases hp
  rcases ae with ⟨h,_⟩|⟨g,u,B,off,h,_,e2,dI,al⟩
  ·rw[Xn] at h;cases h
  ·unfold yT at h
   simp only [Value.func.injEq,Fn.func.injEq,Array.mk.injEq,List.cons.injEq,Value.agg.injEq,and_true,true_and] at h;obtain⟨rfl,rfl⟩:=h;subst e1 e2;refine(strings_IndexFunc 127 #[.pointer (some ⟨B,off,none⟩)] (enters_of Tryz.func127 aw rfl) BG ⟨s.toArray⟩ w (aiD w B off dI al)).mono λe w' ⟨he,ad⟩=> ?_
   exact⟨_,he,λφ=>by rw[<-bX];exact aD.vG φ r hr,⟨ad,bY _⟩⟩
 |[],h=>exact h.elim
 |[_],h=>exact h.2.elim
 |_::_::_::_,h=>exact h.2.2.elim
end AE
end
end Go.Proofs.YtepcfjbfkedlpaaGreatDoor
namespace Go.Proofs.YtepcfjbfkedlpaaGreatDoor
open Go Go.Proofs Go.RowKit
namespace AE
namespace Ql
noncomputable def body:Code:=(Tryz.f113.body).getD .skip
def N:Nat:=31
noncomputable abbrev bV:=gu Tryz.prog Tryz.f113
def a6:b6:={sl:=dn [(0,0)],ms:=[],A:=start}
def cq:bC:=[(.len #[9] 3 0,1),
 (.bin .gtr 3 1 (I 0),.bool true),
 (.bin .leq 3 1 (I 32),.bool true),
 (.eA 9 0 (I 0),2),
 (.bin .neq 5 2 (.int .u8 45),.bool false)]
theorem bk:bV (at' 31 cq [] body a6)=some (.bool false):=aw
def c4:bC:=[(.len #[9] 3 0,1),
 (.bin .gtr 3 1 (I 0),.bool true),
 (.bin .leq 3 1 (I 32),.bool true),
 (.eA 9 0 (I 0),2),
 (.bin .neq 5 2 (.int .u8 45),.bool true),
 (.bin .sub 3 1 (I 1),3),
 (.eA 9 0 3,4),
 (.bin .neq 5 4 (.int .u8 45),.bool false)]
theorem e1:bV (at' 31 c4 [] body a6)=some (.bool false):=aw
def ew:bC:=[(.len #[9] 3 0,1),
 (.bin .gtr 3 1 (I 0),.bool true),
 (.bin .leq 3 1 (I 32),.bool true),
 (.eA 9 0 (I 0),2),
 (.bin .neq 5 2 (.int .u8 45),.bool true),
 (.bin .sub 3 1 (I 1),3),
 (.eA 9 0 3,4),
 (.bin .neq 5 4 (.int .u8 45),.bool true),
 (.bin .lss 3 5 (I 0),.bool true)]
def nK:ef:=[(126,[0,.func (.func 127) ⟨[]⟩ ⟨[.agg ⟨[.slice none 7 7,.func (.func 125) ⟨[]⟩ ⟨[]⟩]⟩]⟩],5)]
theorem e2:bV (at' 31 ew nK body a6)=some (.bool true):=aw
def eP:bC:=[(.len #[9] 3 0,1),
 (.bin .gtr 3 1 (I 0),.bool true),
 (.bin .leq 3 1 (I 32),.bool true),
 (.eA 9 0 (I 0),2),
 (.bin .neq 5 2 (.int .u8 45),.bool true),
 (.bin .sub 3 1 (I 1),3),
 (.eA 9 0 3,4),
 (.bin .neq 5 4 (.int .u8 45),.bool true),
 (.bin .lss 3 5 (I 0),.bool false)]
def rQ:ef:=[(126,[0,.func (.func 127) ⟨[]⟩ ⟨[.agg ⟨[.slice none 7 7,.func (.func 125) ⟨[]⟩ ⟨[]⟩]⟩]⟩],5)]
theorem dH:bV (at' 31 eP rQ body a6)=some (.bool false):=aw
def gL:bC:=[(.len #[9] 3 0,1),
 (.bin .gtr 3 1 (I 0),.bool true),
 (.bin .leq 3 1 (I 32),.bool false)]
theorem jD:bV (at' 31 gL [] body a6)=some (.bool false):=aw
def iz:bC:=[(.len #[9] 3 0,1),
 (.bin .gtr 3 1 (I 0),.bool false)]
theorem oP:bV (at' 31 iz [] body a6)=some (.bool false):=aw
@[reducible] noncomputable def cl (s:hn):List U:=[cp s,I ((s.length:Nat):Int),.int .u8 (((s.getD 0 0).toNat:Nat):Int),I (((s.length:Nat):Int)-1),.int .u8 (((s.getD ((((s.length:Nat):Int)-1)).toNat 0).toNat:Nat):Int),I (Lib.idxFunc BG true ⟨s.toArray⟩)]
theorem any (W:au) (s:hn):Calls Tryz.prog 113 #[cp s] W λe w'=>e= .returned (.bool (decide (oh s)))/\ch W.heap.size W w':=by
 refine kH (cl s) body a6 N [aj 0] Tryz.func113 λa ai=> ?_
 letI:=du ai;by_cases aJ:0<((s.length:Nat):Int)
 ·by_cases h1:((s.length:Nat):Int)<=32
  ·by_cases ae:(((s.getD 0 0).toNat:Nat):Int)=45
   ·refine bO cq [] (ah (aR.y0 J J qn J J) (ah bD (ah bD (ah (aR.AT (l:=s) (j:=0) (show 0<s.length by omega) J J J qn J J J) (ah u3 bc))))) bd ?_ ai
    exact bT bk λw2 br=>(by (rw[di (λh:oh s=>by have h1:=h.1;have ae:=h.2.1;have ay:=h.2.2.1;have bE:=h.2.2.2;omega)];rfl))
   ·by_cases ay:(((s.getD ((((s.length:Nat):Int)-1)).toNat 0).toNat:Nat):Int)=45
    ·refine bO c4 [] (ah (aR.y0 J J qn J J) (ah bD (ah bD (ah (aR.AT (l:=s) (j:=0) (show 0<s.length by omega) J J J qn J J J) (ah wj (ah mj (ah (aR.AT (l:=s) (j:=((((s.length:Nat):Int)-1)).toNat) (show ((((s.length:Nat):Int)-1)).toNat<s.length by omega) J J J qn rfl (EO ao) rfl) (ah u3 bc)))))))) bd ?_ ai
     exact bT e1 λw2 br=>(by (rw[di (λh:oh s=>by have h1:=h.1;have ae:=h.2.1;have ay:=h.2.2.1;have bE:=h.2.2.2;omega)];rfl))
    ·by_cases bE:(Lib.idxFunc BG true ⟨s.toArray⟩)<0
     ·refine bO ew nK (ah (aR.y0 J J qn J J) (ah bD (ah bD (ah (aR.AT (l:=s) (j:=0) (show 0<s.length by omega) J J J qn J J J) (ah wj (ah mj (ah (aR.AT (l:=s) (j:=((((s.length:Nat):Int)-1)).toNat) (show ((((s.length:Nat):Int)-1)).toNat<s.length by omega) J J J qn rfl (EO ao) rfl) (ah wj (ah bD bc))))))))) (Mv (Xo J J J J) bd) ?_ ai
      exact bT e2 λw2 br=>(by (rw[gU (show oh s from ⟨⟨ao,ao⟩,bB,bB,bB⟩)];rfl))
     ·refine bO eP rQ (ah (aR.y0 J J qn J J) (ah bD (ah bD (ah (aR.AT (l:=s) (j:=0) (show 0<s.length by omega) J J J qn J J J) (ah wj (ah mj (ah (aR.AT (l:=s) (j:=((((s.length:Nat):Int)-1)).toNat) (show ((((s.length:Nat):Int)-1)).toNat<s.length by omega) J J J qn rfl (EO ao) rfl) (ah wj (ah a8 bc))))))))) (Mv (Xo J J J J) bd) ?_ ai
      exact bT dH λw2 br=>(by (rw[di (λh:oh s=>by have h1:=h.1;have ae:=h.2.1;have ay:=h.2.2.1;have bE:=h.2.2.2;omega)];rfl))
  ·refine bO gL [] (ah (aR.y0 J J qn J J) (ah bD (ah a8 bc))) bd ?_ ai
   exact bT jD λw2 br=>(by (rw[di (λh:oh s=>by have h1:=h.1;have ae:=h.2.1;have ay:=h.2.2.1;have bE:=h.2.2.2;omega)];rfl))
 ·refine bO iz [] (ah (aR.y0 J J qn J J) (ah a8 bc)) bd ?_ ai
  exact bT oP λw2 br=>(by (rw[di (λh:oh s=>by have h1:=h.1;have ae:=h.2.1;have ay:=h.2.2.1;have bE:=h.2.2.2;omega)];rfl))
end Ql
namespace Xp
noncomputable def body:Code:=(Tryz.f114.body).getD .skip
def N:Nat:=31
noncomputable abbrev bV:=gu Tryz.prog Tryz.f114
def a6:b6:={sl:=dn [(0,.agg ⟨[0,1,2,3,4,5,6,7]⟩)],ms:=[],A:=start}
def cq:bC:=[(.bp 168 1000000,.agg ⟨[cp [103,97,115],.bool false,.bool false,.bool false,cp [115,111,108,105,100],.bool true,.bool false,.bool false,cp [102,97,108,108,105,110,103],.bool true,.bool false,.bool true,cp [108,105,113,117,105,100],.bool false,.bool true,.bool false]⟩),
 (.bin .eql 4 (.bool false) 1,.bool false),
 (.bin .eql 4 (.bool true) 1,.bool true),
 (.bin .eql 4 (.bool false) 2,.bool false)]
theorem bk:bV (at' 31 cq [] body a6)=some (.agg ⟨[cp [],.bool false,.bool false,.bool false]⟩):=aw
def c4:bC:=[(.bp 168 1000000,.agg ⟨[cp [103,97,115],.bool false,.bool false,.bool false,cp [115,111,108,105,100],.bool true,.bool false,.bool false,cp [102,97,108,108,105,110,103],.bool true,.bool false,.bool true,cp [108,105,113,117,105,100],.bool false,.bool true,.bool false]⟩),
 (.bin .eql 4 (.bool false) 1,.bool false),
 (.bin .eql 4 (.bool true) 1,.bool true),
 (.bin .eql 4 (.bool false) 2,.bool true),
 (.bin .eql 4 (.bool false) 3,.bool false),
 (.bin .eql 4 (.bool true) 3,.bool true)]
theorem e1:bV (at' 31 c4 [] body a6)=some (.agg ⟨[cp [102,97,108,108,105,110,103],.bool true,.bool false,.bool true]⟩):=aw
def ew:bC:=[(.bp 168 1000000,.agg ⟨[cp [103,97,115],.bool false,.bool false,.bool false,cp [115,111,108,105,100],.bool true,.bool false,.bool false,cp [102,97,108,108,105,110,103],.bool true,.bool false,.bool true,cp [108,105,113,117,105,100],.bool false,.bool true,.bool false]⟩),
 (.bin .eql 4 (.bool false) 1,.bool false),
 (.bin .eql 4 (.bool true) 1,.bool true),
 (.bin .eql 4 (.bool false) 2,.bool true),
 (.bin .eql 4 (.bool false) 3,.bool true)]
theorem e2:bV (at' 31 ew [] body a6)=some (.agg ⟨[cp [115,111,108,105,100],.bool true,.bool false,.bool false]⟩):=aw
def eP:bC:=[(.bp 168 1000000,.agg ⟨[cp [103,97,115],.bool false,.bool false,.bool false,cp [115,111,108,105,100],.bool true,.bool false,.bool false,cp [102,97,108,108,105,110,103],.bool true,.bool false,.bool true,cp [108,105,113,117,105,100],.bool false,.bool true,.bool false]⟩),
 (.bin .eql 4 (.bool false) 1,.bool true),
 (.bin .eql 4 (.bool false) 2,.bool false),
 (.bin .eql 4 (.bool true) 1,.bool false),
 (.bin .eql 4 (.bool true) 2,.bool true),
 (.bin .eql 4 (.bool false) 3,.bool false)]
theorem dH:bV (at' 31 eP [] body a6)=some (.agg ⟨[cp [],.bool false,.bool false,.bool false]⟩):=aw
def gL:bC:=[(.bp 168 1000000,.agg ⟨[cp [103,97,115],.bool false,.bool false,.bool false,cp [115,111,108,105,100],.bool true,.bool false,.bool false,cp [102,97,108,108,105,110,103],.bool true,.bool false,.bool true,cp [108,105,113,117,105,100],.bool false,.bool true,.bool false]⟩),
 (.bin .eql 4 (.bool false) 1,.bool true),
 (.bin .eql 4 (.bool false) 2,.bool false),
 (.bin .eql 4 (.bool true) 1,.bool false),
 (.bin .eql 4 (.bool true) 2,.bool true),
 (.bin .eql 4 (.bool false) 3,.bool true)]
theorem jD:bV (at' 31 gL [] body a6)=some (.agg ⟨[cp [108,105,113,117,105,100],.bool false,.bool true,.bool false]⟩):=aw
def iz:bC:=[(.bp 168 1000000,.agg ⟨[cp [103,97,115],.bool false,.bool false,.bool false,cp [115,111,108,105,100],.bool true,.bool false,.bool false,cp [102,97,108,108,105,110,103],.bool true,.bool false,.bool true,cp [108,105,113,117,105,100],.bool false,.bool true,.bool false]⟩),
 (.bin .eql 4 (.bool false) 1,.bool true),
 (.bin .eql 4 (.bool false) 2,.bool true),
 (.bin .eql 4 (.bool false) 3,.bool false),
 (.bin .eql 4 (.bool true) 1,.bool false),
 (.bin .eql 4 (.bool true) 2,.bool false)]
theorem oP:bV (at' 31 iz [] body a6)=some (.agg ⟨[cp [],.bool false,.bool false,.bool false]⟩):=aw
def mK:bC:=[(.bp 168 1000000,.agg ⟨[cp [103,97,115],.bool false,.bool false,.bool false,cp [115,111,108,105,100],.bool true,.bool false,.bool false,cp [102,97,108,108,105,110,103],.bool true,.bool false,.bool true,cp [108,105,113,117,105,100],.bool false,.bool true,.bool false]⟩),
 (.bin .eql 4 (.bool false) 1,.bool true),
 (.bin .eql 4 (.bool false) 2,.bool true),
 (.bin .eql 4 (.bool false) 3,.bool true)]
theorem kY:bV (at' 31 mK [] body a6)=some (.agg ⟨[cp [103,97,115],.bool false,.bool false,.bool false]⟩):=aw
@[reducible] noncomputable def cl (x:cr):List U:=[cp x.1,.bool x.2.1,.bool x.2.2.1,.bool x.2.2.2.1,I x.2.2.2.2.1,I x.2.2.2.2.2.1,I x.2.2.2.2.2.2.1,I x.2.2.2.2.2.2.2]
theorem any (W:au) (x:cr) (b0:ly (aG W)):Calls Tryz.prog 114 #[M.val x] W λe w'=>e= .returned (K.val (lj x))/\ch W.heap.size W w':=by
 refine kH (cl x) body a6 N [.agg ⟨[aj 0,aj 1,aj 2,aj 3,aj 4,aj 5,aj 6,aj 7]⟩] Tryz.func114 λa ai=> ?_
 letI:=du ai;by_cases aJ:x.2.1=true
 ·by_cases h1:x.2.2.1=true
  ·refine bO cq [] (ah (AW b0 (o:=0) (n:=16) J J aw aw J J J J) (ah (xn J J J J cv aJ) (ah (CF J J J J J aJ) (ah (xn J J J J cv h1) bc)))) bd ?_ ai
   exact bT bk λw2 br=>(by (rw[aip bB bB];rfl))
  ·by_cases ae:x.2.2.2.1=true
   ·refine bO c4 [] (ah (AW b0 (o:=0) (n:=16) J J aw aw J J J J) (ah (xn J J J J cv aJ) (ah (CF J J J J J aJ) (ah (uF J J J J cv h1) (ah (xn J J J J cv ae) (ah (CF J J J J J ae) bc)))))) bd ?_ ai
    exact bT e1 λw2 br=>(by (rw[ain bB bB bB];rfl))
   ·refine bO ew [] (ah (AW b0 (o:=0) (n:=16) J J aw aw J J J J) (ah (xn J J J J cv aJ) (ah (CF J J J J J aJ) (ah (uF J J J J cv h1) (ah (uF J J J J cv ae) bc))))) bd ?_ ai
    exact bT e2 λw2 br=>(by (rw[aim bB bB bB];rfl))
 ·by_cases h1:x.2.2.1=true
  ·by_cases ae:x.2.2.2.1=true
   ·refine bO eP [] (ah (AW b0 (o:=0) (n:=16) J J aw aw J J J J) (ah (uF J J J J cv aJ) (ah (xn J J J J cv h1) (ah (Ih J J J J J aJ) (ah (CF J J J J J h1) (ah (xn J J J J cv ae) bc)))))) bd ?_ ai
    exact bT dH λw2 br=>(by (rw[Xl bB bB];rfl))
   ·refine bO gL [] (ah (AW b0 (o:=0) (n:=16) J J aw aw J J J J) (ah (uF J J J J cv aJ) (ah (xn J J J J cv h1) (ah (Ih J J J J J aJ) (ah (CF J J J J J h1) (ah (uF J J J J cv ae) bc)))))) bd ?_ ai
    exact bT jD λw2 br=>(by (rw[aio bB bB bB];rfl))
  ·by_cases ae:x.2.2.2.1=true
   ·refine bO iz [] (ah (AW b0 (o:=0) (n:=16) J J aw aw J J J J) (ah (uF J J J J cv aJ) (ah (uF J J J J cv h1) (ah (xn J J J J cv ae) (ah (Ih J J J J J aJ) (ah (Ih J J J J J h1) bc)))))) bd ?_ ai
    exact bT oP λw2 br=>(by (rw[Xl bB bB];rfl))
   ·refine bO mK [] (ah (AW b0 (o:=0) (n:=16) J J aw aw J J J J) (ah (uF J J J J cv aJ) (ah (uF J J J J cv h1) (ah (uF J J J J cv ae) bc)))) bd ?_ ai
    exact bT kY λw2 br=>(by (rw[ail bB bB bB];rfl))
end Xp
end AE
namespace AE
variable [aY]
theorem kJ {x:U} {s:hn} (hp:dW [x]=true) (a':et [x]=[cp s]) (h:oh s):ju Tryz.prog (113,[x],.bool true):=
 lR (a:= #[cp s]) hp rfl a' rfl λw _=>(Ql.any w s).mono λe w' eW=>by rw[gU h] at eW;exact eW
theorem BI {x:U} {s:hn} (hp:dW [x]=true) (a':et [x]=[cp s]) (h:¬oh s):ju Tryz.prog (113,[x],.bool false):=
 lR (a:= #[cp s]) hp rfl a' rfl λw _=>(Ql.any w s).mono λe w' eW=>by rw[di h] at eW;exact eW
theorem kK {x r:U} {m:cr} (hp:dW [x]=true) (hr:aM r=true) (a':et [x]=[M.val m]) (bX:aK r=K.val (lj m)) (b0:ly aY.dg):ju Tryz.prog (114,[x],r):=
 lR (a:= #[M.val m]) hp hr a' bX λw hw=>Xp.any w m (b0.mono hw)
end AE
namespace AE
namespace Qm
noncomputable def body:Code:=(Tryz.f85.body).getD .skip
def N:Nat:=30
noncomputable abbrev bV:=gu Tryz.prog Tryz.f85
def a6:b6:={sl:=dn [(0,.agg ⟨[0,1,2,3,4,5,6,7]⟩)],ms:=[],A:=start}
def cq:bC:=[(.bin .lss 3 5 (I 0),.bool true),
 (.bin .neq 9 8 (cp []),.bool false)]
def lE:ef:=[(113,[0],.bool true),
 (114,[.agg ⟨[aj 0,aj 1,aj 2,aj 3,aj 4,aj 5,aj 6,aj 7]⟩],.agg ⟨[aj 8,aj 9,aj 10,aj 11]⟩)]
theorem bk:bV (at' 30 cq lE body a6)=some (.bool false):=aw
def c4:bC:=[(.bin .lss 3 5 (I 0),.bool true),
 (.bin .neq 9 8 (cp []),.bool true),
 (.bin .geq 3 4 (I 1),.bool true),
 (.bin .leq 3 4 (I 16),.bool true)]
def jH:ef:=[(113,[0],.bool true),
 (114,[.agg ⟨[aj 0,aj 1,aj 2,aj 3,aj 4,aj 5,aj 6,aj 7]⟩],.agg ⟨[aj 8,aj 9,aj 10,aj 11]⟩)]
theorem e1:bV (at' 30 c4 jH body a6)=some (.bool false):=aw
def ew:bC:=[(.bin .lss 3 5 (I 0),.bool true),
 (.bin .neq 9 8 (cp []),.bool true),
 (.bin .geq 3 4 (I 1),.bool true),
 (.bin .leq 3 4 (I 16),.bool false)]
def nK:ef:=[(113,[0],.bool true),
 (114,[.agg ⟨[aj 0,aj 1,aj 2,aj 3,aj 4,aj 5,aj 6,aj 7]⟩],.agg ⟨[aj 8,aj 9,aj 10,aj 11]⟩)]
theorem e2:bV (at' 30 ew nK body a6)=some (.bool false):=aw
def eP:bC:=[(.bin .lss 3 5 (I 0),.bool true),
 (.bin .neq 9 8 (cp []),.bool true),
 (.bin .geq 3 4 (I 1),.bool false)]
def rQ:ef:=[(113,[0],.bool true),
 (114,[.agg ⟨[aj 0,aj 1,aj 2,aj 3,aj 4,aj 5,aj 6,aj 7]⟩],.agg ⟨[aj 8,aj 9,aj 10,aj 11]⟩)]
theorem dH:bV (at' 30 eP rQ body a6)=some (.bool false):=aw
def gL:bC:=[(.bin .lss 3 5 (I 0),.bool true)]
def vl:ef:=[(113,[0],.bool false)]
theorem jD:bV (at' 30 gL vl body a6)=some (.bool false):=aw
def iz:bC:=[(.bin .lss 3 5 (I 0),.bool false),
 (.bin .gtr 3 5 (I 15),.bool true),
 (.bin .neq 9 8 (cp []),.bool false)]
def Gl:ef:=[(113,[0],.bool true),
 (114,[.agg ⟨[aj 0,aj 1,aj 2,aj 3,aj 4,aj 5,aj 6,aj 7]⟩],.agg ⟨[aj 8,aj 9,aj 10,aj 11]⟩)]
theorem oP:bV (at' 30 iz Gl body a6)=some (.bool false):=aw
def mK:bC:=[(.bin .lss 3 5 (I 0),.bool false),
 (.bin .gtr 3 5 (I 15),.bool true),
 (.bin .neq 9 8 (cp []),.bool true),
 (.bin .geq 3 4 (I 1),.bool true),
 (.bin .leq 3 4 (I 16),.bool true)]
def x6:ef:=[(113,[0],.bool true),
 (114,[.agg ⟨[aj 0,aj 1,aj 2,aj 3,aj 4,aj 5,aj 6,aj 7]⟩],.agg ⟨[aj 8,aj 9,aj 10,aj 11]⟩)]
theorem kY:bV (at' 30 mK x6 body a6)=some (.bool false):=aw
def oT:bC:=[(.bin .lss 3 5 (I 0),.bool false),
 (.bin .gtr 3 5 (I 15),.bool true),
 (.bin .neq 9 8 (cp []),.bool true),
 (.bin .geq 3 4 (I 1),.bool true),
 (.bin .leq 3 4 (I 16),.bool false)]
def Gm:ef:=[(113,[0],.bool true),
 (114,[.agg ⟨[aj 0,aj 1,aj 2,aj 3,aj 4,aj 5,aj 6,aj 7]⟩],.agg ⟨[aj 8,aj 9,aj 10,aj 11]⟩)]
theorem kR:bV (at' 30 oT Gm body a6)=some (.bool false):=aw
def qL:bC:=[(.bin .lss 3 5 (I 0),.bool false),
 (.bin .gtr 3 5 (I 15),.bool true),
 (.bin .neq 9 8 (cp []),.bool true),
 (.bin .geq 3 4 (I 1),.bool false)]
def zK:ef:=[(113,[0],.bool true),
 (114,[.agg ⟨[aj 0,aj 1,aj 2,aj 3,aj 4,aj 5,aj 6,aj 7]⟩],.agg ⟨[aj 8,aj 9,aj 10,aj 11]⟩)]
theorem lN:bV (at' 30 qL zK body a6)=some (.bool false):=aw
def vi:bC:=[(.bin .lss 3 5 (I 0),.bool false),
 (.bin .gtr 3 5 (I 15),.bool true)]
def Gn:ef:=[(113,[0],.bool false)]
theorem sS:bV (at' 30 vi Gn body a6)=some (.bool false):=aw
def vj:bC:=[(.bin .lss 3 5 (I 0),.bool false),
 (.bin .gtr 3 5 (I 15),.bool false),
 (.bin .lss 3 6 (I 0),.bool true),
 (.bin .neq 9 8 (cp []),.bool false)]
def Xq:ef:=[(113,[0],.bool true),
 (114,[.agg ⟨[aj 0,aj 1,aj 2,aj 3,aj 4,aj 5,aj 6,aj 7]⟩],.agg ⟨[aj 8,aj 9,aj 10,aj 11]⟩)]
theorem x3:bV (at' 30 vj Xq body a6)=some (.bool false):=aw
def x2:bC:=[(.bin .lss 3 5 (I 0),.bool false),
 (.bin .gtr 3 5 (I 15),.bool false),
 (.bin .lss 3 6 (I 0),.bool true),
 (.bin .neq 9 8 (cp []),.bool true),
 (.bin .geq 3 4 (I 1),.bool true),
 (.bin .leq 3 4 (I 16),.bool true)]
def Xr:ef:=[(113,[0],.bool true),
 (114,[.agg ⟨[aj 0,aj 1,aj 2,aj 3,aj 4,aj 5,aj 6,aj 7]⟩],.agg ⟨[aj 8,aj 9,aj 10,aj 11]⟩)]
theorem vk:bV (at' 30 x2 Xr body a6)=some (.bool false):=aw
def x4:bC:=[(.bin .lss 3 5 (I 0),.bool false),
 (.bin .gtr 3 5 (I 15),.bool false),
 (.bin .lss 3 6 (I 0),.bool true),
 (.bin .neq 9 8 (cp []),.bool true),
 (.bin .geq 3 4 (I 1),.bool true),
 (.bin .leq 3 4 (I 16),.bool false)]
def Xs:ef:=[(113,[0],.bool true),
 (114,[.agg ⟨[aj 0,aj 1,aj 2,aj 3,aj 4,aj 5,aj 6,aj 7]⟩],.agg ⟨[aj 8,aj 9,aj 10,aj 11]⟩)]
theorem og:bV (at' 30 x4 Xs body a6)=some (.bool false):=aw
def zH:bC:=[(.bin .lss 3 5 (I 0),.bool false),
 (.bin .gtr 3 5 (I 15),.bool false),
 (.bin .lss 3 6 (I 0),.bool true),
 (.bin .neq 9 8 (cp []),.bool true),
 (.bin .geq 3 4 (I 1),.bool false)]
def Xt:ef:=[(113,[0],.bool true),
 (114,[.agg ⟨[aj 0,aj 1,aj 2,aj 3,aj 4,aj 5,aj 6,aj 7]⟩],.agg ⟨[aj 8,aj 9,aj 10,aj 11]⟩)]
theorem sO:bV (at' 30 zH Xt body a6)=some (.bool false):=aw
def Gq:bC:=[(.bin .lss 3 5 (I 0),.bool false),
 (.bin .gtr 3 5 (I 15),.bool false),
 (.bin .lss 3 6 (I 0),.bool true)]
def Xu:ef:=[(113,[0],.bool false)]
theorem P4:bV (at' 30 Gq Xu body a6)=some (.bool false):=aw
def Gr:bC:=[(.bin .lss 3 5 (I 0),.bool false),
 (.bin .gtr 3 5 (I 15),.bool false),
 (.bin .lss 3 6 (I 0),.bool false),
 (.bin .gtr 3 6 (I 15),.bool true),
 (.bin .neq 9 8 (cp []),.bool false)]
def Gs:ef:=[(113,[0],.bool true),
 (114,[.agg ⟨[aj 0,aj 1,aj 2,aj 3,aj 4,aj 5,aj 6,aj 7]⟩],.agg ⟨[aj 8,aj 9,aj 10,aj 11]⟩)]
theorem P5:bV (at' 30 Gr Gs body a6)=some (.bool false):=aw
def Xv:bC:=[(.bin .lss 3 5 (I 0),.bool false),
 (.bin .gtr 3 5 (I 15),.bool false),
 (.bin .lss 3 6 (I 0),.bool false),
 (.bin .gtr 3 6 (I 15),.bool true),
 (.bin .neq 9 8 (cp []),.bool true),
 (.bin .geq 3 4 (I 1),.bool true),
 (.bin .leq 3 4 (I 16),.bool true)]
def Xw:ef:=[(113,[0],.bool true),
 (114,[.agg ⟨[aj 0,aj 1,aj 2,aj 3,aj 4,aj 5,aj 6,aj 7]⟩],.agg ⟨[aj 8,aj 9,aj 10,aj 11]⟩)]
theorem Gh:bV (at' 30 Xv Xw body a6)=some (.bool false):=aw
def Xx:bC:=[(.bin .lss 3 5 (I 0),.bool false),
 (.bin .gtr 3 5 (I 15),.bool false),
 (.bin .lss 3 6 (I 0),.bool false),
 (.bin .gtr 3 6 (I 15),.bool true),
 (.bin .neq 9 8 (cp []),.bool true),
 (.bin .geq 3 4 (I 1),.bool true),
 (.bin .leq 3 4 (I 16),.bool false)]
def Xy:ef:=[(113,[0],.bool true),
 (114,[.agg ⟨[aj 0,aj 1,aj 2,aj 3,aj 4,aj 5,aj 6,aj 7]⟩],.agg ⟨[aj 8,aj 9,aj 10,aj 11]⟩)]
theorem Qn:bV (at' 30 Xx Xy body a6)=some (.bool false):=aw
def Xz:bC:=[(.bin .lss 3 5 (I 0),.bool false),
 (.bin .gtr 3 5 (I 15),.bool false),
 (.bin .lss 3 6 (I 0),.bool false),
 (.bin .gtr 3 6 (I 15),.bool true),
 (.bin .neq 9 8 (cp []),.bool true),
 (.bin .geq 3 4 (I 1),.bool false)]
def XA:ef:=[(113,[0],.bool true),
 (114,[.agg ⟨[aj 0,aj 1,aj 2,aj 3,aj 4,aj 5,aj 6,aj 7]⟩],.agg ⟨[aj 8,aj 9,aj 10,aj 11]⟩)]
theorem ve:bV (at' 30 Xz XA body a6)=some (.bool false):=aw
def XB:bC:=[(.bin .lss 3 5 (I 0),.bool false),
 (.bin .gtr 3 5 (I 15),.bool false),
 (.bin .lss 3 6 (I 0),.bool false),
 (.bin .gtr 3 6 (I 15),.bool true)]
def XC:ef:=[(113,[0],.bool false)]
theorem Gt:bV (at' 30 XB XC body a6)=some (.bool false):=aw
def XD:bC:=[(.bin .lss 3 5 (I 0),.bool false),
 (.bin .gtr 3 5 (I 15),.bool false),
 (.bin .lss 3 6 (I 0),.bool false),
 (.bin .gtr 3 6 (I 15),.bool false),
 (.bin .lss 3 7 (I 0),.bool true),
 (.bin .neq 9 8 (cp []),.bool false)]
def XE:ef:=[(113,[0],.bool true),
 (114,[.agg ⟨[aj 0,aj 1,aj 2,aj 3,aj 4,aj 5,aj 6,aj 7]⟩],.agg ⟨[aj 8,aj 9,aj 10,aj 11]⟩)]
theorem Qo:bV (at' 30 XD XE body a6)=some (.bool false):=aw
def XF:bC:=[(.bin .lss 3 5 (I 0),.bool false),
 (.bin .gtr 3 5 (I 15),.bool false),
 (.bin .lss 3 6 (I 0),.bool false),
 (.bin .gtr 3 6 (I 15),.bool false),
 (.bin .lss 3 7 (I 0),.bool true),
 (.bin .neq 9 8 (cp []),.bool true),
 (.bin .geq 3 4 (I 1),.bool true),
 (.bin .leq 3 4 (I 16),.bool true)]
def XG:ef:=[(113,[0],.bool true),
 (114,[.agg ⟨[aj 0,aj 1,aj 2,aj 3,aj 4,aj 5,aj 6,aj 7]⟩],.agg ⟨[aj 8,aj 9,aj 10,aj 11]⟩)]
theorem vg:bV (at' 30 XF XG body a6)=some (.bool false):=aw
def XH:bC:=[(.bin .lss 3 5 (I 0),.bool false),
 (.bin .gtr 3 5 (I 15),.bool false),
 (.bin .lss 3 6 (I 0),.bool false),
 (.bin .gtr 3 6 (I 15),.bool false),
 (.bin .lss 3 7 (I 0),.bool true),
 (.bin .neq 9 8 (cp []),.bool true),
 (.bin .geq 3 4 (I 1),.bool true),
 (.bin .leq 3 4 (I 16),.bool false)]
def XI:ef:=[(113,[0],.bool true),
 (114,[.agg ⟨[aj 0,aj 1,aj 2,aj 3,aj 4,aj 5,aj 6,aj 7]⟩],.agg ⟨[aj 8,aj 9,aj 10,aj 11]⟩)]
theorem P6:bV (at' 30 XH XI body a6)=some (.bool false):=aw
def XJ:bC:=[(.bin .lss 3 5 (I 0),.bool false),
 (.bin .gtr 3 5 (I 15),.bool false),
 (.bin .lss 3 6 (I 0),.bool false),
 (.bin .gtr 3 6 (I 15),.bool false),
 (.bin .lss 3 7 (I 0),.bool true),
 (.bin .neq 9 8 (cp []),.bool true),
 (.bin .geq 3 4 (I 1),.bool false)]
def XK:ef:=[(113,[0],.bool true),
 (114,[.agg ⟨[aj 0,aj 1,aj 2,aj 3,aj 4,aj 5,aj 6,aj 7]⟩],.agg ⟨[aj 8,aj 9,aj 10,aj 11]⟩)]
theorem aiE:bV (at' 30 XJ XK body a6)=some (.bool false):=aw
def XL:bC:=[(.bin .lss 3 5 (I 0),.bool false),
 (.bin .gtr 3 5 (I 15),.bool false),
 (.bin .lss 3 6 (I 0),.bool false),
 (.bin .gtr 3 6 (I 15),.bool false),
 (.bin .lss 3 7 (I 0),.bool true)]
def XM:ef:=[(113,[0],.bool false)]
theorem Qp:bV (at' 30 XL XM body a6)=some (.bool false):=aw
def XO:bC:=[(.bin .lss 3 5 (I 0),.bool false),
 (.bin .gtr 3 5 (I 15),.bool false),
 (.bin .lss 3 6 (I 0),.bool false),
 (.bin .gtr 3 6 (I 15),.bool false),
 (.bin .lss 3 7 (I 0),.bool false),
 (.bin .gtr 3 7 (I 15),.bool true),
 (.bin .neq 9 8 (cp []),.bool false)]
def XP:ef:=[(113,[0],.bool true),
 (114,[.agg ⟨[aj 0,aj 1,aj 2,aj 3,aj 4,aj 5,aj 6,aj 7]⟩],.agg ⟨[aj 8,aj 9,aj 10,aj 11]⟩)]
theorem Qq:bV (at' 30 XO XP body a6)=some (.bool false):=aw
def XQ:bC:=[(.bin .lss 3 5 (I 0),.bool false),
 (.bin .gtr 3 5 (I 15),.bool false),
 (.bin .lss 3 6 (I 0),.bool false),
 (.bin .gtr 3 6 (I 15),.bool false),
 (.bin .lss 3 7 (I 0),.bool false),
 (.bin .gtr 3 7 (I 15),.bool true),
 (.bin .neq 9 8 (cp []),.bool true),
 (.bin .geq 3 4 (I 1),.bool true),
 (.bin .leq 3 4 (I 16),.bool true)]
def XR:ef:=[(113,[0],.bool true),
 (114,[.agg ⟨[aj 0,aj 1,aj 2,aj 3,aj 4,aj 5,aj 6,aj 7]⟩],.agg ⟨[aj 8,aj 9,aj 10,aj 11]⟩)]
theorem BD:bV (at' 30 XQ XR body a6)=some (.bool false):=aw
def XS:bC:=[(.bin .lss 3 5 (I 0),.bool false),
 (.bin .gtr 3 5 (I 15),.bool false),
 (.bin .lss 3 6 (I 0),.bool false),
 (.bin .gtr 3 6 (I 15),.bool false),
 (.bin .lss 3 7 (I 0),.bool false),
 (.bin .gtr 3 7 (I 15),.bool true),
 (.bin .neq 9 8 (cp []),.bool true),
 (.bin .geq 3 4 (I 1),.bool true),
 (.bin .leq 3 4 (I 16),.bool false)]
def XT:ef:=[(113,[0],.bool true),
 (114,[.agg ⟨[aj 0,aj 1,aj 2,aj 3,aj 4,aj 5,aj 6,aj 7]⟩],.agg ⟨[aj 8,aj 9,aj 10,aj 11]⟩)]
theorem BE:bV (at' 30 XS XT body a6)=some (.bool false):=aw
def XU:bC:=[(.bin .lss 3 5 (I 0),.bool false),
 (.bin .gtr 3 5 (I 15),.bool false),
 (.bin .lss 3 6 (I 0),.bool false),
 (.bin .gtr 3 6 (I 15),.bool false),
 (.bin .lss 3 7 (I 0),.bool false),
 (.bin .gtr 3 7 (I 15),.bool true),
 (.bin .neq 9 8 (cp []),.bool true),
 (.bin .geq 3 4 (I 1),.bool false)]
def XV:ef:=[(113,[0],.bool true),
 (114,[.agg ⟨[aj 0,aj 1,aj 2,aj 3,aj 4,aj 5,aj 6,aj 7]⟩],.agg ⟨[aj 8,aj 9,aj 10,aj 11]⟩)]
theorem aiF:bV (at' 30 XU XV body a6)=some (.bool false):=aw
def XW:bC:=[(.bin .lss 3 5 (I 0),.bool false),
 (.bin .gtr 3 5 (I 15),.bool false),
 (.bin .lss 3 6 (I 0),.bool false),
 (.bin .gtr 3 6 (I 15),.bool false),
 (.bin .lss 3 7 (I 0),.bool false),
 (.bin .gtr 3 7 (I 15),.bool true)]
def XX:ef:=[(113,[0],.bool false)]
theorem aiG:bV (at' 30 XW XX body a6)=some (.bool false):=aw
def XY:bC:=[(.bin .lss 3 5 (I 0),.bool false),
 (.bin .gtr 3 5 (I 15),.bool false),
 (.bin .lss 3 6 (I 0),.bool false),
 (.bin .gtr 3 6 (I 15),.bool false),
 (.bin .lss 3 7 (I 0),.bool false),
 (.bin .gtr 3 7 (I 15),.bool false),
 (.bin .neq 9 8 (cp []),.bool false)]
def XZ:ef:=[(113,[0],.bool true),
 (114,[.agg ⟨[aj 0,aj 1,aj 2,aj 3,aj 4,aj 5,aj 6,aj 7]⟩],.agg ⟨[aj 8,aj 9,aj 10,aj 11]⟩)]
theorem Gu:bV (at' 30 XY XZ body a6)=some (.bool false):=aw
def X0:bC:=[(.bin .lss 3 5 (I 0),.bool false),
 (.bin .gtr 3 5 (I 15),.bool false),
 (.bin .lss 3 6 (I 0),.bool false),
 (.bin .gtr 3 6 (I 15),.bool false),
 (.bin .lss 3 7 (I 0),.bool false),
 (.bin .gtr 3 7 (I 15),.bool false),
 (.bin .neq 9 8 (cp []),.bool true),
 (.bin .geq 3 4 (I 1),.bool true),
 (.bin .leq 3 4 (I 16),.bool true)]
def X1:ef:=[(113,[0],.bool true),
 (114,[.agg ⟨[aj 0,aj 1,aj 2,aj 3,aj 4,aj 5,aj 6,aj 7]⟩],.agg ⟨[aj 8,aj 9,aj 10,aj 11]⟩)]
theorem Qr:bV (at' 30 X0 X1 body a6)=some (.bool true):=aw
def X2:bC:=[(.bin .lss 3 5 (I 0),.bool false),
 (.bin .gtr 3 5 (I 15),.bool false),
 (.bin .lss 3 6 (I 0),.bool false),
 (.bin .gtr 3 6 (I 15),.bool false),
 (.bin .lss 3 7 (I 0),.bool false),
 (.bin .gtr 3 7 (I 15),.bool false),
 (.bin .neq 9 8 (cp []),.bool true),
 (.bin .geq 3 4 (I 1),.bool true),
 (.bin .leq 3 4 (I 16),.bool false)]
def X3:ef:=[(113,[0],.bool true),
 (114,[.agg ⟨[aj 0,aj 1,aj 2,aj 3,aj 4,aj 5,aj 6,aj 7]⟩],.agg ⟨[aj 8,aj 9,aj 10,aj 11]⟩)]
theorem BF:bV (at' 30 X2 X3 body a6)=some (.bool false):=aw
def X4:bC:=[(.bin .lss 3 5 (I 0),.bool false),
 (.bin .gtr 3 5 (I 15),.bool false),
 (.bin .lss 3 6 (I 0),.bool false),
 (.bin .gtr 3 6 (I 15),.bool false),
 (.bin .lss 3 7 (I 0),.bool false),
 (.bin .gtr 3 7 (I 15),.bool false),
 (.bin .neq 9 8 (cp []),.bool true),
 (.bin .geq 3 4 (I 1),.bool false)]
def X5:ef:=[(113,[0],.bool true),
 (114,[.agg ⟨[aj 0,aj 1,aj 2,aj 3,aj 4,aj 5,aj 6,aj 7]⟩],.agg ⟨[aj 8,aj 9,aj 10,aj 11]⟩)]
theorem Qs:bV (at' 30 X4 X5 body a6)=some (.bool false):=aw
def X6:bC:=[(.bin .lss 3 5 (I 0),.bool false),
 (.bin .gtr 3 5 (I 15),.bool false),
 (.bin .lss 3 6 (I 0),.bool false),
 (.bin .gtr 3 6 (I 15),.bool false),
 (.bin .lss 3 7 (I 0),.bool false),
 (.bin .gtr 3 7 (I 15),.bool false)]
def X7:ef:=[(113,[0],.bool false)]
theorem aiH:bV (at' 30 X6 X7 body a6)=some (.bool false):=aw
@[reducible] noncomputable def cl (x:cr):List U:=[cp x.1,.bool x.2.1,.bool x.2.2.1,.bool x.2.2.2.1,I x.2.2.2.2.1,I x.2.2.2.2.2.1,I x.2.2.2.2.2.2.1,I x.2.2.2.2.2.2.2,cp (lj x).1,.bool (lj x).2.1,.bool (lj x).2.2.1,.bool (lj x).2.2.2]
theorem any (W:au) (x:cr) (b0:ly (aG W)):Calls Tryz.prog 85 #[M.val x] W λe w'=>e= .returned (.bool (decide (gS x)))/\ch W.heap.size W w':=by
 refine kH (cl x) body a6 N [.agg ⟨[aj 0,aj 1,aj 2,aj 3,aj 4,aj 5,aj 6,aj 7]⟩] Tryz.func85 λa ai=> ?_
 letI:=du ai;by_cases aJ:x.2.2.2.2.2.1<0
 ·by_cases h1:oh x.1
  ·by_cases ae:(lj x).1=([]:hn)
   ·refine bO cq lE (ah bD (ah (aR.AU J J J J ae) bc)) (cz (kJ J J h1) (cz (kK J J J J b0) bd)) ?_ ai
    exact bT bk λw2 br=>(by (rw[di (λh:gS x=>absurd h.2.1 (by exact not_not_intro bB))];rfl))
   ·by_cases ay:1<=x.2.2.2.2.1
    ·by_cases bE:x.2.2.2.2.1<=16
     ·refine bO c4 jH (ah bD (ah (aR.mW J J J J ae) (ah bD (ah bD bc)))) (cz (kJ J J h1) (cz (kK J J J J b0) bd)) ?_ ai
      exact bT e1 λw2 br=>(by (rw[di (λh:gS x=>by have:=h.2.2;omega)];rfl))
     ·refine bO ew nK (ah bD (ah (aR.mW J J J J ae) (ah bD (ah a8 bc)))) (cz (kJ J J h1) (cz (kK J J J J b0) bd)) ?_ ai
      exact bT e2 λw2 br=>(by (rw[di (λh:gS x=>by have:=h.2.2;omega)];rfl))
    ·refine bO eP rQ (ah bD (ah (aR.mW J J J J ae) (ah a8 bc))) (cz (kJ J J h1) (cz (kK J J J J b0) bd)) ?_ ai
     exact bT dH λw2 br=>(by (rw[di (λh:gS x=>by have:=h.2.2;omega)];rfl))
  ·refine bO gL vl (ah bD bc) (cz (BI J J h1) bd) ?_ ai
   exact bT jD λw2 br=>(by (rw[di (λh:gS x=>absurd h.1 bB)];rfl))
 ·by_cases h1:15<x.2.2.2.2.2.1
  ·by_cases ae:oh x.1
   ·by_cases ay:(lj x).1=([]:hn)
    ·refine bO iz Gl (ah a8 (ah bD (ah (aR.AU J J J J ay) bc))) (cz (kJ J J ae) (cz (kK J J J J b0) bd)) ?_ ai
     exact bT oP λw2 br=>(by (rw[di (λh:gS x=>absurd h.2.1 (by exact not_not_intro bB))];rfl))
    ·by_cases bE:1<=x.2.2.2.2.1
     ·by_cases cn:x.2.2.2.2.1<=16
      ·refine bO mK x6 (ah a8 (ah bD (ah (aR.mW J J J J ay) (ah bD (ah bD bc))))) (cz (kJ J J ae) (cz (kK J J J J b0) bd)) ?_ ai
       exact bT kY λw2 br=>(by (rw[di (λh:gS x=>by have:=h.2.2;omega)];rfl))
      ·refine bO oT Gm (ah a8 (ah bD (ah (aR.mW J J J J ay) (ah bD (ah a8 bc))))) (cz (kJ J J ae) (cz (kK J J J J b0) bd)) ?_ ai
       exact bT kR λw2 br=>(by (rw[di (λh:gS x=>by have:=h.2.2;omega)];rfl))
     ·refine bO qL zK (ah a8 (ah bD (ah (aR.mW J J J J ay) (ah a8 bc)))) (cz (kJ J J ae) (cz (kK J J J J b0) bd)) ?_ ai
      exact bT lN λw2 br=>(by (rw[di (λh:gS x=>by have:=h.2.2;omega)];rfl))
   ·refine bO vi Gn (ah a8 (ah bD bc)) (cz (BI J J ae) bd) ?_ ai
    exact bT sS λw2 br=>(by (rw[di (λh:gS x=>absurd h.1 bB)];rfl))
  ·by_cases ae:x.2.2.2.2.2.2.1<0
   ·by_cases ay:oh x.1
    ·by_cases bE:(lj x).1=([]:hn)
     ·refine bO vj Xq (ah a8 (ah a8 (ah bD (ah (aR.AU J J J J bE) bc)))) (cz (kJ J J ay) (cz (kK J J J J b0) bd)) ?_ ai
      exact bT x3 λw2 br=>(by (rw[di (λh:gS x=>absurd h.2.1 (by exact not_not_intro bB))];rfl))
     ·by_cases cn:1<=x.2.2.2.2.1
      ·by_cases cy:x.2.2.2.2.1<=16
       ·refine bO x2 Xr (ah a8 (ah a8 (ah bD (ah (aR.mW J J J J bE) (ah bD (ah bD bc)))))) (cz (kJ J J ay) (cz (kK J J J J b0) bd)) ?_ ai
        exact bT vk λw2 br=>(by (rw[di (λh:gS x=>by have:=h.2.2;omega)];rfl))
       ·refine bO x4 Xs (ah a8 (ah a8 (ah bD (ah (aR.mW J J J J bE) (ah bD (ah a8 bc)))))) (cz (kJ J J ay) (cz (kK J J J J b0) bd)) ?_ ai
        exact bT og λw2 br=>(by (rw[di (λh:gS x=>by have:=h.2.2;omega)];rfl))
      ·refine bO zH Xt (ah a8 (ah a8 (ah bD (ah (aR.mW J J J J bE) (ah a8 bc))))) (cz (kJ J J ay) (cz (kK J J J J b0) bd)) ?_ ai
       exact bT sO λw2 br=>(by (rw[di (λh:gS x=>by have:=h.2.2;omega)];rfl))
    ·refine bO Gq Xu (ah a8 (ah a8 (ah bD bc))) (cz (BI J J ay) bd) ?_ ai
     exact bT P4 λw2 br=>(by (rw[di (λh:gS x=>absurd h.1 bB)];rfl))
   ·by_cases ay:15<x.2.2.2.2.2.2.1
    ·by_cases bE:oh x.1
     ·by_cases cn:(lj x).1=([]:hn)
      ·refine bO Gr Gs (ah a8 (ah a8 (ah a8 (ah bD (ah (aR.AU J J J J cn) bc))))) (cz (kJ J J bE) (cz (kK J J J J b0) bd)) ?_ ai
       exact bT P5 λw2 br=>(by (rw[di (λh:gS x=>absurd h.2.1 (by exact not_not_intro bB))];rfl))
      ·by_cases cy:1<=x.2.2.2.2.1
       ·by_cases fx:x.2.2.2.2.1<=16
        ·refine bO Xv Xw (ah a8 (ah a8 (ah a8 (ah bD (ah (aR.mW J J J J cn) (ah bD (ah bD bc))))))) (cz (kJ J J bE) (cz (kK J J J J b0) bd)) ?_ ai
         exact bT Gh λw2 br=>(by (rw[di (λh:gS x=>by have:=h.2.2;omega)];rfl))
        ·refine bO Xx Xy (ah a8 (ah a8 (ah a8 (ah bD (ah (aR.mW J J J J cn) (ah bD (ah a8 bc))))))) (cz (kJ J J bE) (cz (kK J J J J b0) bd)) ?_ ai
         exact bT Qn λw2 br=>(by (rw[di (λh:gS x=>by have:=h.2.2;omega)];rfl))
       ·refine bO Xz XA (ah a8 (ah a8 (ah a8 (ah bD (ah (aR.mW J J J J cn) (ah a8 bc)))))) (cz (kJ J J bE) (cz (kK J J J J b0) bd)) ?_ ai
        exact bT ve λw2 br=>(by (rw[di (λh:gS x=>by have:=h.2.2;omega)];rfl))
     ·refine bO XB XC (ah a8 (ah a8 (ah a8 (ah bD bc)))) (cz (BI J J bE) bd) ?_ ai
      exact bT Gt λw2 br=>(by (rw[di (λh:gS x=>absurd h.1 bB)];rfl))
    ·by_cases bE:x.2.2.2.2.2.2.2<0
     ·by_cases cn:oh x.1
      ·by_cases cy:(lj x).1=([]:hn)
       ·refine bO XD XE (ah a8 (ah a8 (ah a8 (ah a8 (ah bD (ah (aR.AU J J J J cy) bc)))))) (cz (kJ J J cn) (cz (kK J J J J b0) bd)) ?_ ai
        exact bT Qo λw2 br=>(by (rw[di (λh:gS x=>absurd h.2.1 (by exact not_not_intro bB))];rfl))
       ·by_cases fx:1<=x.2.2.2.2.1
        ·by_cases px:x.2.2.2.2.1<=16
         ·refine bO XF XG (ah a8 (ah a8 (ah a8 (ah a8 (ah bD (ah (aR.mW J J J J cy) (ah bD (ah bD bc)))))))) (cz (kJ J J cn) (cz (kK J J J J b0) bd)) ?_ ai
          exact bT vg λw2 br=>(by (rw[di (λh:gS x=>by have:=h.2.2;omega)];rfl))
         ·refine bO XH XI (ah a8 (ah a8 (ah a8 (ah a8 (ah bD (ah (aR.mW J J J J cy) (ah bD (ah a8 bc)))))))) (cz (kJ J J cn) (cz (kK J J J J b0) bd)) ?_ ai
          exact bT P6 λw2 br=>(by (rw[di (λh:gS x=>by have:=h.2.2;omega)];rfl))
        ·refine bO XJ XK (ah a8 (ah a8 (ah a8 (ah a8 (ah bD (ah (aR.mW J J J J cy) (ah a8 bc))))))) (cz (kJ J J cn) (cz (kK J J J J b0) bd)) ?_ ai
         exact bT aiE λw2 br=>(by (rw[di (λh:gS x=>by have:=h.2.2;omega)];rfl))
      ·refine bO XL XM (ah a8 (ah a8 (ah a8 (ah a8 (ah bD bc))))) (cz (BI J J cn) bd) ?_ ai
       exact bT Qp λw2 br=>(by (rw[di (λh:gS x=>absurd h.1 bB)];rfl))
     ·by_cases cn:15<x.2.2.2.2.2.2.2
      ·by_cases cy:oh x.1
       ·by_cases fx:(lj x).1=([]:hn)
        ·refine bO XO XP (ah a8 (ah a8 (ah a8 (ah a8 (ah a8 (ah bD (ah (aR.AU J J J J fx) bc))))))) (cz (kJ J J cy) (cz (kK J J J J b0) bd)) ?_ ai
         exact bT Qq λw2 br=>(by (rw[di (λh:gS x=>absurd h.2.1 (by exact not_not_intro bB))];rfl))
        ·by_cases px:1<=x.2.2.2.2.1
         ·by_cases zX:x.2.2.2.2.1<=16
          ·refine bO XQ XR (ah a8 (ah a8 (ah a8 (ah a8 (ah a8 (ah bD (ah (aR.mW J J J J fx) (ah bD (ah bD bc))))))))) (cz (kJ J J cy) (cz (kK J J J J b0) bd)) ?_ ai
           exact bT BD λw2 br=>(by (rw[di (λh:gS x=>by have:=h.2.2;omega)];rfl))
          ·refine bO XS XT (ah a8 (ah a8 (ah a8 (ah a8 (ah a8 (ah bD (ah (aR.mW J J J J fx) (ah bD (ah a8 bc))))))))) (cz (kJ J J cy) (cz (kK J J J J b0) bd)) ?_ ai
           exact bT BE λw2 br=>(by (rw[di (λh:gS x=>by have:=h.2.2;omega)];rfl))
         ·refine bO XU XV (ah a8 (ah a8 (ah a8 (ah a8 (ah a8 (ah bD (ah (aR.mW J J J J fx) (ah a8 bc)))))))) (cz (kJ J J cy) (cz (kK J J J J b0) bd)) ?_ ai
          exact bT aiF λw2 br=>(by (rw[di (λh:gS x=>by have:=h.2.2;omega)];rfl))
       ·refine bO XW XX (ah a8 (ah a8 (ah a8 (ah a8 (ah a8 (ah bD bc)))))) (cz (BI J J cy) bd) ?_ ai
        exact bT aiG λw2 br=>(by (rw[di (λh:gS x=>absurd h.1 bB)];rfl))
      ·by_cases cy:oh x.1
       ·by_cases fx:(lj x).1=([]:hn)
        ·refine bO XY XZ (ah a8 (ah a8 (ah a8 (ah a8 (ah a8 (ah a8 (ah (aR.AU J J J J fx) bc))))))) (cz (kJ J J cy) (cz (kK J J J J b0) bd)) ?_ ai
         exact bT Gu λw2 br=>(by (rw[di (λh:gS x=>absurd h.2.1 (by exact not_not_intro bB))];rfl))
        ·by_cases px:1<=x.2.2.2.2.1
         ·by_cases zX:x.2.2.2.2.1<=16
          ·refine bO X0 X1 (ah a8 (ah a8 (ah a8 (ah a8 (ah a8 (ah a8 (ah (aR.mW J J J J fx) (ah bD (ah bD bc))))))))) (cz (kJ J J cy) (cz (kK J J J J b0) bd)) ?_ ai
           exact bT Qr λw2 br=>(by (rw[gU (show gS x from ⟨bB,bB,ao,ao,ao,ao,ao,ao,ao,ao⟩)];rfl))
          ·refine bO X2 X3 (ah a8 (ah a8 (ah a8 (ah a8 (ah a8 (ah a8 (ah (aR.mW J J J J fx) (ah bD (ah a8 bc))))))))) (cz (kJ J J cy) (cz (kK J J J J b0) bd)) ?_ ai
           exact bT BF λw2 br=>(by (rw[di (λh:gS x=>by have:=h.2.2;omega)];rfl))
         ·refine bO X4 X5 (ah a8 (ah a8 (ah a8 (ah a8 (ah a8 (ah a8 (ah (aR.mW J J J J fx) (ah a8 bc)))))))) (cz (kJ J J cy) (cz (kK J J J J b0) bd)) ?_ ai
          exact bT Qs λw2 br=>(by (rw[di (λh:gS x=>by have:=h.2.2;omega)];rfl))
       ·refine bO X6 X7 (ah a8 (ah a8 (ah a8 (ah a8 (ah a8 (ah a8 bc)))))) (cz (BI J J cy) bd) ?_ ai
        exact bT aiH λw2 br=>(by (rw[di (λh:gS x=>absurd h.1 bB)];rfl))
end Qm
end AE
namespace AE
variable [aY]
theorem X8 {x:U} {m:cr} (hp:dW [x]=true) (a':et [x]=[M.val m]) (b0:ly aY.dg) (h:gS m):ju Tryz.prog (85,[x],.bool true):=
 lR (a:= #[M.val m]) hp rfl a' rfl λw hw=>(Qm.any w m (b0.mono hw)).mono λe w' eW=>by rw[gU h] at eW;exact eW
theorem aiI {x:U} {m:cr} (hp:dW [x]=true) (a':et [x]=[M.val m]) (b0:ly aY.dg) (h:¬gS m):ju Tryz.prog (85,[x],.bool false):=
 lR (a:= #[M.val m]) hp rfl a' rfl λw hw=>(Qm.any w m (b0.mono hw)).mono λe w' eW=>by rw[di h] at eW;exact eW
end AE
namespace AE
namespace X9
noncomputable def body:Code:=(Tryz.f51.body).getD .skip
def N:Nat:=42
noncomputable abbrev bV:=gu Tryz.prog Tryz.f51
def a6:b6:={sl:=dn [(0,0)],ms:=[],A:=start}
def cq:bC:=[(.eo (.bool true),.bool true),
 (.len #[29] 3 0,1),
 (.bin .gtr 3 1 (I 256),.bool true)]
theorem bk:bV (at' 42 cq [] body a6)=some (.tuple ⟨[I (-1),I 2]⟩):=aw
def c4:bC:=[(.eo (.bool true),.bool true),
 (.len #[29] 3 0,1),
 (.bin .gtr 3 1 (I 256),.bool false),
 (.bin .eql 3 1 (I 0),.bool true)]
theorem e1:bV (at' 42 c4 [] body a6)=some (.tuple ⟨[I (-1),I 1]⟩):=aw
def ew:bC:=[(.eo (.bool true),.bool true),
 (.len #[29] 3 0,1),
 (.bin .gtr 3 1 (I 256),.bool false),
 (.bin .eql 3 1 (I 0),.bool false),
 (.cP 29 0 (I 0),2),
 (.bp 66 2,.agg ⟨[3,4,5,6,7,8,9,10]⟩),
 (.bin .neq 66 (.agg ⟨[3,4,5,6,7,8,9,10]⟩) (.agg ⟨[cp [97,105,114],.bool false,.bool false,.bool false,I 1,I 0,I 0,I 0]⟩),.bool false)]
theorem e2:CH (at' 42 ew [] body a6)=some 133:=aw
abbrev jn:=at' 42 ew [] body a6
def e9:List bM:=[]
def fo:aT:=dn [(3,I 0),(2,I 0),(0,0)]
def fD:aT:=iZ 42 fo 21 11
theorem dH:dy (cW jn) fo e9=some [(0,0)]:=aw
def fp:gm:=(body,[1,1,0],1)
def eP:bC:=[(.eo (.bool true),.bool true),
 (.len #[29] 3 0,1)]
def hH:List bM:=[]
def hI:aT:=dn [(24,12),(23,1),(22,0),(4,11)]
abbrev k1:=eS 42 eP [] fp {sl:=fD,ms:=[],A:=eJ e9}
theorem lN:tv hI hH k1=some [(1,1),(11,11),(I 0,12),(0,0)]:=aw
def h8:Code:=y7 body [1,1,1,0,1,4]
def lh:List fe:=qp body [1,1,1,0,1,4] []
theorem sS:se k1=h8:=aw
theorem x3:gX k1=lh:=aw
def gL:bC:=[(.eo (.bool true),.bool true),
 (.bin .lss 3 12 1,.bool true),
 (.cP 29 0 12,13),
 (.bp 66 13,.agg ⟨[14,15,16,17,18,19,20,21]⟩),
 (.mw 133 11 14 false,.bool true)]
def vl:ef:=[(85,[.agg ⟨[14,15,16,17,18,19,20,21]⟩],.bool true)]
def iz:bC:=[(.eo (.bool true),.bool true)]
theorem vk:bV (qG 42 iz [] lh (at' 42 gL vl h8 (db hI hH)))=some (.tuple ⟨[12,I 10]⟩):=aw
def mK:bC:=[(.eo (.bool true),.bool true),
 (.bin .lss 3 12 1,.bool true),
 (.cP 29 0 12,13),
 (.bp 66 13,.agg ⟨[14,15,16,17,18,19,20,21]⟩),
 (.mw 133 11 14 false,.bool false)]
def x6:ef:=[(85,[.agg ⟨[14,15,16,17,18,19,20,21]⟩],.bool true)]
theorem og:CI (at' 42 mK x6 h8 (db hI hH))=some (133,11,14,.bool true):=aw
abbrev oQ:=at' 42 mK x6 h8 (db hI hH)
def kZ:List bM:=[]
def jV:aT:=dn [(24,12),(23,1),(22,0),(4,11)]
def hV:aT:=match gy 42 jV none (.tuple ⟨[]⟩) with|some s=>s|none=> .nil
theorem sO:dy (cW oQ) jV kZ=some [(1,1),(11,11),(12,12),(0,0)]:=aw
def j6:gm:=(h8,[1,1,0,4,1,1,1],4)
def oT:bC:=[(.eo (.bool true),.bool true),
 (.bin .add 3 12 (I 1),22)]
theorem ve:uD hI hH (eS 42 oT [] j6 (db hV kZ))=some [(1,1),(11,11),(22,12),(0,0)]:=aw
def qL:bC:=[(.eo (.bool true),.bool true),
 (.bin .lss 3 12 1,.bool true),
 (.cP 29 0 12,13),
 (.bp 66 13,.agg ⟨[14,15,16,17,18,19,20,21]⟩)]
def zK:ef:=[(85,[.agg ⟨[14,15,16,17,18,19,20,21]⟩],.bool false)]
theorem Gt:bV (qG 42 iz [] lh (at' 42 qL zK h8 (db hI hH)))=some (.tuple ⟨[12,I 1]⟩):=aw
def vi:bC:=[(.eo (.bool true),.bool true),
 (.bin .lss 3 12 1,.bool false)]
theorem Qo:bV (qG 42 iz [] lh (at' 42 vi [] h8 (db hI hH)))=some (.tuple ⟨[I 0,I 0]⟩):=aw
def vj:bC:=[(.eo (.bool true),.bool true),
 (.len #[29] 3 0,1),
 (.bin .gtr 3 1 (I 256),.bool false),
 (.bin .eql 3 1 (I 0),.bool false),
 (.cP 29 0 (I 0),2),
 (.bp 66 2,.agg ⟨[3,4,5,6,7,8,9,10]⟩),
 (.bin .neq 66 (.agg ⟨[3,4,5,6,7,8,9,10]⟩) (.agg ⟨[cp [97,105,114],.bool false,.bool false,.bool false,I 1,I 0,I 0,I 0]⟩),.bool true)]
theorem vg:bV (at' 42 vj [] body a6)=some (.tuple ⟨[I 0,I 1]⟩):=aw
@[reducible] noncomputable def cl (l:List cr) (fC:dA) (fR:Nat) (i:Nat:=0) (j4:Nat:=0):List U:=[bI fC l fR,I ((l.length:Nat):Int),iS (bI fC l fR) (0*8),cp (l.hs (0)).1,.bool (l.hs (0)).2.1,.bool (l.hs (0)).2.2.1,.bool (l.hs (0)).2.2.2.1,I (l.hs (0)).2.2.2.2.1,I (l.hs (0)).2.2.2.2.2.1,I (l.hs (0)).2.2.2.2.2.2.1,I (l.hs (0)).2.2.2.2.2.2.2,.map (some j4),I ((i:Nat):Int),iS (bI fC l fR) (i*8),cp (l.hs (i)).1,.bool (l.hs (i)).2.1,.bool (l.hs (i)).2.2.1,.bool (l.hs (i)).2.2.2.1,I (l.hs (i)).2.2.2.2.1,I (l.hs (i)).2.2.2.2.2.1,I (l.hs (i)).2.2.2.2.2.2.1,I (l.hs (i)).2.2.2.2.2.2.2,I ((i+1:Nat):Int)]
theorem any (W:au) {jm:U} {l:List cr} (hl:b7 (aG W) 8 hA jm l) (b0:ly (aG W)):Calls Tryz.prog 51 #[jm] W λe w'=>e= .returned (.tuple #[I (lW l).1,I (lW l).2])/\ch W.heap.size W w':=by
 obtain⟨fC,fR,rfl⟩:=hl.slice;refine kH (cl l fC fR) body a6 N [aj 0] Tryz.func51 λa ai=> ?_
 letI:=du ai;by_cases aJ:256<((l.length:Nat):Int)
 ·refine bO cq [] (ah (aR.eo J J) (ah (fW hl k9) (ah bD bc))) bd ?_ ai
  exact bT bk λw2 br=>(by refine congrArg Ending.returned ?_;(rw[aiq ao];rfl))
 ·by_cases h1:((l.length:Nat):Int)=0
  ·refine bO c4 [] (ah (aR.eo J J) (ah (fW hl k9) (ah a8 (ah bD bc)))) bd ?_ ai
   exact bT e1 λw2 br=>(by refine congrArg Ending.returned ?_;(rw[air ao ao];rfl))
  ·by_cases ae:(l.hs (0))=((([97,105,114]:hn),false,false,false,1,0,0,0):cr)
   ·refine bO ew [] (ah (aR.eo J J) (ah (fW hl k9) (ah a8 (ah a8 (ah (Wn hl (show 0<l.length by omega) k9 pH) (ah (aR.AM hl (rM 0) J J AV pH J J J) (ah (TU J J J J (by rw[gU ae];rfl)) bc))))))) bd ?_ ai
    obtain⟨cX,gw⟩:=jk ([]);refine ad4 (bx:=λk0=>(cl l fC fR 0 k0)) gw e2 dH (ht fD 11) rfl (λ_ k0=>jj) (λ_ _=>rfl) ?_;intro lV j4 ph oe gd w ai;have Dl:=oe.up (λi h=>by cases h) (bY _) (λ_ _ h=>h);letI:=du ai;refine gP (gQ fp) eP [] (ah (aR.eo J J) (ah (fW (hl.mono Dl) k9) bc)) bd ?_ ai;refine y9 (f':=(λ(⟨M,b,i⟩:Mem×List hn×Nat)=>aX M (cl l fC fR i j4))) (λ(⟨M,b,i⟩:Mem×List hn×Nat)=>tz W.heap.size M (.map (some j4)) b/\(∀i o,aG W i=some o->M i=some o)/\b=BH l i/\i<=l.length/\∀j,j<i->¬x7 l j) (λ(⟨M,b,i⟩:Mem×List hn×Nat)=>l.length-i) ⟨lV,cX,0⟩ lN jj (λ_ _ h=>h) (by exact⟨ph,Dl,gw,Nat.zero_le _,λj h=>absurd h (Nat.not_lt_zero _)⟩) ?_;intro⟨M,b,i⟩ bn gd w ai;letI:=du ai;refine y8 sS x3 ?_;have cm:=bn.1;have bj:=bn.2.1;by_cases j2:((i:Nat):Int)<((l.length:Nat):Int)
    ·by_cases q1:gS (l.hs (i))
     ·by_cases aE:(l.hs (i)).1∈b
      ·refine bO gL vl (ah (aR.eo J J) (ah bD (ah (wk (hl.mono bj) k9 pH) (ah (aR.AM (hl.mono bj) (rM i) J J AV pH J J J) (ah (aR.ad2 J J Qi Qj Qk cm J J aE) bc))))) (cz (X8 J J (by exact b0.mono bB) q1) bd) ?_ ai
       refine rI iz [] (ah (aR.eo J J) bc) bd ?_;exact bT vk λw2 br=>(by refine congrArg Ending.returned ?_;(rw[aiu (i:=i) ao ao bB ao bn.2.2.2.2 bB (by rw[<-bn.2.2.1];assumption)];rfl))
      ·refine bO mK x6 (ah (aR.eo J J) (ah bD (ah (wk (hl.mono bj) k9 pH) (ah (aR.AM (hl.mono bj) (rM i) J J AV pH J J J) (ah (aR.ad3 J J Qi Qj aiy Qk cm J J aE) bc))))) (cz (X8 J J (by exact b0.mono bB) q1) bd) ?_ ai
       obtain⟨jK,lo⟩:=jk (b++[(l.hs (i)).1]);refine ad5 (u:= .map (some j4)) (n:=(l.hs (i)).1) (ns:=b) (ns':=jK) (bx:=(cl l fC fR i j4)) lo og Qi Qj Qk sO (ht hV (.tuple ⟨[]⟩)) J J J J cm bB (λ_=>jj) ?_;intro pa EY sR gd w ai;have aiJ:=sR.up (λi h=>(cm.known i h).2) (bY _) bj;letI:=du ai;refine gP (gQ j6) oT [] (ah (aR.eo J J) (ah mj bc)) bd ?_ ai;exact zt ⟨pa,jK,i+1⟩ ve jj (by exact⟨EY,aiJ,by rw[lo,bn.2.2.1,aix ao],ao,λj hj=>by rcases Nat.lt_succ_iff_lt_or_eq.1 hj with h|rfl;exact bn.2.2.2.2 j h;exact aiw bB (by rw[<-bn.2.2.1];assumption)⟩)
     ·refine bO qL zK (ah (aR.eo J J) (ah bD (ah (wk (hl.mono bj) k9 pH) (ah (aR.AM (hl.mono bj) (rM i) J J AV pH J J J) bc)))) (cz (aiI J J (by exact b0.mono bB) q1) bd) ?_ ai
      refine rI iz [] (ah (aR.eo J J) bc) bd ?_;exact bT Gt λw2 br=>(by refine congrArg Ending.returned ?_;(rw[ait (i:=i) ao ao bB ao bn.2.2.2.2 bB];rfl))
    ·refine bO vi [] (ah (aR.eo J J) (ah a8 bc)) bd ?_ ai
     refine rI iz [] (ah (aR.eo J J) bc) bd ?_;exact bT Qo λw2 br=>(by refine congrArg Ending.returned ?_;(rw[aiv ao ao bB (λj hj=>bn.2.2.2.2 j ao)];rfl))
   ·refine bO vj [] (ah (aR.eo J J) (ah (fW hl k9) (ah a8 (ah a8 (ah (Wn hl (show 0<l.length by omega) k9 pH) (ah (aR.AM hl (rM 0) J J AV pH J J J) (ah (TU J J J J (by rw[di ae];rfl)) bc))))))) bd ?_ ai
    exact bT vg λw2 br=>(by refine congrArg Ending.returned ?_;(rw[ais ao ao bB];rfl))
end X9
end AE
namespace AE
section
variable [aY]
theorem Gv {x r:U} {u:U} {l:List cr} (hp:dW [x]=true) (hr:aM r=true) (a':et [x]=[u]) (bX:aK r= .tuple #[.int .i64 (lW l).1,.int .i64 (lW l).2]) (hl:b7 aY.dg 8 hA u l) (b0:ly aY.dg):ju Tryz.prog (51,[x],r):=
 lR (a:= #[u]) hp hr a' bX λw hw=>X9.any w (hl.mono hw) (b0.mono hw)
theorem Qt {x r:U} {b:bF} {cells:List Int} {a:Option Addr} {n c:Nat} (hp:dW [x]=true) (hr:aM r=true) (a':et [x]=[jW b (.slice a n c)]) (bX:aK r= .bool true) (hl:b7 aY.dg 1 ih (.slice a n c) cells) (aq:cells.length<=10000000) (iD:n=cells.length) (h:vh b cells):ju Tryz.prog (52,[x],r):=
 lR (a:= #[jW b (.slice a n c)]) hp hr a' bX λw hw=>(Qg.any w (hl.mono hw) aq iD).mono λe w' he=>by rw[gU h] at he;exact he
theorem aiK {x r:U} {b:bF} {cells:List Int} {a:Option Addr} {n c:Nat} (hp:dW [x]=true) (hr:aM r=true) (a':et [x]=[jW b (.slice a n c)]) (bX:aK r= .bool false) (hl:b7 aY.dg 1 ih (.slice a n c) cells) (aq:cells.length<=10000000) (iD:n=cells.length) (h:¬vh b cells):ju Tryz.prog (52,[x],r):=
 lR (a:= #[jW b (.slice a n c)]) hp hr a' bX λw hw=>(Qg.any w (hl.mono hw) aq iD).mono λe w' he=>by rw[di h] at he;exact he
end
def JU (b:bF) (cells:List Int) (table:List cr) (known:List Bool):Prop:=(lW table).2=0/\vh b cells/\(known.length=0\/known.length=cells.length)
instance (b:bF) (cells:List Int) (table:List cr) (known:List Bool):Decidable (JU b cells table known):=by unfold JU;infer_instance
def x8 (b:bF) (cells:List Int) (table:List cr) (known:List Bool):Int:=if JU b cells table known then 0 else 1
theorem X' {b:bF} {cells:List Int} {table:List cr} {known:List Bool} (aJ:(lW table).2=0) (h1:vh b cells) (ae:known.length=0\/known.length=cells.length):x8 b cells table known=0:=aN ⟨aJ,h1,ae⟩
theorem Qu {b:bF} {cells:List Int} {table:List cr} {known:List Bool} (h:(lW table).2=0->vh b cells->¬(known.length=0\/known.length=cells.length)):x8 b cells table known=1:=aO λq=>h q.1 q.2.1 q.2.2
end AE
namespace AE
namespace X_
noncomputable def body:Code:=(Tryz.f27.body).getD .skip
def N:Nat:=34
noncomputable abbrev bV:=gu Tryz.prog Tryz.f27
def a6:b6:={sl:=dn [(2,1),(1,0),(0,.agg ⟨[2,3,4,5,6,7,8]⟩)],ms:=[],A:=start}
def cq:bC:=[(.bin .neq 35 10 (I 0),.bool false),
 (.len #[30] 3 1,11),
 (.bin .neq 3 11 (I 0),.bool false)]
def lE:ef:=[(51,[0],.tuple ⟨[9,10]⟩),
 (52,[.agg ⟨[aj 2,aj 3,aj 4,aj 5,aj 6,aj 7,aj 8]⟩],.bool true)]
theorem bk:bV (at' 34 cq lE body a6)=some (I 0):=aw
def c4:bC:=[(.bin .neq 35 10 (I 0),.bool false),
 (.len #[30] 3 1,11),
 (.bin .neq 3 11 (I 0),.bool true),
 (.len #[26] 3 8,12),
 (.bin .neq 3 11 12,.bool false)]
def jH:ef:=[(51,[0],.tuple ⟨[9,10]⟩),
 (52,[.agg ⟨[aj 2,aj 3,aj 4,aj 5,aj 6,aj 7,aj 8]⟩],.bool true)]
theorem e1:bV (at' 34 c4 jH body a6)=some (I 0):=aw
def ew:bC:=[(.bin .neq 35 10 (I 0),.bool false),
 (.len #[30] 3 1,11),
 (.bin .neq 3 11 (I 0),.bool true),
 (.len #[26] 3 8,12),
 (.bin .neq 3 11 12,.bool true)]
def nK:ef:=[(51,[0],.tuple ⟨[9,10]⟩),
 (52,[.agg ⟨[aj 2,aj 3,aj 4,aj 5,aj 6,aj 7,aj 8]⟩],.bool true)]
theorem e2:bV (at' 34 ew nK body a6)=some (I 1):=aw
def eP:bC:=[(.bin .neq 35 10 (I 0),.bool false)]
def rQ:ef:=[(51,[0],.tuple ⟨[9,10]⟩),
 (52,[.agg ⟨[aj 2,aj 3,aj 4,aj 5,aj 6,aj 7,aj 8]⟩],.bool false)]
theorem dH:bV (at' 34 eP rQ body a6)=some (I 1):=aw
def gL:bC:=[(.bin .neq 35 10 (I 0),.bool true)]
def vl:ef:=[(51,[0],.tuple ⟨[9,10]⟩)]
theorem jD:bV (at' 34 gL vl body a6)=some (I 1):=aw
@[reducible] noncomputable def cl (cells:List Int) (cY:dA) (cG cZ:Nat) (table:List cr) (j9:dA) (j':Nat) (known:List Bool) (h9:dA) (h':Nat) (b:bF):List U:=[bI j9 table j',bI h9 known h',I b.1,I b.2.1,I b.2.2.1,I b.2.2.2.1,I b.2.2.2.2.1,I b.2.2.2.2.2,.slice cY cG cZ,I (lW table).1,I (lW table).2,I ((known.length:Nat):Int),I ((cells.length:Nat):Int)]
theorem any (W:au) {b:bF} {cY:dA} {cG cZ:Nat} {cells:List Int} (hf:b7 (aG W) 1 ih (.slice cY cG cZ) cells) {nN:U} {table:List cr} (aI:b7 (aG W) 8 hA nN table) {nO:U} {known:List Bool} (ig:b7 (aG W) 1 hO nO known) (b0:ly (aG W)) (aq:cells.length<=10000000) (iD:cG=cells.length):Calls Tryz.prog 27 #[.agg ⟨[I b.1,I b.2.1,I b.2.2.1,I b.2.2.2.1,I b.2.2.2.2.1,I b.2.2.2.2.2,.slice cY cG cZ]⟩,nN,nO] W λe w'=>e= .returned (I (x8 b cells table known))/\ch W.heap.size W w':=by
 obtain⟨j9,j',rfl⟩:=aI.slice;obtain⟨h9,h',rfl⟩:=ig.slice;refine kH (cl cells cY cG cZ table j9 j' known h9 h' b) body a6 N [.agg ⟨[aj 2,aj 3,aj 4,aj 5,aj 6,aj 7,aj 8]⟩,aj 0,aj 1] Tryz.func27 λa ai=> ?_
 letI:=du ai;have aA:=bW.qs W;by_cases aJ:(lW table).2=0
 ·by_cases h1:vh b cells
  ·by_cases ae:((known.length:Nat):Int)=0
   ·refine bO cq lE (ah u3 (ah (fW (ig.mono aA.ext) nD) (ah u3 bc))) (cz (Gv J J J J (aI.mono aA.ext) b0) (cz (Qt J J J J hf aq iD h1) bd)) ?_ ai
    exact bT bk λw2 br=>(by (rw[X' bB bB ao];rfl))
   ·by_cases ay:((known.length:Nat):Int)=((cells.length:Nat):Int)
    ·refine bO c4 jH (ah u3 (ah (fW (ig.mono aA.ext) nD) (ah wj (ah (fW (hf.mono aA.ext) l8) (ah u3 bc))))) (cz (Gv J J J J (aI.mono aA.ext) b0) (cz (Qt J J J J hf aq iD h1) bd)) ?_ ai
     exact bT e1 λw2 br=>(by (rw[X' bB bB ao];rfl))
    ·refine bO ew nK (ah u3 (ah (fW (ig.mono aA.ext) nD) (ah wj (ah (fW (hf.mono aA.ext) l8) (ah wj bc))))) (cz (Gv J J J J (aI.mono aA.ext) b0) (cz (Qt J J J J hf aq iD h1) bd)) ?_ ai
     exact bT e2 λw2 br=>(by (rw[Qu (λq1 aE=>by omega)];rfl))
  ·refine bO eP rQ (ah u3 bc) (cz (Gv J J J J (aI.mono aA.ext) b0) (cz (aiK J J J J hf aq iD h1) bd)) ?_ ai
   exact bT dH λw2 br=>(by (rw[Qu (λq1 aE=>by exact absurd aE bB)];rfl))
 ·refine bO gL vl (ah wj bc) (cz (Gv J J J J (aI.mono aA.ext) b0) bd) ?_ ai
  exact bT jD λw2 br=>(by (rw[Qu (λq1 aE=>by omega)];rfl))
end X_
end AE
namespace AE
namespace Ya
noncomputable def body:Code:=(Tryz.f59.body).getD .skip
def N:Nat:=13
def a6:b6:={sl:=dn [(1,1),(0,0)],ms:=[],A:=start}
def cq:bC:=[(.dR 0,0),
 (.cu 74 0 0,0),
 (.bp 26 0,2)]
theorem bk:si 26 (at' 13 cq [] body a6)=some (2,1):=aw
abbrev jn:=at' 13 cq [] body a6
def e9:List bM:=[]
def fo:aT:=dn [(4,0)]
def fD:aT:=iZ 13 fo 10 26
theorem e1:dy (cW jn) fo e9=some [(0,0)]:=aw
def fp:gm:=(body,[],7)
def c4:bC:=[(.dR 0,0),
 (.cu 74 0 0,0)]
theorem kY:nY (eS 13 c4 [] fp (db fD e9))=some (26,0,26):=aw
abbrev oQ:=eS 13 c4 [] fp {sl:=fD,ms:=[],A:=eJ e9}
def kZ:List bM:=[]
def jV:aT:=dn []
def hV:aT:=match gy 13 jV none (.tuple ⟨[]⟩) with|some s=>s|none=> .nil
theorem kR:dy (cW oQ) jV kZ=some []:=aw
def j6:gm:=(body,[],10)
theorem og:gu Tryz.prog Tryz.f59 (eS 13 [] [] j6 (db hV kZ))=some (.tuple ⟨[]⟩):=aw
@[reducible] noncomputable def cl (bm:List Nat) (jq:dA) (jr:Nat) (x:List Nat) (k2:dA) (k3 fh:Nat) (xa:Nat->U) (eh:U) (cX:List Nat:=[]) (a0:dA:=none) (dc:Nat:=0):List U:=[gF fh 22,bI k2 x k3,bI jq bm jr,xa 0,xa 1,xa 2,xa 3,xa 4,xa 5,xa 6,xa 7,xa 8,xa 9,xa 10,xa 11,xa 12,xa 13,xa 14,xa 15,xa 16,xa 17,xa 18,xa 19,xa 20,xa 21,eh,bI a0 cX dc]
theorem any (W:au) {bm:List Nat} {jq:dA} {jr:Nat} {x:List Nat} {k2:dA} {k3 fh:Nat} {xa:Nat->U} {eh:U} (lF:b_ (aG W) [xP jq bm jr,rn 1 o_ (bI k2 x k3) x,hZ fh 76 [xa 0,xa 1,xa 2,xa 3,xa 4,xa 5,xa 6,xa 7,xa 8,xa 9,xa 10,xa 11,xa 12,xa 13,xa 14,xa 15,xa 16,xa 17,xa 18,xa 19,xa 20,xa 21,bI jq bm jr,eh]]) (hlen:bm.length+x.length<=500000):Calls Tryz.prog 59 #[gF fh 22,bI k2 x k3] W λe w'=>(∃y:dA×Nat,e= .returned (.tuple #[])/\dp (aG W) [xP jq bm jr,rn 1 o_ (bI k2 x k3) x,hZ fh 76 [xa 0,xa 1,xa 2,xa 3,xa 4,xa 5,xa 6,xa 7,xa 8,xa 9,xa 10,xa 11,xa 12,xa 13,xa 14,xa 15,xa 16,xa 17,xa 18,xa 19,xa 20,xa 21,bI jq bm jr,eh]] (aG w') [o7 sv 1 o_ (.slice y.1 (bm++x).length y.2) (bm++x),rn 1 o_ (bI k2 x k3) x,hZ fh xx (List.set [xa 0,xa 1,xa 2,xa 3,xa 4,xa 5,xa 6,xa 7,xa 8,xa 9,xa 10,xa 11,xa 12,xa 13,xa 14,xa 15,xa 16,xa 17,xa 18,xa 19,xa 20,xa 21,bI jq bm jr,eh] 22 (.slice y.1 (bm++x).length y.2))])/\ch 0 W w':=by
 refine tJ (cl bm jq jr x k2 k3 fh xa eh) body a6 N [aj 0,aj 1] Tryz.func59 λa ai=> ?_
 letI:=du ai;have aA:=bW.start W _ lF;refine bO cq [] (ah kX (ah (jy 26 0 1) (ah (pT 22 2 aA) bc))) bd ?_ ai;obtain⟨cX,gw⟩:=jk (bm++x);have fO:cX.length=bm.length+x.length:=by rw[gw];simp
 refine M_ (l:=bm) (lx:=x) (l':=cX) (bx:=λva vb=>(cl bm jq jr x k2 k3 fh xa eh cX va vb)) (T:=(eF (bI jq bm jr))) gw bk IW aff afg afh afi afj cv mE afk e1 (ht fD 26) rfl (Nb J J (aA.jh 0 rfl)) (AS J J λw hw=>((aA.red 1 rfl).arr mE).reads mE hw) (EJ (show bm.length+x.length<=1000000 by omega)) (show (bm.length+x.length)*NV<=140737488355328 by unfold NV;omega) (λ_ _ _=>jj) (λ_ _ _=>rfl) ?_;intro lV a0 dc ph oe P7 gd w ai;have dB:=aA.l_ 0 rfl (Io ph oe P7);replace dB:=dB.zw;letI:=du ai;refine gP (gQ fp) c4 [] (ah kX (ah (jy 26 0 1) bc)) bd ?_ ai;refine FV 22 [xa 0,xa 1,xa 2,xa 3,xa 4,xa 5,xa 6,xa 7,xa 8,xa 9,xa 10,xa 11,xa 12,xa 13,xa 14,xa 15,xa 16,xa 17,xa 18,xa 19,xa 20,xa 21,bI a0 cX dc,eh] (cl bm jq jr x k2 k3 fh xa eh cX a0 dc) kY kR (ht hV (.tuple ⟨[]⟩)) (dB.box 2 rfl) ?_;intro pa xt sR gd w ai;have j8:=dB.l_ 2 rfl (v' xt sR);replace j8:=j8.zw;letI:=du ai;refine gP (gQ j6) [] [] bc bd ?_ ai;exact bT og λw2 br=>(by subst_vars;exact⟨(_,_),rfl,(j8.done br)⟩)
end Ya
end AE
namespace AE
namespace Qv
noncomputable def body:Code:=(Tryz.f32.body).getD .skip
def N:Nat:=24
def a6:b6:={sl:=dn [(1,1),(0,0)],ms:=[],A:=start}
def cq:bC:=[(.dR 0,0),
 (.cu 76 0 11,26),
 (.bp 30 26,3),
 (.cP 30 3 1,27),
 (.bp 4 27,28),
 (.un .not 28,.bool false)]
theorem bk:gu Tryz.prog Tryz.f32 (at' 24 cq [] body a6)=some (.tuple ⟨[]⟩):=aw
def c4:bC:=[(.dR 0,0),
 (.cu 76 0 11,26),
 (.bp 30 26,3),
 (.cP 30 3 1,27),
 (.bp 4 27,28),
 (.un .not 28,.bool true)]
theorem e1:nY (at' 24 c4 [] body a6)=some (4,27,(.bool true)):=aw
abbrev jn:=at' 24 c4 [] body a6
def e9:List bM:=[]
def fo:aT:=dn [(1,1),(0,0)]
def fD:aT:=match gy 24 fo none (.tuple ⟨[]⟩) with|some s=>s|none=> .nil
theorem e2:dy (cW jn) fo e9=some [(0,0),(1,1)]:=aw
def fp:gm:=(body,[1,2,0],7)
def ew:bC:=[(.dR 0,0),
 (.cu 76 0 10,29)]
abbrev oQ:=eS 24 ew [] fp {sl:=fD,ms:=[],A:=eJ e9}
def kZ:List bM:=[]
def jV:aT:=dn [(20,29)]
def hV:aT:=(b4.set 30 depth jV 22).getD .nil
theorem kR:E1 oQ 0 22=some ([1],1,1):=aw
theorem lN:dy (cW oQ) jV kZ=some [(29,29)]:=aw
theorem sS:b4.set 30 depth jV 22=some hV:=aw
theorem x3:ml ((CM (db hV kZ) oQ))=some (59,[29,30]):=aw
abbrev vd:=(CM {sl:=hV,ms:=[],A:=eJ kZ} oQ)
def nM:List bM:=[]
def pj:aT:=dn []
def iH:aT:=iZ 24 pj 23 (.tuple ⟨[]⟩)
theorem sO:dy (ke Tryz.prog vd) pj nM=some []:=aw
def kU:gm:=(body,[1,2,1],6)
theorem ve:gu Tryz.prog Tryz.f32 (eS 24 [] [] kU (db iH nM))=some (.tuple ⟨[]⟩):=aw
@[reducible] noncomputable def cl (bm:List Nat) (jq:dA) (jr:Nat) (waits:List Bool) (qM:dA) (qN qO fh:Nat) (xa:Nat->U) (k:Nat) (g1:Nat:=0) (Gw:List Nat:=[]) (mM:dA:=none) (mN:Nat:=0):List U:=[gF fh 0,I ((k:Nat):Int),bI jq bm jr,.slice qM qN qO,xa 0,xa 1,xa 2,xa 3,xa 4,xa 5,xa 6,xa 7,xa 8,xa 9,xa 10,xa 11,xa 12,xa 13,xa 14,xa 15,xa 16,xa 17,xa 18,xa 19,xa 20,xa 21,gF fh 23,iS (.slice qM qN qO) (k*1),.bool (waits.hs (k)),gF fh 22,.slice (some ⟨g1,0,none⟩) 1 1,bI mM Gw mN]
theorem any (W:au) {bm:List Nat} {jq:dA} {jr:Nat} {waits:List Bool} {qM:dA} {qN qO fh:Nat} {xa:Nat->U} (lF:b_ (aG W) [xP jq bm jr,zu qM qN qO waits,hZ fh 76 [xa 0,xa 1,xa 2,xa 3,xa 4,xa 5,xa 6,xa 7,xa 8,xa 9,xa 10,xa 11,xa 12,xa 13,xa 14,xa 15,xa 16,xa 17,xa 18,xa 19,xa 20,xa 21,bI jq bm jr,.slice qM qN qO]]) (k:Nat) (ag:k<waits.length) (hlen:bm.length<=400000):Calls Tryz.prog 32 #[gF fh 0,I ((k:Nat):Int)] W λe w'=>(∃y:dA×Nat,e= .returned (.tuple #[])/\dp (aG W) [xP jq bm jr,zu qM qN qO waits,hZ fh 76 [xa 0,xa 1,xa 2,xa 3,xa 4,xa 5,xa 6,xa 7,xa 8,xa 9,xa 10,xa 11,xa 12,xa 13,xa 14,xa 15,xa 16,xa 17,xa 18,xa 19,xa 20,xa 21,bI jq bm jr,.slice qM qN qO]] (aG w') [o7 sv 1 o_ (.slice y.1 (lU bm waits k).length y.2) (lU bm waits k),iK lT 1 hO (.slice qM qN qO) (mF waits k),hZ fh xx (List.set [xa 0,xa 1,xa 2,xa 3,xa 4,xa 5,xa 6,xa 7,xa 8,xa 9,xa 10,xa 11,xa 12,xa 13,xa 14,xa 15,xa 16,xa 17,xa 18,xa 19,xa 20,xa 21,bI jq bm jr,.slice qM qN qO] 22 (.slice y.1 (lU bm waits k).length y.2))])/\ch 0 W w':=by
 refine tJ (cl bm jq jr waits qM qN qO fh xa k) body a6 N [aj 0,aj 1] Tryz.func32 λa ai=> ?_
 letI:=du ai;have aA:=bW.start W _ lF;by_cases aJ:(waits.hs (k))=true
 ·refine bO cq [] (ah kX (ah (jy 30 23 1) (ah (pT 23 2 aA) (ah (wk ((aA.arr 1 rfl).arr mf) nD IU) (ah (Bq 0 ((aA.arr 1 rfl).arr mf) (rM k) TP) (ah (adR J J aJ) bc)))))) bd ?_ ai
  exact bT bk λw2 br=>(by (rw[U7 bB,U9 bB];exact⟨(_,_),rfl,((aA.pick [0,1,2] rfl).done br)⟩))
 ·refine bO c4 [] (ah kX (ah (jy 30 23 1) (ah (pT 23 2 aA) (ah (wk ((aA.arr 1 rfl).arr mf) nD IU) (ah (Bq 0 ((aA.arr 1 rfl).arr mf) (rM k) TP) (ah (adS J J aJ) bc)))))) bd ?_ ai
  obtain⟨aiL,gw⟩:=jk (waits.set k true);have fO:aiL.length=waits.length:=by rw[gw];exact List.length_set
  refine ahe 0 (cl bm jq jr waits qM qN qO fh xa k) gw e1 mf e2 (ht fD (.tuple ⟨[]⟩)) (aA.arr 1 rfl) (show k<waits.length by omega) ?_;intro lV ph oe gd w ai;have dB:=aA.l_ 1 rfl (EX ph oe);replace dB:=dB.zw;letI:=du ai;refine gP (gQ fp) ew [] (ah kX (ah (jy 74 22 1) bc)) bd ?_ ai;refine Nj (enc:=o_) (xs:=[k]) (q:=30) (bx:=λk0=>(cl bm jq jr waits qM qN qO fh xa k k0)) kR mE rfl cv cv J J (hJ rfl) lN (λ_ _=>jj) sS (λ_=>rfl) ?_;intro pa g1 vE tl aiM sR js;have j8:=dB.new (Nl vE aiM sR js);letI:=du ai;obtain⟨Gw,aiN⟩:=jk (bm++[k]);refine nJ (Y:=c_) (bx:=λbZ=>(cl bm jq jr waits qM qN qO fh xa k g1 Gw bZ.1 bZ.2)) j8 [0,3,2] (λbZ=>[Dc _ _ _ bZ.1 Gw bZ.2,_,hZ _ _ [_,_,_,_,_,_,_,_,_,_,_,_,_,_,_,_,_,_,_,_,_,_,bI bZ.1 Gw bZ.2,_]]) (λ_=>[]) x3 sO (ht iH (.tuple ⟨[]⟩)) (jw:=λw hw dI av=>by rw[aiN];exact Ya.any (x:=[k]) (xa:=wb [xa 0,xa 1,xa 2,xa 3,xa 4,xa 5,xa 6,xa 7,xa 8,xa 9,xa 10,xa 11,xa 12,xa 13,xa 14,xa 15,xa 16,xa 17,xa 18,xa 19,xa 20,xa 21,bI jq bm jr,.slice qM qN qO] 0) (eh:=wb [xa 0,xa 1,xa 2,xa 3,xa 4,xa 5,xa 6,xa 7,xa 8,xa 9,xa 10,xa 11,xa 12,xa 13,xa 14,xa 15,xa 16,xa 17,xa 18,xa 19,xa 20,xa 21,bI jq bm jr,.slice qM qN qO] 23 0) _ av (by simp only [List.length_cons,List.length_nil];omega)) (rest:= ?_);intro oJ ⟨mM,mN⟩ mq gd w ai;replace mq:=mq.FT;letI:=du ai;refine gP (gQ kU) [] [] bc bd ?_ ai;exact bT ve λw2 br=>(by (subst_vars;rw[U8 bB,U' bB];exact⟨(_,_),rfl,((mq.pick [0,1,2] rfl).done br)⟩))
end Qv
end AE
namespace AE
section
variable [aY]
theorem JV {x y z r:U} {b:bF} {cells:List Int} {table:List cr} {known:List Bool} {a:Option Addr} {n c:Nat} {u v:U} (hp:dW [x,y,z]=true) (hr:aM r=true) (a':et [x,y,z]=[jW b (.slice a n c),u,v]) (bX:aK r= .int .i64 (x8 b cells table known))
  (al:b7 aY.dg 1 ih (.slice a n c) cells) (aI:b7 aY.dg 8 hA u table) (ag:b7 aY.dg 1 hO v known) (b0:ly aY.dg) (aq:cells.length<=10000000) (iD:n=cells.length):ju Tryz.prog (27,[x,y,z],r):=
 lR (a:= #[jW b (.slice a n c),u,v]) hp hr a' bX λw hw=>X_.any w (al.mono hw) (aI.mono hw) (ag.mono hw) (b0.mono hw) aq iD
end
theorem aiO (w:au) {k2:Option Addr} {k3:Nat} (lF:b_ (aG w) [rn 1 hO (.slice k2 [true].length k3) [true]]) (n:Nat) (aq:n<=100000):
  Calls Tryz.prog 31 #[.slice k2 [true].length k3,.int .i64 ((n:Nat):Int)] w λe w'=>(∃y:Option Addr×Nat,e= .returned (.slice y.1 (List.replicate n true).length y.2)/\dp (aG w) [rn 1 hO (.slice k2 [true].length k3) [true]] (aG w') [rn 1 hO (.slice k2 [true].length k3) [true],iK lT 1 hO (.slice y.1 (List.replicate n true).length y.2) (List.replicate n true)])/\ch 0 w w':=by
 have h:=Xh.any w lF n rfl aq;rw[lG];exact h
theorem Yb (n:Nat):jo n 0=List.replicate n uO:=by
 unfold jo;rfl
theorem Yc {n k:Nat} {g:List Nat} {w:List Bool} (ag:k<n) (az:g=List.range k) (hw:w=jo n k):lU g w k=List.range (k+1)/\mF w k=jo n (k+1):=by
 subst az hw;have h:(jo n k).getD k default=false:=by
  unfold jo;rw[dr,List.getElem?_append_right (by simp),lG,Nat.sub_self,List.getElem?_replicate,aN ao];rfl
 unfold lU mF;rw[h];refine⟨?_,?_⟩
 ·show List.range k++[k]=_
  rw[List.range_succ]
 ·show (jo n k).set k true=_
  unfold jo;rw[List.set_append_right _ _ (by simp),lG,Nat.sub_self];obtain⟨m,hm⟩:∃m,n-k=m+1:=⟨n-k-1,ao⟩;rw[hm,show n-(k+1)=m by omega,List.replicate_succ,List.set_cons_zero,List.replicate_succ',List.append_assoc];rfl
def sT (known:List Bool) (n:Nat):List Bool:=if known.length=0 then List.replicate n true else known
theorem aiP {known:List Bool} {n:Nat} (h:known.length=0):sT known n=List.replicate n true:=aN h
theorem aiQ {known:List Bool} {n:Nat} (h:known.length≠0):sT known n=known:=aO h
def nh (b:bF) (cells:List Int) (table:List cr) (known:List Bool) (most:Int):Prop:=x8 b cells table known=0/\1<=most/\most<=65536
instance (b:bF) (cells:List Int) (table:List cr) (known:List Bool) (most:Int):Decidable (nh b cells table known most):=by unfold nh;infer_instance
end AE
namespace AE
theorem dp.aiR {M M':Mem} {L oE L':List ca} (av:b_ M L) (is:List Nat) (ij:jU L.length is=true) (hp:AE.pick L is=oE) (hl:L'.length=is.length) (t:dp M oE M' L'):dp M L M' (la L is L'):=by
 have:=dp.lift (N:=[]) av is ij hp hl (by rw[List.append_nil];exact t)
 rwa [List.append_nil] at this
theorem Yd (W:au) {g:Nat} {A:dh} {e:bN} (h:b_ (aG W) [eO g A e]) (az:fK e.table e.b e.u):
  Calls Tryz.prog 42 #[b2 g] W λx w'=>(∃aV:dh,x= .returned (.bool (gb e.table e.b e.u).1)/\dp (aG W) [eO g A e] (aG w') [eO g aV (wy e)])/\ch 0 W w':=by
 refine(W8.any h.Bx az).mono λx w' ak=> ?_
 obtain⟨⟨aV,rfl,t⟩,hl⟩:=ak;exact⟨⟨aV,rfl,t.packed⟩,hl⟩
structure sU (en e:bN) (d:Nat):Prop where
 eq:e={en with u:=mn en.table en.b d en.u}
 all:∀m,m<d->(gb en.table en.b (mn en.table en.b m en.u)).1=true
 hs:fK e.table e.b e.u
 le:d+gR en.b e.u<=gR en.b en.u
theorem sU.zero {en:bN} (h:fK en.table en.b en.u):sU en en 0:=⟨rfl,λm hm=>absurd hm (Nat.not_lt_zero m),h,ao⟩
theorem sU.next {en e e':bN} {d:Nat} (h:sU en e d) (he:e'=wy e) (hu:(gb e.table e.b e.u).1=true):sU en e' (d+1)/\gR en.b e'.u<gR en.b e.u:=by
 subst he;obtain⟨tL,n2⟩:=h.hs.unit hu;have hle:=h.le;have a1:=h.eq;subst a1;obtain⟨oV,FX⟩:=ahI rfl h.all hu;have x9:gR en.b (gb en.table en.b (mn en.table en.b d en.u)).2+1<=gR en.b (mn en.table en.b d en.u):=n2;have alQ:d+gR en.b (mn en.table en.b d en.u)<=gR en.b en.u:=hle;have aiS:d+1+gR en.b (gb en.table en.b (mn en.table en.b d en.u)).2<=gR en.b en.u:=by omega
 exact⟨⟨congrArg (λu=>({en with u:=u}:bN)) oV,FX,tL,aiS⟩,x9⟩
theorem sU.last {en e e':bN} {d f:Nat} (h:sU en e d) (he:e'=wy e) (hu:¬(gb e.table e.b e.u).1=true) (aP:d<=f):hR en.table en.b f en.u=(d,e'.u)/\e'={en with u:=e'.u}:=by
 have cF:(gb e.table e.b e.u).1=false:=by simpa using hu
 have iU:=(h.hs.done cF).1;have a1:=h.eq;subst he a1;have hx:=PE d f en.u aP h.all (.inr cF);refine⟨?_,rfl⟩;rw[hx];exact congrArg (Prod.mk d) iU.symm
theorem sU.full {en e:bN} {d:Nat} (h:sU en e d):hR en.table en.b d en.u=(d,e.u)/\e={en with u:=e.u}:=by
 have a1:=h.eq;subst a1;exact⟨PE d d en.u (bY _) h.all (.inl rfl),rfl⟩
end AE
namespace AE
namespace Ye
noncomputable def body:Code:=(Tryz.f13.body).getD .skip
def N:Nat:=9
def a6:b6:={sl:=dn [(0,0)],ms:=[],A:=start}
def hH:List bM:=[]
def hI:aT:=dn [(3,1),(2,I 0),(0,0)]
abbrev k1:=at' 9 [] [] body a6
theorem bk:tv hI hH k1=some [(0,0),(I 0,1)]:=aw
def h8:Code:=y7 body [1,1,0,4]
def lh:List fe:=qp body [1,1,0,4] []
theorem e1:se k1=h8:=aw
theorem e2:gX k1=lh:=aw
theorem dH:ml (at' 9 [] [] h8 (db hI hH))=some (42,[0]):=aw
abbrev jn:=at' 9 [] [] h8 (db hI hH)
def e9:List bM:=[]
def fo:aT:=dn [(3,1),(2,I 0),(0,0)]
def fD:aT:=iZ 9 fo 5 2
theorem kY:dy (ke Tryz.prog jn) fo e9=some [(0,0),(1,1)]:=aw
def fp:gm:=(h8,[0,0],2)
def c4:bC:=[(.eo 2,.bool true),
 (.bin .add 3 1 (I 1),3)]
theorem vk:uD hI hH (eS 9 c4 [] fp (db fD e9))=some [(0,0),(3,1)]:=aw
def ew:bC:=[(.eo 2,.bool false)]
theorem og:gu Tryz.prog Tryz.f13 (qG 9 [] [] lh (eS 9 ew [] fp (db fD e9)))=some 1:=aw
@[reducible] noncomputable def cl (iA:Nat) (e:bN:=default) (d:Nat:=0):List U:=[gF iA 0,I ((d:Nat):Int),.bool (gb e.table e.b e.u).1,I ((d+1:Nat):Int)]
theorem any (W:au) {en:bN} {iA:Nat} {wz:dh} (lF:b_ (aG W) [eO iA wz en]) (eL:fK en.table en.b en.u) (hr:en.u.reqs.length<=10000):Calls Tryz.prog 13 #[gF iA 0] W λe w'=>(∃A:dh,e= .returned (I (((hR en.table en.b (gR en.b en.u) en.u).1:Nat):Int))/\dp (aG W) [eO iA wz en] (aG w') [eO iA A {en with u:=(hR en.table en.b (gR en.b en.u) en.u).2}])/\ch 0 W w':=by
 refine tJ (cl iA) body a6 N [aj 0] Tryz.func13 λa ai=> ?_
 letI:=du ai;have aA:=bW.start W _ lF;have x_:=eL.WH hr;refine bO [] [] bc bd ?_ ai;refine y9 (f':=(λ(⟨M,e,A,d⟩:Mem×bN×dh×Nat)=>aX M (cl iA e d))) (λ(⟨M,e,A,d⟩:Mem×bN×dh×Nat)=>bW 0 (aG W) aA.GY M [eO iA A e]/\(sU en e d)) (λ(⟨M,e,A,d⟩:Mem×bN×dh×Nat)=>gR en.b e.u) ⟨(aG W),en,wz,0⟩ bk jj (λ_ _ h=>h) (by exact⟨(aA.pick [0] rfl),by exact sU.zero eL⟩) ?_;intro⟨M,e,A,d⟩ bn gd w ai;letI:=du ai;refine y8 e1 e2 ?_;have p1:=bn.1;have az:=bn.2.hs;have aiT:=bn.2.le;refine bO [] [] bc bd ?_ ai;obtain⟨sV,iF⟩:=jk (wy e);refine nJ (Y:=dh) (bx:=λbZ=>(cl iA e d)) p1 [0] (λbZ=>[eO iA (bZ) sV]) (λ_=>[]) dH kY (ht fD 2) (jw:=λw hw dI av=>by rw[iF];exact Yd _ av az) (rest:= ?_);intro lV BJ dB gd w ai;replace dB:=dB.zv;letI:=du ai;by_cases j2:(gb e.table e.b e.u).1=true
 ·refine gP (gQ fp) c4 [] (ah (CE J J j2) (ah mj bc)) bd ?_ ai
  exact zt ⟨lV,sV,BJ,d+1⟩ vk jj (by exact⟨dB,by exact(bn.2.next iF bB).1⟩) (by exact(bn.2.next iF bB).2)
 ·refine gP (gQ fp) ew [] (ah (MT J J j2) bc) bd ?_ ai
  refine rI [] [] bc bd ?_;exact bT og λw2 br=>(by obtain⟨q1,aE⟩:=bn.2.last (f:=gR en.b en.u) iF bB ao;rw[q1,<-aE];exact⟨_,rfl,(dB.done br)⟩)
end Ye
end AE
namespace AE
namespace Yf
noncomputable def body:Code:=(Tryz.f26.body).getD .skip
def N:Nat:=19
def a6:b6:={sl:=dn [(1,1),(0,0)],ms:=[],A:=start}
def hH:List bM:=[]
def hI:aT:=dn [(6,2),(5,.func (.func 42) ⟨[0]⟩ ⟨[]⟩),(4,I 0),(1,1)]
abbrev k1:=at' 19 [] [] body a6
theorem bk:tv hI hH k1=some [(1,1),(0,0),(I 0,2)]:=aw
def h8:Code:=y7 body [1,1,0,4]
def lh:List fe:=qp body [1,1,0,4] []
theorem e1:se k1=h8:=aw
theorem e2:gX k1=lh:=aw
def c4:bC:=[(.bin .lss 3 2 1,.bool true)]
theorem dH:ml (at' 19 c4 [] h8 (db hI hH))=some (42,[0]):=aw
abbrev jn:=at' 19 c4 [] h8 (db hI hH)
def e9:List bM:=[]
def fo:aT:=dn [(12,.bool true),(6,2),(5,.func (.func 42) ⟨[0]⟩ ⟨[]⟩),(4,I 0),(1,1)]
def fD:aT:=iZ 19 fo 14 3
theorem kY:dy (ke Tryz.prog jn) fo e9=some [(1,1),(0,0),(2,2)]:=aw
def fp:gm:=(h8,[0,0],6)
def ew:bC:=[(.eo 3,.bool true),
 (.bin .add 3 2 (I 1),4)]
theorem vk:uD hI hH (eS 19 ew [] fp (db fD e9))=some [(1,1),(0,0),(4,2)]:=aw
def eP:bC:=[(.eo 3,.bool false)]
theorem og:gu Tryz.prog Tryz.f26 (qG 19 [] [] lh (eS 19 eP [] fp (db fD e9)))=some 2:=aw
def gL:bC:=[(.bin .lss 3 2 1,.bool false)]
theorem sO:gu Tryz.prog Tryz.f26 (qG 19 [] [] lh (at' 19 gL [] h8 (db hI hH)))=some 2:=aw
@[reducible] noncomputable def cl (iA:Nat) (n:Int) (e:bN:=default) (d:Nat:=0):List U:=[gF iA 0,I n,I ((d:Nat):Int),.bool (gb e.table e.b e.u).1,I ((d+1:Nat):Int)]
theorem any (W:au) {en:bN} {iA:Nat} {wz:dh} (lF:b_ (aG W) [eO iA wz en]) (n:Int) (eL:fK en.table en.b en.u) (hr:en.u.reqs.length<=10000):Calls Tryz.prog 26 #[gF iA 0,I n] W λe w'=>(∃A:dh,e= .returned (I (((hR en.table en.b n.toNat en.u).1:Nat):Int))/\dp (aG W) [eO iA wz en] (aG w') [eO iA A {en with u:=(hR en.table en.b n.toNat en.u).2}])/\ch 0 W w':=by
 refine tJ (cl iA n) body a6 N [aj 0,aj 1] Tryz.func26 λa ai=> ?_
 letI:=du ai;have aA:=bW.start W _ lF;have x_:=eL.WH hr;refine bO [] [] bc bd ?_ ai;refine y9 (f':=(λ(⟨M,e,A,d⟩:Mem×bN×dh×Nat)=>aX M (cl iA n e d))) (λ(⟨M,e,A,d⟩:Mem×bN×dh×Nat)=>bW 0 (aG W) aA.GY M [eO iA A e]/\(sU en e d/\d<=n.toNat)) (λ(⟨M,e,A,d⟩:Mem×bN×dh×Nat)=>gR en.b e.u) ⟨(aG W),en,wz,0⟩ bk jj (λ_ _ h=>h) (by exact⟨(aA.pick [0] rfl),by exact⟨sU.zero eL,Nat.zero_le _⟩⟩) ?_;intro⟨M,e,A,d⟩ bn gd w ai;letI:=du ai;refine y8 e1 e2 ?_;have p1:=bn.1;have az:=bn.2.1.hs;have aiT:=bn.2.1.le;have tn:=bn.2.2;by_cases yC:((d:Nat):Int)<n
 ·refine bO c4 [] (ah bD bc) bd ?_ ai
  obtain⟨sV,iF⟩:=jk (wy e);refine nJ (Y:=dh) (bx:=λbZ=>(cl iA n e d)) p1 [0] (λbZ=>[eO iA (bZ) sV]) (λ_=>[]) dH kY (ht fD 3) (jw:=λw hw dI av=>by rw[iF];exact Yd _ av az) (rest:= ?_);intro lV BJ dB gd w ai;replace dB:=dB.zv;letI:=du ai;by_cases j2:(gb e.table e.b e.u).1=true
  ·refine gP (gQ fp) ew [] (ah (CE J J j2) (ah mj bc)) bd ?_ ai
   exact zt ⟨lV,sV,BJ,d+1⟩ vk jj (by exact⟨dB,by exact⟨(bn.2.1.next iF bB).1,ao⟩⟩) (by exact(bn.2.1.next iF bB).2)
  ·refine gP (gQ fp) eP [] (ah (MT J J j2) bc) bd ?_ ai
   refine rI [] [] bc bd ?_;exact bT og λw2 br=>(by first|(obtain⟨q1,aE⟩:=bn.2.1.full;obtain rfl:d=n.toNat:=ao;rw[q1,<-aE];exact⟨_,rfl,(dB.done br)⟩)|(obtain⟨q1,aE⟩:=bn.2.1.last (f:=n.toNat) iF bB ao;rw[q1,<-aE];exact⟨_,rfl,(dB.done br)⟩))
 ·refine bO gL [] (ah a8 bc) bd ?_ ai
  refine rI [] [] bc bd ?_;exact bT sO λw2 br=>(by first|(obtain⟨q1,aE⟩:=bn.2.1.full;obtain rfl:d=n.toNat:=ao;rw[q1,<-aE];exact⟨_,rfl,((p1.pick [0] rfl).done br)⟩)|(obtain⟨q1,aE⟩:=bn.2.1.last (f:=n.toNat) iF bB ao;rw[q1,<-aE];exact⟨_,rfl,((p1.pick [0] rfl).done br)⟩))
end Yf
end AE
namespace AE
namespace Yg
noncomputable def body:Code:=(Tryz.f12.body).getD .skip
def N:Nat:=19
noncomputable abbrev bV:=gu Tryz.prog Tryz.f12
def a6:b6:={sl:=dn [(0,0)],ms:=[],A:=start}
def cq:bC:=[(.dR 0,0),
 (.cu 76 0 8,25),
 (.dR 25,25),
 (.cu 72 25 0,25),
 (.bp 70 25,2),
 (.len #[70] 3 2,26),
 (.bin .eql 3 26 (I 0),.bool true),
 (.cu 76 0 10,27),
 (.dR 27,27),
 (.cu 74 27 0,27),
 (.bp 26 27,3),
 (.len #[26] 3 3,28),
 (.bin .eql 3 28 (I 0),.bool true),
 (.cu 76 0 7,29),
 (.dR 29,29),
 (.cu 69 29 0,29),
 (.bp 67 29,1),
 (.len #[67] 3 1,30),
 (.bin .eql 3 30 (I 0),.bool true)]
theorem bk:bV (at' 19 cq [] body a6)=some (.bool true):=aw
def c4:bC:=[(.dR 0,0),
 (.cu 76 0 8,25),
 (.dR 25,25),
 (.cu 72 25 0,25),
 (.bp 70 25,2),
 (.len #[70] 3 2,26),
 (.bin .eql 3 26 (I 0),.bool true),
 (.cu 76 0 10,27),
 (.dR 27,27),
 (.cu 74 27 0,27),
 (.bp 26 27,3),
 (.len #[26] 3 3,28),
 (.bin .eql 3 28 (I 0),.bool true),
 (.cu 76 0 7,29),
 (.dR 29,29),
 (.cu 69 29 0,29),
 (.bp 67 29,1),
 (.len #[67] 3 1,30),
 (.bin .eql 3 30 (I 0),.bool false)]
theorem e1:bV (at' 19 c4 [] body a6)=some (.bool false):=aw
def ew:bC:=[(.dR 0,0),
 (.cu 76 0 8,25),
 (.dR 25,25),
 (.cu 72 25 0,25),
 (.bp 70 25,2),
 (.len #[70] 3 2,26),
 (.bin .eql 3 26 (I 0),.bool true),
 (.cu 76 0 10,27),
 (.dR 27,27),
 (.cu 74 27 0,27),
 (.bp 26 27,3),
 (.len #[26] 3 3,28),
 (.bin .eql 3 28 (I 0),.bool false)]
theorem e2:bV (at' 19 ew [] body a6)=some (.bool false):=aw
def eP:bC:=[(.dR 0,0),
 (.cu 76 0 8,25),
 (.dR 25,25),
 (.cu 72 25 0,25),
 (.bp 70 25,2),
 (.len #[70] 3 2,26),
 (.bin .eql 3 26 (I 0),.bool false)]
theorem dH:bV (at' 19 eP [] body a6)=some (.bool false):=aw
@[reducible] noncomputable def cl (tM:List ix) (ya:dA) (yb:Nat) (bz:List ax) (yc:dA) (yd:Nat) (bm:List Nat) (jq:dA) (jr fh:Nat) (xa:Nat->U) (v21:U) (v23:U):List U:=[gF fh 0,bI ya tM yb,bI yc bz yd,bI jq bm jr,xa 0,xa 1,xa 2,xa 3,xa 4,xa 5,xa 6,xa 7,xa 8,xa 9,xa 10,xa 11,xa 12,xa 13,xa 14,xa 15,xa 16,xa 17,xa 18,v21,v23,gF fh 20,I ((bz.length:Nat):Int),gF fh 22,I ((bm.length:Nat):Int),gF fh 19,I ((tM.length:Nat):Int)]
theorem any (W:au) {tM:List ix} {ya:dA} {yb:Nat} {bz:List ax} {yc:dA} {yd:Nat} {bm:List Nat} {jq:dA} {jr fh:Nat} {xa:Nat->U} {v21:U} {v23:U} (lF:b_ (aG W) [Po ya tM yb,Pn yc bz yd,xP jq bm jr,hZ fh 76 [xa 0,xa 1,xa 2,xa 3,xa 4,xa 5,xa 6,xa 7,xa 8,xa 9,xa 10,xa 11,xa 12,xa 13,xa 14,xa 15,xa 16,xa 17,xa 18,bI ya tM yb,bI yc bz yd,v21,bI jq bm jr,v23]]):Calls Tryz.prog 12 #[gF fh 0] W λe w'=>(∃y:Unit,e= .returned (.bool (decide (bz.length=0/\bm.length=0/\tM.length=0)))/\dp (aG W) [Po ya tM yb,Pn yc bz yd,xP jq bm jr,hZ fh 76 [xa 0,xa 1,xa 2,xa 3,xa 4,xa 5,xa 6,xa 7,xa 8,xa 9,xa 10,xa 11,xa 12,xa 13,xa 14,xa 15,xa 16,xa 17,xa 18,bI ya tM yb,bI yc bz yd,v21,bI jq bm jr,v23]] (aG w') [Po ya tM yb,Pn yc bz yd,xP jq bm jr,hZ fh xx [xa 0,xa 1,xa 2,xa 3,xa 4,xa 5,xa 6,xa 7,xa 8,xa 9,xa 10,xa 11,xa 12,xa 13,xa 14,xa 15,xa 16,xa 17,xa 18,bI ya tM yb,bI yc bz yd,v21,bI jq bm jr,v23]])/\ch 0 W w':=by
 refine tJ (cl tM ya yb bz yc yd bm jq jr fh xa v21 v23) body a6 N [aj 0] Tryz.func12 λa ai=> ?_
 letI:=du ai;have aA:=bW.start W _ lF;by_cases aJ:((bz.length:Nat):Int)=0
 ·by_cases h1:((bm.length:Nat):Int)=0
  ·by_cases ae:((tM.length:Nat):Int)=0
   ·refine bO cq [] (ah kX (ah (jy 72 20 1) (ah kX (ah (jy 70 0 1) (ah (pT 20 3 aA) (ah (fW ((aA.jh 1 rfl).arr I3) I2) (ah bD (ah (jy 74 22 1) (ah kX (ah (jy 26 0 1) (ah (pT 22 3 aA) (ah (fW ((aA.jh 2 rfl).arr mE) IW) (ah bD (ah (jy 69 19 1) (ah kX (ah (jy 67 0 1) (ah (pT 19 3 aA) (ah (fW ((aA.jh 0 rfl).arr U6) U5) (ah bD bc))))))))))))))))))) bd ?_ ai
    exact bT bk λw2 br=>(by (rw[gU ao];exact⟨(),rfl,((aA.pick [0,1,2,3] rfl).done br)⟩))
   ·refine bO c4 [] (ah kX (ah (jy 72 20 1) (ah kX (ah (jy 70 0 1) (ah (pT 20 3 aA) (ah (fW ((aA.jh 1 rfl).arr I3) I2) (ah bD (ah (jy 74 22 1) (ah kX (ah (jy 26 0 1) (ah (pT 22 3 aA) (ah (fW ((aA.jh 2 rfl).arr mE) IW) (ah bD (ah (jy 69 19 1) (ah kX (ah (jy 67 0 1) (ah (pT 19 3 aA) (ah (fW ((aA.jh 0 rfl).arr U6) U5) (ah a8 bc))))))))))))))))))) bd ?_ ai
    exact bT e1 λw2 br=>(by (rw[di ao];exact⟨(),rfl,((aA.pick [0,1,2,3] rfl).done br)⟩))
  ·refine bO ew [] (ah kX (ah (jy 72 20 1) (ah kX (ah (jy 70 0 1) (ah (pT 20 3 aA) (ah (fW ((aA.jh 1 rfl).arr I3) I2) (ah bD (ah (jy 74 22 1) (ah kX (ah (jy 26 0 1) (ah (pT 22 3 aA) (ah (fW ((aA.jh 2 rfl).arr mE) IW) (ah a8 bc))))))))))))) bd ?_ ai
   exact bT e2 λw2 br=>(by (rw[di ao];exact⟨(),rfl,((aA.pick [0,1,2,3] rfl).done br)⟩))
 ·refine bO eP [] (ah kX (ah (jy 72 20 1) (ah kX (ah (jy 70 0 1) (ah (pT 20 3 aA) (ah (fW ((aA.jh 1 rfl).arr I3) I2) (ah a8 bc))))))) bd ?_ ai
  exact bT dH λw2 br=>(by (rw[di ao];exact⟨(),rfl,((aA.pick [0,1,2,3] rfl).done br)⟩))
end Yg
namespace Yh
noncomputable def body:Code:=(Tryz.f17.body).getD .skip
def N:Nat:=8
def a6:b6:={sl:=dn [(0,0)],ms:=[],A:=start}
def cq:bC:=[(.dR 0,0),
 (.cu 76 0 5,25),
 (.bp 51 25,1)]
theorem bk:ml (at' 8 cq [] body a6)=some (43,[1]):=aw
abbrev jn:=at' 8 cq [] body a6
def e9:List bM:=[]
def fo:aT:=dn [(2,.slice none 0 0)]
def fD:aT:=iZ 8 fo 7 26
theorem dH:dy (ke Tryz.prog jn) fo e9=some []:=aw
def fp:gm:=(body,[1,0],5)
theorem lN:gu Tryz.prog Tryz.f17 (eS 8 [] [] fp (db fD e9))=some 26:=aw
@[reducible] noncomputable def cl (wA:dA) (wB wC fh:Nat) (xa:Nat->U) (eh:Nat->U) (JW:List bA:=[]) (hB:dA:=none) (hD:Nat:=0):List U:=[gF fh 0,.slice wA wB wC,xa 0,xa 1,xa 2,xa 3,xa 4,xa 5,xa 6,xa 7,xa 8,xa 9,xa 10,xa 11,xa 12,xa 13,xa 14,xa 15,xa 16,eh 0,eh 1,eh 2,eh 3,eh 4,eh 5,gF fh 17,bI hB JW hD]
theorem any (W:au) {ar:List bA} {wA:dA} {wB wC fh:Nat} {xa:Nat->U} {eh:Nat->U} (lF:b_ (aG W) [Pm wA wB wC ar,hZ fh 76 [xa 0,xa 1,xa 2,xa 3,xa 4,xa 5,xa 6,xa 7,xa 8,xa 9,xa 10,xa 11,xa 12,xa 13,xa 14,xa 15,xa 16,.slice wA wB wC,eh 0,eh 1,eh 2,eh 3,eh 4,eh 5]]) (aq:ar.length<=100000):Calls Tryz.prog 17 #[gF fh 0] W λe w'=>(∃y:dA×Nat,e= .returned (bI y.1 ar y.2)/\dp (aG W) [Pm wA wB wC ar,hZ fh 76 [xa 0,xa 1,xa 2,xa 3,xa 4,xa 5,xa 6,xa 7,xa 8,xa 9,xa 10,xa 11,xa 12,xa 13,xa 14,xa 15,xa 16,.slice wA wB wC,eh 0,eh 1,eh 2,eh 3,eh 4,eh 5]] (aG w') ([Pm wA wB wC ar,hZ fh 76 [xa 0,xa 1,xa 2,xa 3,xa 4,xa 5,xa 6,xa 7,xa 8,xa 9,xa 10,xa 11,xa 12,xa 13,xa 14,xa 15,xa 16,.slice wA wB wC,eh 0,eh 1,eh 2,eh 3,eh 4,eh 5]]++[De y.1 ar y.2]))/\ch 0 W w':=by
 refine tJ (cl wA wB wC fh xa eh) body a6 N [aj 0] Tryz.func17 λa ai=> ?_
 letI:=du ai;have aA:=bW.start W _ lF;refine bO cq [] (ah kX (ah (jy 51 17 1) (ah (pT 17 1 aA) bc))) bd ?_ ai;obtain⟨JW,Yi⟩:=jk (ar);refine nJ (Y:=c_) (bx:=λbZ=>(cl wA wB wC fh xa eh JW bZ.1 bZ.2)) aA [0] (λbZ=>[_]) (λbZ=>[De bZ.1 JW bZ.2]) bk dH (ht fD 26) (jw:=λw hw dI av=>by rw[Yi];exact NY av (Xb.any _ ((av.arr 0 rfl).arr I1) aq)) (rest:= ?_);intro lV ⟨hB,hD⟩ dB gd w ai;replace dB:=dB.zw;letI:=du ai;refine gP (gQ fp) [] [] bc bd ?_ ai;exact bT lN λw2 br=>(by (subst Yi;exact⟨(_,_),rfl,(dB.done br)⟩))
end Yh
namespace Yj
noncomputable def body:Code:=(Tryz.f15.body).getD .skip
def N:Nat:=8
def a6:b6:={sl:=dn [(0,0)],ms:=[],A:=start}
def cq:bC:=[(.dR 0,0),
 (.cu 76 0 2,25),
 (.bp 30 25,1)]
theorem bk:ml (at' 8 cq [] body a6)=some (30,[1]):=aw
abbrev jn:=at' 8 cq [] body a6
def e9:List bM:=[]
def fo:aT:=dn [(2,.slice none 0 0)]
def fD:aT:=iZ 8 fo 7 26
theorem dH:dy (ke Tryz.prog jn) fo e9=some []:=aw
def fp:gm:=(body,[1,0],5)
theorem lN:gu Tryz.prog Tryz.f15 (eS 8 [] [] fp (db fD e9))=some 26:=aw
@[reducible] noncomputable def cl (h9:dA) (wD h' fh:Nat) (xa:Nat->U) (eh:Nat->U) (JX:List Bool:=[]) (hB:dA:=none) (hD:Nat:=0):List U:=[gF fh 0,.slice h9 wD h',xa 0,xa 1,xa 2,xa 3,xa 4,xa 5,xa 6,xa 7,xa 8,xa 9,xa 10,xa 11,xa 12,xa 13,eh 0,eh 1,eh 2,eh 3,eh 4,eh 5,eh 6,eh 7,eh 8,gF fh 14,bI hB JX hD]
theorem any (W:au) {known:List Bool} {h9:dA} {wD h' fh:Nat} {xa:Nat->U} {eh:Nat->U} (lF:b_ (aG W) [zu h9 wD h' known,hZ fh 76 [xa 0,xa 1,xa 2,xa 3,xa 4,xa 5,xa 6,xa 7,xa 8,xa 9,xa 10,xa 11,xa 12,xa 13,.slice h9 wD h',eh 0,eh 1,eh 2,eh 3,eh 4,eh 5,eh 6,eh 7,eh 8]]) (aq:known.length<=100000):Calls Tryz.prog 15 #[gF fh 0] W λe w'=>(∃y:dA×Nat,e= .returned (bI y.1 known y.2)/\dp (aG W) [zu h9 wD h' known,hZ fh 76 [xa 0,xa 1,xa 2,xa 3,xa 4,xa 5,xa 6,xa 7,xa 8,xa 9,xa 10,xa 11,xa 12,xa 13,.slice h9 wD h',eh 0,eh 1,eh 2,eh 3,eh 4,eh 5,eh 6,eh 7,eh 8]] (aG w') ([zu h9 wD h' known,hZ fh 76 [xa 0,xa 1,xa 2,xa 3,xa 4,xa 5,xa 6,xa 7,xa 8,xa 9,xa 10,xa 11,xa 12,xa 13,.slice h9 wD h',eh 0,eh 1,eh 2,eh 3,eh 4,eh 5,eh 6,eh 7,eh 8]]++[tI y.1 known y.2]))/\ch 0 W w':=by
 refine tJ (cl h9 wD h' fh xa eh) body a6 N [aj 0] Tryz.func15 λa ai=> ?_
 letI:=du ai;have aA:=bW.start W _ lF;refine bO cq [] (ah kX (ah (jy 30 14 1) (ah (pT 14 1 aA) bc))) bd ?_ ai;obtain⟨JX,Yk⟩:=jk (known);refine nJ (Y:=c_) (bx:=λbZ=>(cl h9 wD h' fh xa eh JX bZ.1 bZ.2)) aA [0] (λbZ=>[_]) (λbZ=>[tI bZ.1 JX bZ.2]) bk dH (ht fD 26) (jw:=λw hw dI av=>by rw[Yk];exact NY av (Gc.any _ ((av.arr 0 rfl).arr mf) aq)) (rest:= ?_);intro lV ⟨hB,hD⟩ dB gd w ai;replace dB:=dB.zw;letI:=du ai;refine gP (gQ fp) [] [] bc bd ?_ ai;exact bT lN λw2 br=>(by (subst Yk;exact⟨(_,_),rfl,(dB.done br)⟩))
end Yj
end AE
namespace AE
theorem aiU {b:bF} {p:dU} (h:cO p b):0<(dZ b).toNat:=by
 unfold cO at h;have aP:hG b:=by unfold hG;omega
 unfold dZ;rw[xR aP];dsimp only;have h1:0<(b.2.2.2.1-b.1)*(b.2.2.2.2.1-b.2.1):=Int.mul_pos ao ao;have ae:0<(b.2.2.2.1-b.1)*(b.2.2.2.2.1-b.2.1)*(b.2.2.2.2.2-b.2.2.1):=Int.mul_pos h1 ao;omega
theorem wE {b:bF} {p:dU} (h:cO p b):cc b p<(dZ b).toNat:=by
 have:=FY (b:=b) (k:=0) (sh:=List.replicate (dZ b).toNat false) (by rw[lG];exact aiU h) lG p
 rwa [lG] at this
def acc (b:bF) (most:Int) (p:dU) (n:Nat):Prop:=cO p b/\¬most<=((n:Nat):Int)
instance (b:bF) (most:Int) (p:dU) (n:Nat):Decidable (acc b most p n):=by unfold acc;infer_instance
def jz (b:bF) (most:Int) (p:dU) (reqs:List ix):Int:=if cO p b then (if most<=((reqs.length:Nat):Int) then 16 else 0) else 1
def zL (b:bF) (most:Int) (p:dU) (reqs:List ix) (x:ix):List ix:=if acc b most p reqs.length then reqs++[x] else reqs
def zM {α:Type} (b:bF) (most:Int) (p:dU) (reqs:List ix) (l:List α) (v:α):List α:=if acc b most p reqs.length then l.set (cc b p) v else l
variable {α:Type} {b:bF} {most:Int} {p:dU} {reqs:List ix} {x:ix} {l:List α} {v:α}
end AE
section
noncomputable section
namespace AE
namespace Yl
def t:bs:=
.o (.bp 34 2) 3 1 [1]<|
.o (.dR 3) 4 1 []<|
.o (.cu 76 4 0) 5 1 [0,28,7]<|
.o (.cu 28 5 1) 6 1 [6,26,1]<|
.o (.bp 26 6) 7 1 [1]<|
.o (.bp 3 1) 8 1 [1]<|
.o (.cP 26 7 0) 9 1 [0,3,1]<|
.st 3 9 8<|
.ret (.tuple ⟨[]⟩)
theorem dw:fJ Tryz.prog 49 {} [0,1,2] 3=some t:=gE aw
theorem any {W:au} {g gc dv:Nat} {A:dh} {e:bN} {c:Int} (aA:b_ (aG W) (b3 (b1 g A e++[aF.box gc oc [I c],aF.box dv fA [b2 g]]))) (k:Nat) (ag:k<e.cells.length):
  gY cw 49 [I (k:Nat),b2 gc,b2 dv] W (b1 g A e++[aF.box gc oc [I c],aF.box dv fA [b2 g]]) Unit (λ_=> .tuple #[]) λ_=>b1 g A {e with cells:=e.cells.set k c}++[aF.box gc oc [I c],aF.box dv fA [b2 g]]:=by
 refine kG (ro:=[]) mixed dw [I (k:Nat),b2 gc,b2 dv] aA fB.none ?_;unfold t;refine bK ?_;refine xM (K:=eT) (l:=e.cells) (j:=k) c J J gO rfl (λ_ _=>rfl) ?_;exact e3 ⟨(),rfl,rfl⟩
end Yl
namespace Ym
def t:bs:=
.o (.bp 34 2) 3 1 [1]<|
.o (.dR 3) 4 1 []<|
.o (.cu 76 4 2) 5 1 [14,30,1]<|
.o (.bp 30 5) 6 1 [1]<|
.o (.bp 4 1) 7 1 [1]<|
.o (.cP 30 6 0) 8 1 [0,4,1]<|
.st 4 8 7<|
.ret (.tuple ⟨[]⟩)
theorem dw:fJ Tryz.prog 50 {} [0,1,2] 3=some t:=gE aw
theorem any {W:au} {g gc dv:Nat} {A:dh} {e:bN} {c:Bool} (aA:b_ (aG W) (b3 (b1 g A e++[aF.box gc lT [.bool c],aF.box dv fA [b2 g]]))) (k:Nat) (ag:k<e.known.length):
  gY cw 50 [I (k:Nat),b2 gc,b2 dv] W (b1 g A e++[aF.box gc lT [.bool c],aF.box dv fA [b2 g]]) Unit (λ_=> .tuple #[]) λ_=>b1 g A {e with known:=e.known.set k c}++[aF.box gc lT [.bool c],aF.box dv fA [b2 g]]:=by
 refine kG (ro:=[]) mixed dw [I (k:Nat),b2 gc,b2 dv] aA fB.none ?_;unfold t;refine bK ?_;refine xM (K:=h7) (l:=e.known) (j:=k) c J J gO rfl (λ_ _=>rfl) ?_;exact e3 ⟨(),rfl,rfl⟩
end Ym
def wF (e:bN) (p:dU) (e1:bN):bN:=if acc e.b e.most p e.u.reqs.length then {e1 with u:={e1.u with reqs:=e1.u.reqs++[(cc e.b p,e1.cells.getD (cc e.b p) default,e1.known.getD (cc e.b p) default)]}} else e
namespace Gx
def t (f:FuncId):bs:=
.o (.dR 0) 6 1 []<|
.o (.cu 76 6 0) 7 1 [0,28,7]<|
.o (.cu 28 7 0) 8 1 [0,25,6]<|
.o (.bp 25 8) (.agg ⟨h5 6 9⟩) 6 [6]<|
.c 57 [.agg ⟨[9,10,11,12,13,14]⟩,.agg ⟨[1,2,3]⟩] 15 1<|
.o (.bin .lss 3 15 (I 0)) 16 1 []<|
.c6 16 (
 .ret (I 1)) (
 .o (.dR 0) 17 1 []<|
 .o (.cu 76 17 7) 18 1 [19,69,1]<|
 .o (.cu 69 18 0) 19 1 [0,67,1]<|
 .o (.bp 67 19) 20 1 [1]<|
 .o (.len #[67] 3 20) 21 1 [0,89]<|
 .o (.cu 76 17 6) 22 1 [18,3,1]<|
 .o (.bp 3 22) 23 1 [1]<|
 .o (.bin .geq 3 21 23) 24 1 []<|
 .c6 24 (
  .ret (I 16)) (
  .call f [15,4,5] (.tuple ⟨[]⟩) 0<|
  .o (.dR 0) 25 1 []<|
  .o (.cu 76 25 7) 26 1 [19,69,1]<|
  .o (.cu 76 25 0) 27 1 [0,28,7]<|
  .o (.cu 28 27 1) 28 1 [6,26,1]<|
  .o (.bp 26 28) 29 1 [1]<|
  .o (.cP 26 29 15) 30 1 [0,3,1]<|
  .o (.bp 3 30) 31 1 [1]<|
  .o (.cu 76 25 2) 32 1 [14,30,1]<|
  .o (.bp 30 32) 33 1 [1]<|
  .o (.cP 30 33 15) 34 1 [0,4,1]<|
  .o (.bp 4 34) 35 1 [1]<|
  .sz [15,31,35] 1 1<|
  .call 84 [26,36] (.tuple ⟨[]⟩) 0<|
  .ret (I 0)))
theorem any {f:FuncId} {h:Ba} (az:fJ cw 48 h [0,.agg ⟨[1,2,3]⟩,.func (.func f) #[] ⟨[4,5]⟩] 6=some (t f)) {W:au} {g gc dv:Nat} {A:dh} {e e1:bN} {ty:aH} {lz:List U} (p:dU) (ad:okB e.b) (hl:e1.cells.length=(dZ e.b).toNat) (ag:e1.known.length=e1.cells.length) (hr:e1.u.reqs.length<=400000) (nU:∀w,cO p e.b->b_ (aG w) (b3 (b1 g A e++[aF.box gc ty lz,aF.box dv fA [b2 g]]))->gY cw f [I (cc e.b p:Nat),b2 gc,b2 dv] w (b1 g A e++[aF.box gc ty lz,aF.box dv fA [b2 g]]) Unit (λ_=> .tuple #[]) λ_=>b1 g A e1++[aF.box gc ty lz,aF.box dv fA [b2 g]])
  (aA:b_ (aG W) (b3 (b1 g A e++[aF.box gc ty lz,aF.box dv fA [b2 g]]))) (b8:cO p e.b->cc e.b p<(dZ e.b).toNat):
  gY cw 48 [b2 g,P.val p,.func (.func f) #[] ⟨[b2 gc,b2 dv]⟩] W (b1 g A e++[aF.box gc ty lz,aF.box dv fA [b2 g]]) c_ (λ_=>I (jz e.b e.most p e.u.reqs)) λy=>b1 g {A with q:=y} (wF e p e1)++[aF.box gc ty lz,aF.box dv fA [b2 g]]:=by
 refine kG (ro:=[]) mixed az [b2 g,I p.1,I p.2.1,I p.2.2,b2 gc,b2 dv] aA fB.none ?_;unfold t;refine bK ?_;refine sG (c:=u6 e.b) rfl has J J ik ?_;by_cases hp:cO p e.b
 ·have a1:=b8 hp
  refine iY (v:=I (cc e.b p:Nat)) (λw _=>by rw[<-By ad hp];exact F9.any w e.b p ad) ?_;refine bK ?_;refine fV rfl (λh=>absurd h ao) λ_=> ?_
  refine bK ?_;refine fV rfl (λhm=> ?_) λhm=> ?_
  ·refine e3 ⟨A.q,?_,?_⟩
   ·unfold jz
    rw[aN hp,aN hm];rfl
   ·unfold wF
    rw[aO (λq=>q.2 hm)]
  ·refine il (dq:=b1 g A e++[aF.box gc ty lz,aF.box dv fA [b2 g]]) (N:=λ(_:Unit)=>b1 g A e1++[aF.box gc ty lz,aF.box dv fA [b2 g]]) (v:=λ_=> .tuple #[]) (L':=λ_=>b1 g A e1++[aF.box gc ty lz,aF.box dv fA [b2 g]]) [0,1,2,3,4,5,6,7,8,9,10,11,12,13] (λ_=>[]) (λw _ aA=>nU w hp aA) (λ_=> ?_) (hL:=λ_=>FP (n:=14) J J)
   refine bK ?_;refine Pe wu [(cc e.b p,e1.cells.getD (cc e.b p) default,e1.known.getD (cc e.b p) default)] rfl (λ_=>j7) λjY=> ?_
   refine il (dq:=b1 g A e1++[aF.red wu (.slice (some ⟨jY,0,none⟩) 1 1) [(cc e.b p,e1.cells.getD (cc e.b p) default,e1.known.getD (cc e.b p) default)]]) (L':=λy=>b1 g {A with q:=y} {e1 with u:={e1.u with reqs:=e1.u.reqs++[(cc e.b p,e1.cells.getD (cc e.b p) default,e1.known.getD (cc e.b p) default)]}}++[aF.box gc ty lz,aF.box dv fA [b2 g],aF.red wu (.slice (some ⟨jY,0,none⟩) 1 1) [(cc e.b p,e1.cells.getD (cc e.b p) default,e1.known.getD (cc e.b p) default)]]) [0,1,2,3,4,5,6,7,8,9,10,11,14] (λ_=>[]) (λw _ aA=>WN.any aA (by show e1.u.reqs.length+1<=_;omega)) (λy=> ?_);refine oO (L':=b1 g {A with q:=y} {e1 with u:={e1.u with reqs:=e1.u.reqs++[(cc e.b p,e1.cells.getD (cc e.b p) default,e1.known.getD (cc e.b p) default)]}}++[aF.box gc ty lz,aF.box dv fA [b2 g]]) (λM bj=>by exact bj.pick [0,1,2,3,4,5,6,7,8,9,10,11,12,13] rfl) ⟨y,?_,?_⟩
   ·unfold jz
    rw[aN hp,aO hm];rfl
   ·unfold wF
    rw[aN ⟨hp,hm⟩]
 ·refine iY (v:=I (-1)) (λw _=>by rw[<-FW hp];exact F9.any w e.b p ad) ?_
  refine bK ?_;refine fV rfl (λ_=> ?_) λh=>absurd cv h
  refine e3 ⟨A.q,?_,?_⟩
  ·unfold jz
   rw[aO hp];rfl
  ·unfold wF
   rw[aO (λq=>hp q.1)]
end Gx
end AE
end
end
section
noncomputable section
namespace AE
def p2 (c:Int):Prop:=0<=c/\c<256
instance (c:Int):Decidable (p2 c):=by unfold p2;infer_instance
def k4 (b:bF) (most:Int) (p:dU) (reqs:List ix) (c:Int):Int:=if p2 c then jz b most p reqs else 1
def Dm (b:bF) (most:Int) (p:dU) (reqs:List ix) (c:Int) (x:ix):List ix:=if p2 c then zL b most p reqs x else reqs
def Dn {α:Type} (b:bF) (most:Int) (p:dU) (reqs:List ix) (c:Int) (l:List α) (v:α):List α:=if p2 c then zM b most p reqs l v else l
def i_ (e:bN) (p:dU) (c:Int):bN:={e with u:={e.u with reqs:=Dm e.b e.most p e.u.reqs c (cc e.b p,c,e.known.getD (cc e.b p) default)},cells:=Dn e.b e.most p e.u.reqs c e.cells c}
def jX (e:bN) (p:dU) (k:Bool):bN:={e with u:={e.u with reqs:=zL e.b e.most p e.u.reqs (cc e.b p,e.cells.getD (cc e.b p) default,k)},known:=zM e.b e.most p e.u.reqs e.known k}
theorem aiV {e:bN} {p:dU} {c:Int} (al:p2 c) (hl:e.cells.length=(dZ e.b).toNat):wF e p {e with cells:=e.cells.set (cc e.b p) c}=i_ e p c:=by
 unfold wF i_ Dm Dn zL zM;rw[aN al,aN al];by_cases ha:acc e.b e.most p e.u.reqs.length
 ·rw[aN ha,aN ha,aN ha]
  have:(e.cells.set (cc e.b p) c).getD (cc e.b p) default=c:=by rw[A9 (by rw[hl];exact wE ha.1),aN rfl]
  rw[this]
 ·rw[aO ha,aO ha,aO ha]
theorem aiW {e:bN} {p:dU} {c:Int} (al:¬p2 c):i_ e p c=e:=by
 unfold i_ Dm Dn;rw[aO al,aO al]
theorem aiX {e:bN} {p:dU} {k:Bool} (hl:e.known.length=(dZ e.b).toNat):wF e p {e with known:=e.known.set (cc e.b p) k}=jX e p k:=by
 unfold wF jX zL zM;by_cases ha:acc e.b e.most p e.u.reqs.length
 ·rw[aN ha,aN ha,aN ha]
  have:(e.known.set (cc e.b p) k).getD (cc e.b p) default=k:=by rw[A9 (by rw[hl];exact wE ha.1),aN rfl]
  rw[this]
 ·rw[aO ha,aO ha,aO ha]
namespace Yn
theorem Qw:fJ cw 48 {nF:=[49,84]} [0,.agg ⟨[1,2,3]⟩,.func (.func 49) #[] ⟨[4,5]⟩] 6=some (Gx.t 49):=gE aw
def t:bs:=
.pc 34 0<|
.pc 3 4<|
.o (.bp 3 6) 7 1 [1]<|
.o (.bin .lss 3 7 (I 0)) 8 1 []<|
.c6 8 (
 .ret (I 1)) (
 .o (.bp 3 6) 9 1 [1]<|
 .o (.bin .geq 3 9 (I 256)) 10 1 []<|
 .c6 10 (
  .ret (I 1)) (
  .o (.bp 34 5) 11 1 [1]<|
  .call 48 [11,.agg ⟨[1,2,3]⟩,.func (.func 49) ⟨[]⟩ ⟨[6,5]⟩] 12 1<|
  .ret 12))
theorem dw:fJ Tryz.prog 24 {nF:=[48],marks:=[34,3]} [0,.agg ⟨[1,2,3]⟩,4] 5=some t:=gE aw
theorem any {W:au} {g:Nat} {A:dh} {e:bN} (aA:b_ (aG W) (b3 (b1 g A e))) (p:dU) (c:Int) (ad:okB e.b) (hl:e.cells.length=(dZ e.b).toNat) (ag:e.known.length=e.cells.length) (hr:e.u.reqs.length<=400000):
  gY cw 24 [b2 g,P.val p,I c] W (b1 g A e) dh (λ_=>I (k4 e.b e.most p e.u.reqs c)) λaV=>b1 g aV (i_ e p c):=by
 refine kG (ro:=[]) mixed dw [b2 g,I p.1,I p.2.1,I p.2.2,I c] aA fB.none ?_;unfold t;refine Bo (cs:=[b2 g]) J J (λb=>j7) λdv=> ?_
 refine Bo (cs:=[I c]) J J (λb=>j7) λgc=> ?_
 refine bK ?_;have bad:¬p2 c->∃y:dh,I 1=I (k4 e.b e.most p e.u.reqs c)/\b1 g A e=b1 g y (i_ e p c):=λal=>⟨A,by unfold k4;rw[aO al],by rw[aiW al]⟩
 refine fV rfl (λaJ=> ?_) λaJ=> ?_
 ·exact oO (L':=b1 g A e) (λM bj=>bj.pre) (bad λq=>by have:=q.1;omega)
 ·refine bK ?_
  refine fV rfl (λh1=> ?_) λh1=> ?_
  ·exact oO (L':=b1 g A e) (λM bj=>bj.pre) (bad λq=>by have:=q.2;omega)
  ·have al:p2 c:=⟨ao,ao⟩
   refine bK ?_;refine il (dq:=b1 g A e++[aF.box gc oc [I c],aF.box dv fA [b2 g]]) (N:=λ(y:c_)=>b1 g {A with q:=y} (wF e p {e with cells:=e.cells.set (cc e.b p) c})++[aF.box gc oc [I c],aF.box dv fA [b2 g]]) (v:=λ_=>I (jz e.b e.most p e.u.reqs)) (L':=λy=>b1 g {A with q:=y} (i_ e p c)++[aF.box dv fA [b2 g],aF.box gc oc [I c]]) [0,1,2,3,4,5,6,7,8,9,10,11,13,12] (λ_=>[I (jz e.b e.most p e.u.reqs)]) (λw _ aA=>Gx.any Qw (e:=e) (e1:={e with cells:=e.cells.set (cc e.b p) c}) p ad (by show (e.cells.set (cc e.b p) c).length=_;rw[List.length_set];exact hl) (by show _=(e.cells.set (cc e.b p) c).length;rw[List.length_set];exact ag) hr (λw hp aA=>Yl.any aA (cc e.b p) (by rw[hl];exact wE hp)) aA wE) (λy=> ?_) (hL:=λy=>by rw[aiV al hl];rfl);refine oO (L':=b1 g {A with q:=y} (i_ e p c)) (λM bj=>bj.pre) ⟨{A with q:=y},?_,rfl⟩;unfold k4;rw[aN al];rfl
end Yn
namespace Yo
theorem Qw:fJ cw 48 {nF:=[50,84]} [0,.agg ⟨[1,2,3]⟩,.func (.func 50) #[] ⟨[4,5]⟩] 6=some (Gx.t 50):=gE aw
def t:bs:=
.pc 34 0<|
.pc 4 4<|
.o (.bp 34 5) 7 1 [1]<|
.call 48 [7,.agg ⟨[1,2,3]⟩,.func (.func 50) ⟨[]⟩ ⟨[6,5]⟩] 8 1<|
.ret 8
theorem dw:fJ Tryz.prog 25 {nF:=[48],marks:=[34,4]} [0,.agg ⟨[1,2,3]⟩,4] 5=some t:=gE aw
theorem any {W:au} {g:Nat} {A:dh} {e:bN} (aA:b_ (aG W) (b3 (b1 g A e))) (p:dU) (k:Bool) (ad:okB e.b) (hl:e.cells.length=(dZ e.b).toNat) (ag:e.known.length=e.cells.length) (hr:e.u.reqs.length<=400000):
  gY cw 25 [b2 g,P.val p,.bool k] W (b1 g A e) dh (λ_=>I (jz e.b e.most p e.u.reqs)) λaV=>b1 g aV (jX e p k):=by
 refine kG (ro:=[]) mixed dw [b2 g,I p.1,I p.2.1,I p.2.2,.bool k] aA fB.none ?_;unfold t;refine Bo (cs:=[b2 g]) J J (λb=>j7) λdv=> ?_
 refine Bo (cs:=[.bool k]) J J (λb=>j7) λgc=> ?_
 refine bK ?_;refine il (dq:=b1 g A e++[aF.box gc lT [.bool k],aF.box dv fA [b2 g]]) (N:=λ(y:c_)=>b1 g {A with q:=y} (wF e p {e with known:=e.known.set (cc e.b p) k})++[aF.box gc lT [.bool k],aF.box dv fA [b2 g]]) (v:=λ_=>I (jz e.b e.most p e.u.reqs)) (L':=λy=>b1 g {A with q:=y} (jX e p k)++[aF.box dv fA [b2 g],aF.box gc lT [.bool k]]) [0,1,2,3,4,5,6,7,8,9,10,11,13,12] (λ_=>[I (jz e.b e.most p e.u.reqs)]) (λw _ aA=>Gx.any Qw (e:=e) (e1:={e with known:=e.known.set (cc e.b p) k}) p ad hl (by show (e.known.set (cc e.b p) k).length=_;rw[List.length_set];exact ag) hr (λw hp aA=>Ym.any aA (cc e.b p) (by rw[ag,hl];exact wE hp)) aA wE) (λy=> ?_) (hL:=λy=>by rw[aiX (ag.trans hl)];rfl);exact oO (L':=b1 g {A with q:=y} (jX e p k)) (λM bj=>bj.pre) ⟨{A with q:=y},rfl,rfl⟩
end Yo
end AE
end
end
namespace AE
namespace Yp
noncomputable def body:Code:=(Tryz.f53.body).getD .skip
def N:Nat:=16
def a6:b6:={sl:=dn [(1,.func (.func 54) ⟨[]⟩ ⟨[0,1]⟩),(0,.agg ⟨[3,4,5,6,7,8,2]⟩)],ms:=[],A:=start}
theorem bk:ml (at' 16 [] [] body a6)=some (92,[2]):=aw
abbrev jn:=at' 16 [] [] body a6
def e9:List bM:=[⟨.cells [3,4,5,6,7,8,2],28,0⟩,⟨.cells [I 0,I 0,I 0,I 0,I 0,I 0,.slice none 0 0],28,0⟩]
def fo:aT:=dn [(4,gF 1 0),(2,gF 0 0),(1,.func (.func 54) ⟨[]⟩ ⟨[0,1]⟩)]
def fD:aT:=iZ 16 fo 8 9
theorem dH:dy (ke Tryz.prog jn) fo e9=some [(0,0),(1,1),(3,3),(4,4),(5,5),(6,6),(7,7),(8,8),(2,2)]:=aw
def fp:gm:=(body,[1,0],3)
def c4:bC:=[(.bp 28 0,.agg ⟨[3,4,5,6,7,8,2]⟩),
 (.cu 28 1 0,1),
 (.bp 25 1,.agg ⟨[I 0,I 0,I 0,I 0,I 0,I 0]⟩)]
def jH:ef:=[(93,[.agg ⟨[3,4,5,6,7,8]⟩,.agg ⟨[I 0,I 0,I 0,I 0,I 0,I 0]⟩],.agg ⟨[I 0,I 0,I 0,I 0,I 0,I 0]⟩)]
theorem lN:gu Tryz.prog Tryz.f53 (eS 16 c4 jH fp (db fD e9))=some (.agg ⟨[3,4,5,6,7,8,9]⟩):=aw
@[reducible] noncomputable def cl (cY:dA) (cG cZ pX:Nat) (b:bF) (pY:Nat) (rP:List Int:=[]) (hB:dA:=none) (hD:Nat:=0):List U:=[gF pX 0,gF pY 0,.slice cY cG cZ,I b.1,I b.2.1,I b.2.2.1,I b.2.2.2.1,I b.2.2.2.2.1,I b.2.2.2.2.2,bI hB rP hD]
theorem any (W:au) {cells:List Int} {cY:dA} {cG cZ pX:Nat} {b:bF} {pY:Nat} (lF:b_ (aG W) [u4 cY cG cZ cells,hZ pX 28 [I b.1,I b.2.1,I b.2.2.1,I b.2.2.2.1,I b.2.2.2.2.1,I b.2.2.2.2.2,.slice cY cG cZ],hZ pY 28 [I 0,I 0,I 0,I 0,I 0,I 0,.slice none 0 0]]) (aq:cells.length<=100000):Calls Tryz.prog 53 #[.agg ⟨[I b.1,I b.2.1,I b.2.2.1,I b.2.2.2.1,I b.2.2.2.2.1,I b.2.2.2.2.2,.slice cY cG cZ]⟩,.func (.func 54) #[] #[gF pX 0,gF pY 0]] W λe w'=>(∃y:dA×Nat,e= .returned (.agg ⟨[I b.1,I b.2.1,I b.2.2.1,I b.2.2.2.1,I b.2.2.2.2.1,I b.2.2.2.2.2,bI y.1 cells y.2]⟩)/\dp (aG W) [u4 cY cG cZ cells,hZ pX 28 [I b.1,I b.2.1,I b.2.2.1,I b.2.2.2.1,I b.2.2.2.2.1,I b.2.2.2.2.2,.slice cY cG cZ],hZ pY 28 [I 0,I 0,I 0,I 0,I 0,I 0,.slice none 0 0]] (aG w') [u4 cY cG cZ cells,hZ pX 28 [I b.1,I b.2.1,I b.2.2.1,I b.2.2.2.1,I b.2.2.2.2.1,I b.2.2.2.2.2,.slice cY cG cZ],hZ pY 28 [I 0,I 0,I 0,I 0,I 0,I 0,.slice none 0 0],pU y.1 cells y.2])/\ch 0 W w':=by
 refine tJ (cl cY cG cZ pX b pY) body a6 N [.agg ⟨[aj 3,aj 4,aj 5,aj 6,aj 7,aj 8,aj 2]⟩,.func (.func 54) ⟨[]⟩ ⟨[aj 0,aj 1]⟩] Tryz.func53 λa ai=> ?_
 letI:=du ai;have aA:=bW.start W _ lF;refine bO [] [] bc bd ?_ ai;obtain⟨rP,zF⟩:=jk (cells);refine nJ (Y:=c_) (bx:=λbZ=>(cl cY cG cZ pX b pY rP bZ.1 bZ.2)) aA [0] (λbZ=>[_]) (λbZ=>[pU bZ.1 rP bZ.2]) bk dH (ht fD 9) (jw:=λw hw dI av=>by rw[zF];exact NY av (PX.any _ ((av.arr 0 rfl).arr MQ) aq)) (rest:= ?_);intro lV ⟨hB,hD⟩ dB gd w ai;replace dB:=dB.FT;letI:=du ai;refine gP (gQ fp) c4 jH (ah (FQ 0 7 1 dB) (ah (jy 25 0 6) (ah (FQ 0 6 2 dB) bc))) (cz (Xa J J J J) bd) ?_ ai;exact bT lN λw2 br=>(by subst zF;exact⟨(_,_),rfl,(dB.done br)⟩)
end Yp
namespace Yq
noncomputable def body:Code:=(Tryz.f28.body).getD .skip
def N:Nat:=8
def a6:b6:={sl:=dn [(1,.agg ⟨[I 0,I 0,I 0,I 0,I 0,I 0,.slice none 0 0]⟩),(0,.agg ⟨[1,2,3,4,5,6,0]⟩)],ms:=[],A:=start}
def cq:bC:=[(.eo (I 28),I 28)]
theorem bk:y5 (at' 8 cq [] body a6)=some (28,(.agg ⟨[1,2,3,4,5,6,0]⟩)):=aw
abbrev jn:=at' 8 cq [] body a6
def e9:List bM:=[]
def fo:aT:=dn [(1,.agg ⟨[I 0,I 0,I 0,I 0,I 0,I 0,.slice none 0 0]⟩)]
def fD:aT:=iZ 8 fo 2 7
theorem e1:dy (cW jn) fo e9=some []:=aw
def fp:gm:=(body,[0],1)
theorem kY:y5 (eS 8 cq [] fp (db fD e9))=some (28,(.agg ⟨[I 0,I 0,I 0,I 0,I 0,I 0,.slice none 0 0]⟩)):=aw
abbrev oQ:=eS 8 cq [] fp {sl:=fD,ms:=[],A:=eJ e9}
def kZ:List bM:=[]
def jV:aT:=dn [(2,7)]
def hV:aT:=iZ 8 jV 3 8
theorem kR:dy (cW oQ) jV kZ=some [(7,7)]:=aw
def j6:gm:=(body,[0],2)
theorem og:EU (eS 8 cq [] j6 (db hV kZ))=some 28:=aw
abbrev vd:=eS 8 cq [] j6 {sl:=hV,ms:=[],A:=eJ kZ}
def nM:List bM:=[]
def pj:aT:=dn [(3,8),(2,7)]
def iH:aT:=iZ 8 pj 4 9
theorem sO:dy (cW vd) pj nM=some [(8,8),(7,7)]:=aw
def kU:gm:=(body,[0],3)
def c4:bC:=[(.eo (I 28),I 28),
 (.bp 28 7,.agg ⟨[1,2,3,4,5,6,0]⟩)]
theorem ve:ml (eS 8 c4 [] kU (db iH nM))=some (53,[.agg ⟨[1,2,3,4,5,6,0]⟩,.func (.func 54) ⟨[]⟩ ⟨[7,8]⟩]):=aw
abbrev BC:=eS 8 c4 [] kU {sl:=iH,ms:=[],A:=eJ nM}
def qK:List bM:=[]
def vf:aT:=dn [(4,9)]
def mc:aT:=iZ 8 vf 7 (.agg ⟨[1,2,3,4,5,6,10]⟩)
theorem vg:dy (cW BC) vf qK=some [(9,9)]:=aw
def pZ:gm:=(body,[1,0],3)
theorem BD:nY (eS 8 cq [] pZ (db mc qK))=some (28,9,(.agg ⟨[1,2,3,4,5,6,10]⟩)):=aw
abbrev zG:=eS 8 cq [] pZ {sl:=mc,ms:=[],A:=eJ qK}
def x0:List bM:=[]
def x1:aT:=dn [(4,9)]
def ss:aT:=match gy 8 x1 none (.tuple ⟨[]⟩) with|some s=>s|none=> .nil
theorem BE:dy (cW zG) x1 x0=some [(9,9)]:=aw
def Gd:gm:=(body,[1,0],4)
theorem BF:endCell Tryz.f28 (eS 8 cq [] Gd (db ss x0))=some (28,9):=aw
@[reducible] noncomputable def cl (cY:dA) (cG cZ:Nat) (b:bF) (j4:Nat:=0) (g1:Nat:=0) (g2:Nat:=0) (pk:List Int:=[]) (sP:dA:=none) (sQ:Nat:=0):List U:=[.slice cY cG cZ,I b.1,I b.2.1,I b.2.2.1,I b.2.2.2.1,I b.2.2.2.2.1,I b.2.2.2.2.2,gF j4 0,gF g1 0,gF g2 0,bI sP pk sQ]
theorem any (W:au) {cells:List Int} {cY:dA} {cG cZ:Nat} (lF:b_ (aG W) [u4 cY cG cZ cells]) {b:bF} (aq:cells.length<=100000):Calls Tryz.prog 28 #[.agg ⟨[I b.1,I b.2.1,I b.2.2.1,I b.2.2.2.1,I b.2.2.2.2.1,I b.2.2.2.2.2,.slice cY cG cZ]⟩,.agg ⟨[I 0,I 0,I 0,I 0,I 0,I 0,.slice none 0 0]⟩] W λe w'=>(∃y:dA×Nat,e= .returned (.agg ⟨[I b.1,I b.2.1,I b.2.2.1,I b.2.2.2.1,I b.2.2.2.2.1,I b.2.2.2.2.2,bI y.1 cells y.2]⟩)/\dp (aG W) [u4 cY cG cZ cells] (aG w') [u4 cY cG cZ cells,pU y.1 cells y.2])/\ch 0 W w':=by
 refine tJ (cl cY cG cZ b) body a6 N [.agg ⟨[aj 1,aj 2,aj 3,aj 4,aj 5,aj 6,aj 0]⟩,.agg ⟨[I 0,I 0,I 0,I 0,I 0,I 0,.slice none 0 0]⟩] Tryz.func28 λa ai=> ?_
 letI:=du ai;have aA:=bW.start W _ lF;refine bO cq [] (ah (iV _) bc) bd ?_ ai;refine CK (u:= .agg ⟨[I b.1,I b.2.1,I b.2.2.1,I b.2.2.2.1,I b.2.2.2.2.1,I b.2.2.2.2.2,.slice cY cG cZ]⟩) (cs:=[I b.1,I b.2.1,I b.2.2.1,I b.2.2.2.1,I b.2.2.2.2.1,I b.2.2.2.2.2,.slice cY cG cZ]) (bx:=λk0=>(cl cY cG cZ b k0)) bk J J J e1 (ht fD 7) rfl (λ_ k0=>AO) (λ_ _=>rfl) ?_;intro lV j4 fO PZ oe gd w ai;have dB:=aA.new (xq PZ fO oe);replace dB:=dB.FR;letI:=du ai;refine gP (gQ fp) cq [] (ah (iV _) bc) bd ?_ ai;refine CK (u:= .agg ⟨[I 0,I 0,I 0,I 0,I 0,I 0,.slice none 0 0]⟩) (cs:=[I 0,I 0,I 0,I 0,I 0,I 0,.slice none 0 0]) (bx:=λk0=>(cl cY cG cZ b j4 k0)) kY J J J kR (ht hV 8) rfl (λ_ k0=>jj) (λ_ _=>rfl) ?_;intro pa g1 js xt sR gd w ai;have j8:=dB.new (xq xt js sR);replace j8:=j8.zw;letI:=du ai;refine gP (gQ j6) cq [] (ah (iV _) bc) bd ?_ ai;refine M1 (z:= .agg ⟨[I 0,I 0,I 0,I 0,I 0,I 0,.slice none 0 0]⟩) (bx:=λk0=>(cl cY cG cZ b j4 g1 k0)) og aw sO (ht iH 9) rfl (λ_ k0=>jj) (λ_ _=>rfl) ?_;intro oJ g2 ur ll P0 Ge gd w ai;have mq:=j8.new (xq (ty:=28) (cs:=[I 0,I 0,I 0,I 0,I 0,I 0,.slice none 0 0]) (iJ.mk' ur P0) ll Ge);replace mq:=mq.FT;letI:=du ai;refine gP (gQ kU) c4 [] (ah (iV _) (ah (FQ 0 7 1 mq) bc)) bd ?_ ai;obtain⟨pk,Gf⟩:=jk (cells);refine nJ (Y:=c_) (bx:=λbZ=>(cl cY cG cZ b j4 g1 g2 pk bZ.1 bZ.2)) mq [0,1,2] (λbZ=>[_,_,_]) (λbZ=>[pU bZ.1 pk bZ.2]) ve vg (ht mc (.agg ⟨[1,2,3,4,5,6,10]⟩)) (jw:=λw hw dI av=>by rw[Gf];exact Yp.any _ av aq) (rest:= ?_);intro Xe ⟨sP,sQ⟩ oR gd w ai;replace oR:=oR.Pq;letI:=du ai;refine gP (gQ pZ) cq [] (ah (iV _) bc) bd ?_ ai;refine M9 (g:=g2) (j:=0) (n:=7) (us:=[I b.1,I b.2.1,I b.2.2.1,I b.2.2.2.1,I b.2.2.2.2.1,I b.2.2.2.2.2,bI sP pk sQ]) (cs:=[I 0,I 0,I 0,I 0,I 0,I 0,.slice none 0 0]) (cs':=[I b.1,I b.2.1,I b.2.2.1,I b.2.2.2.1,I b.2.2.2.2.1,I b.2.2.2.2.2,bI sP pk sQ]) (bx:=(cl cY cG cZ b j4 g1 g2 pk sP sQ)) rfl BD aw BE (ht ss (.tuple ⟨[]⟩)) J J J J J (o8 rfl (o8 rfl (o8 rfl (o8 rfl (o8 rfl (o8 rfl (o8 rfl E2))))))) (oR.box 3 rfl) (hJ rfl) (λ_=>jj) ?_;intro P1 P2 Gg gd w ai;have p0:=oR.l_ 3 rfl (v' P2 Gg);replace p0:=p0.Pq;letI:=du ai;refine gP (gQ Gd) cq [] (ah (iV _) bc) bd ?_ ai;exact Nn (v:= .agg ⟨[aj 1,aj 2,aj 3,aj 4,aj 5,aj 6,aj 10]⟩) (cs:=[I b.1,I b.2.1,I b.2.2.1,I b.2.2.2.1,I b.2.2.2.2.1,I b.2.2.2.2.2,bI sP pk sQ]) BF J J (p0.box 3 rfl) aw (show a7 Tryz.prog (sizeOf 28)=some 7 by kernel_rfl) J J λw2 P3 br=>⟨(by subst Gf;exact⟨(_,_),rfl,((p0.pick [0,4] rfl).done br)⟩),P3⟩
end Yq
namespace Yr
noncomputable def body:Code:=(Tryz.f14.body).getD .skip
def N:Nat:=9
def a6:b6:={sl:=dn [(0,0)],ms:=[],A:=start}
def cq:bC:=[(.dR 0,0),
 (.cu 76 0 0,0),
 (.bp 28 0,.agg ⟨[2,3,4,5,6,7,1]⟩)]
theorem bk:ml (at' 9 cq [] body a6)=some (28,[.agg ⟨[2,3,4,5,6,7,1]⟩,.agg ⟨[I 0,I 0,I 0,I 0,I 0,I 0,.slice none 0 0]⟩]):=aw
abbrev jn:=at' 9 cq [] body a6
def e9:List bM:=[⟨.cells [I 0,I 0,I 0,I 0,I 0,I 0,.slice none 0 0],28,0⟩]
def fo:aT:=dn [(2,gF 0 0)]
def fD:aT:=iZ 9 fo 8 (.agg ⟨[2,3,4,5,6,7,25]⟩)
theorem dH:dy (ke Tryz.prog jn) fo e9=some []:=aw
def fp:gm:=(body,[1,0],6)
theorem lN:gu Tryz.prog Tryz.f14 (eS 9 [] [] fp (db fD e9))=some (.agg ⟨[2,3,4,5,6,7,25]⟩):=aw
@[reducible] noncomputable def cl (cY:dA) (cG cZ fh:Nat) (b:bF) (xa:Nat->U) (rP:List Int:=[]) (hB:dA:=none) (hD:Nat:=0):List U:=[gF fh 0,.slice cY cG cZ,I b.1,I b.2.1,I b.2.2.1,I b.2.2.2.1,I b.2.2.2.2.1,I b.2.2.2.2.2,xa 0,xa 1,xa 2,xa 3,xa 4,xa 5,xa 6,xa 7,xa 8,xa 9,xa 10,xa 11,xa 12,xa 13,xa 14,xa 15,xa 16,bI hB rP hD]
theorem any (W:au) {cells:List Int} {cY:dA} {cG cZ fh:Nat} {b:bF} {xa:Nat->U} (lF:b_ (aG W) [u4 cY cG cZ cells,hZ fh 76 [I b.1,I b.2.1,I b.2.2.1,I b.2.2.2.1,I b.2.2.2.2.1,I b.2.2.2.2.2,.slice cY cG cZ,xa 0,xa 1,xa 2,xa 3,xa 4,xa 5,xa 6,xa 7,xa 8,xa 9,xa 10,xa 11,xa 12,xa 13,xa 14,xa 15,xa 16]]) (aq:cells.length<=100000):Calls Tryz.prog 14 #[gF fh 0] W λe w'=>(∃y:dA×Nat,e= .returned (.agg ⟨[I b.1,I b.2.1,I b.2.2.1,I b.2.2.2.1,I b.2.2.2.2.1,I b.2.2.2.2.2,bI y.1 cells y.2]⟩)/\dp (aG W) [u4 cY cG cZ cells,hZ fh 76 [I b.1,I b.2.1,I b.2.2.1,I b.2.2.2.1,I b.2.2.2.2.1,I b.2.2.2.2.2,.slice cY cG cZ,xa 0,xa 1,xa 2,xa 3,xa 4,xa 5,xa 6,xa 7,xa 8,xa 9,xa 10,xa 11,xa 12,xa 13,xa 14,xa 15,xa 16]] (aG w') [u4 cY cG cZ cells,hZ fh xx [I b.1,I b.2.1,I b.2.2.1,I b.2.2.2.1,I b.2.2.2.2.1,I b.2.2.2.2.2,.slice cY cG cZ,xa 0,xa 1,xa 2,xa 3,xa 4,xa 5,xa 6,xa 7,xa 8,xa 9,xa 10,xa 11,xa 12,xa 13,xa 14,xa 15,xa 16],pU y.1 cells y.2])/\ch 0 W w':=by
 refine tJ (cl cY cG cZ fh b xa) body a6 N [aj 0] Tryz.func14 λa ai=> ?_
 letI:=du ai;have aA:=bW.start W _ lF;refine bO cq [] (ah kX (ah (jy 28 0 7) (ah (FQ 0 7 1 aA) bc))) bd ?_ ai;obtain⟨rP,zF⟩:=jk (cells);refine nJ (Y:=c_) (bx:=λbZ=>(cl cY cG cZ fh b xa rP bZ.1 bZ.2)) aA [0] (λbZ=>[_]) (λbZ=>[pU bZ.1 rP bZ.2]) bk dH (ht fD (.agg ⟨[2,3,4,5,6,7,25]⟩)) (jw:=λw hw dI av=>by rw[zF];exact Yq.any _ av aq) (rest:= ?_);intro lV ⟨hB,hD⟩ dB gd w ai;replace dB:=dB.zw;letI:=du ai;refine gP (gQ fp) [] [] bc bd ?_ ai;exact bT lN λw2 br=>(by subst zF;exact⟨(_,_),rfl,(dB.done br)⟩)
end Yr
end AE
namespace AE
namespace Ys
noncomputable def body:Code:=(Tryz.f7.body).getD .skip
def N:Nat:=75
noncomputable abbrev bV:=gu Tryz.prog Tryz.f7
def a6:b6:={sl:=dn [(3,2),(2,1),(1,0),(0,.agg ⟨[3,4,5,6,7,8,9]⟩)],ms:=[],A:=start}
def cq:bC:=[(.eo (I 76),I 76),
 (.bin .neq 35 10 (I 0),.bool false),
 (.bin .lss 3 2 (I 1),.bool true)]
def lE:ef:=[(27,[.agg ⟨[3,4,5,6,7,8,9]⟩,0,1],10)]
theorem bk:bV (at' 75 cq lE body a6)=some (.tuple ⟨[.pointer none,I 1]⟩):=aw
def c4:bC:=[(.eo (I 76),I 76),
 (.bin .neq 35 10 (I 0),.bool false),
 (.bin .lss 3 2 (I 1),.bool false),
 (.bin .gtr 3 2 (I 65536),.bool true)]
def jH:ef:=[(27,[.agg ⟨[3,4,5,6,7,8,9]⟩,0,1],10)]
theorem e1:bV (at' 75 c4 jH body a6)=some (.tuple ⟨[.pointer none,I 1]⟩):=aw
def ew:bC:=[(.eo (I 76),I 76),
 (.bin .neq 35 10 (I 0),.bool false),
 (.bin .lss 3 2 (I 1),.bool false),
 (.bin .gtr 3 2 (I 65536),.bool false),
 (.len #[26] 3 9,11)]
def nK:ef:=[(27,[.agg ⟨[3,4,5,6,7,8,9]⟩,0,1],10)]
abbrev kv:=at' 75 ew nK body a6
theorem e2:E' Tryz.prog 75 13 [2,5,7,9,12] kv 2=some (28,[.agg ⟨[3,4,5,6,7,8,9]⟩,.agg ⟨[I 0,I 0,I 0,I 0,I 0,I 0,.slice none 0 0]⟩]):=aw
theorem dH:E' Tryz.prog 75 13 [2,5,7,9,12] kv 5=some (28,[.agg ⟨[3,4,5,6,7,8,9]⟩,.agg ⟨[I 0,I 0,I 0,I 0,I 0,I 0,.slice none 0 0]⟩]):=aw
theorem jD:E' Tryz.prog 75 13 [2,5,7,9,12] kv 7=some (29,[0]):=aw
theorem oP:IJ Tryz.prog 75 13 [2,5,7,9,12] kv 9=some (51,11):=aw
theorem kY:IJ Tryz.prog 75 13 [2,5,7,9,12] kv 12=some (30,11):=aw
def e9:List bM:=[]
def fo:aT:=dn [(39,2),(10,11),(9,I 0),(8,.pointer none),(2,1)]
theorem kR:(E8 Tryz.prog 75 13 [2,5,7,9,12] kv).isSome=true:=aw
theorem lN:dy (E9 Tryz.prog 75 13 [2,5,7,9,12] kv) fo e9=some [(2,2),(1,1),(11,11)]:=aw
def IN:aT:=match CP 75 (lQ kv) [(2,.agg ⟨[aj 3,aj 4,aj 5,aj 6,aj 7,aj 8,aj 12]⟩),(5,.agg ⟨[aj 3,aj 4,aj 5,aj 6,aj 7,aj 8,aj 13]⟩),(7,aj 14),(9,aj 15),(12,aj 16)] fo with|some s=>s|none=> .nil
theorem sS:CP 75 (lQ kv) [(2,.agg ⟨[3,4,5,6,7,8,12]⟩),(5,.agg ⟨[3,4,5,6,7,8,13]⟩),(7,14),(9,15),(12,16)] fo=some IN:=aw
def eP:bC:=[(.eo (I 76),I 76)]
theorem x3:y5 (Wk 75 eP [] (Nt 13 kv) (lQ kv) (gX kv) (db IN e9))=some (76,(.agg ⟨[3,4,5,6,7,8,12,3,4,5,6,7,8,13,.slice none 0 0,.slice none 0 0,14,15,2,.slice none 0 0,.slice none 0 0,.slice none 0 0,.slice none 0 0,16]⟩)):=aw
abbrev oQ:=Wk 75 eP [] (Nt 13 kv) (lQ kv) (gX kv) {sl:=IN,ms:=[],A:=eJ e9}
def kZ:List bM:=[]
def jV:aT:=dn [(10,11),(9,I 0),(8,.pointer none),(2,1)]
def hV:aT:=iZ 75 jV 43 17
theorem vk:dy (cW oQ) jV kZ=some [(1,1),(11,11)]:=aw
def j6:gm:=(body,[1,1,1,0],15)
theorem Gh:ml (eS 75 eP [] j6 (db hV kZ))=some (30,[1]):=aw
abbrev vd:=eS 75 eP [] j6 {sl:=hV,ms:=[],A:=eJ kZ}
def nM:List bM:=[]
def pj:aT:=dn [(44,17),(11,17),(10,11),(9,I 0),(8,.pointer none),(2,1)]
def iH:aT:=iZ 75 pj 46 22
theorem Gt:dy (ke Tryz.prog vd) pj nM=some [(17,17),(1,1),(17,17),(11,11)]:=aw
def kU:gm:=(body,[1,1,1,1,0],3)
def gL:bC:=[(.eo (I 76),I 76),
 (.dR 17,17),
 (.cu 76 17 2,23)]
theorem Qp:nY (eS 75 gL [] kU (db iH nM))=some (30,23,22):=aw
abbrev BC:=eS 75 gL [] kU {sl:=iH,ms:=[],A:=eJ nM}
def qK:List bM:=[]
def vf:aT:=dn [(11,17),(10,11),(9,I 0),(8,.pointer none),(2,1)]
def mc:aT:=match gy 75 vf none (.tuple ⟨[]⟩) with|some s=>s|none=> .nil
theorem Qq:dy (cW BC) vf qK=some [(17,17),(1,1),(11,11)]:=aw
def pZ:gm:=(body,[1,1,1,1,0],6)
def iz:bC:=[(.eo (I 76),I 76),
 (.len #[30] 3 1,24),
 (.bin .eql 3 24 (I 0),.bool true)]
abbrev zG:=eS 75 iz [] pZ {sl:=mc,ms:=[],A:=eJ qK}
def x0:List bM:=[]
def x1:aT:=dn [(54,11),(52,17),(11,17),(10,11),(9,I 0),(8,.pointer none)]
def ss:aT:=(b4.set 25 depth x1 53).getD .nil
theorem Gu:E1 zG 0 53=some ([.bool true],1,1):=aw
theorem Qr:dy (cW zG) x1 x0=some [(17,17),(17,17),(11,11),(11,11)]:=aw
theorem BF:b4.set 25 depth x1 53=some ss:=aw
theorem Qs:ml ((CM (db ss x0) zG))=some (31,[25,11]):=aw
abbrev aiY:=(CM {sl:=ss,ms:=[],A:=eJ x0} zG)
def Qx:List bM:=[]
def Yt:aT:=dn [(52,17),(11,17),(10,11),(9,I 0),(8,.pointer none)]
def Qy:aT:=iZ 75 Yt 55 26
theorem Qz:dy (ke Tryz.prog aiY) Yt Qx=some [(17,17),(17,17),(11,11)]:=aw
def QA:gm:=(body,[1,1,1,1,1,0,1,2],4)
theorem aiZ:nY (eS 75 gL [] QA (db Qy Qx))=some (30,23,26):=aw
abbrev ai0:=eS 75 gL [] QA {sl:=Qy,ms:=[],A:=eJ Qx}
def QB:List bM:=[]
def Yu:aT:=dn [(11,17),(10,11),(9,I 0),(8,.pointer none)]
def QC:aT:=match gy 75 Yu none (.tuple ⟨[]⟩) with|some s=>s|none=> .nil
theorem ai1:dy (cW ai0) Yu QB=some [(17,17),(11,11)]:=aw
def QD:gm:=(body,[1,1,1,1,1,0,1,2],7)
def mK:bC:=[(.eo (I 76),I 76),
 (.dR 17,17),
 (.cu 76 17 2,23),
 (.bp 30 23,26)]
theorem ai2:ml (eS 75 mK [] QD (db QC QB))=some (30,[26]):=aw
abbrev ai3:=eS 75 mK [] QD {sl:=QC,ms:=[],A:=eJ QB}
def QE:List bM:=[]
def Yv:aT:=dn [(58,17),(11,17),(10,11),(9,I 0),(8,.pointer none)]
def QF:aT:=iZ 75 Yv 63 27
theorem ai4:dy (ke Tryz.prog ai3) Yv QE=some [(17,17),(11,11),(17,17)]:=aw
def QG:gm:=(body,[1,1,1,1,1,1,0],6)
def oT:bC:=[(.eo (I 76),I 76),
 (.dR 17,17),
 (.cu 76 17 3,28)]
theorem ai5:nY (eS 75 oT [] QG (db QF QE))=some (30,28,27):=aw
abbrev ai6:=eS 75 oT [] QG {sl:=QF,ms:=[],A:=eJ QE}
def Yw:List bM:=[]
def Yx:aT:=dn [(11,17),(10,11),(9,I 0),(8,.pointer none)]
def Yy:aT:=match gy 75 Yx none (.tuple ⟨[]⟩) with|some s=>s|none=> .nil
theorem ai7:dy (cW ai6) Yx Yw=some [(17,17),(11,11)]:=aw
def Yz:gm:=(body,[1,1,1,1,1,1,0],9)
def hH:List bM:=[]
def hI:aT:=dn [(67,29),(66,11),(11,17),(9,I 0),(8,.pointer none)]
abbrev k1:=eS 75 eP [] Yz {sl:=Yy,ms:=[],A:=eJ Yw}
theorem ai8:tv hI hH k1=some [(17,17),(I 0,29),(11,11)]:=aw
def h8:Code:=y7 body [1,1,1,1,1,1,1,0,1,4]
def lh:List fe:=qp body [1,1,1,1,1,1,1,0,1,4] []
theorem ai9:se k1=h8:=aw
theorem ai':gX k1=lh:=aw
def qL:bC:=[(.eo (I 76),I 76),
 (.bin .lss 3 29 11,.bool true)]
theorem ai_:ml (at' 75 qL [] h8 (db hI hH))=some (32,[17,29]):=aw
abbrev aja:=at' 75 qL [] h8 (db hI hH)
def YA:List bM:=[]
def YB:aT:=dn [(67,29),(66,11),(11,17),(9,I 0),(8,.pointer none)]
def P9:aT:=iZ 75 YB 72 (.tuple ⟨[]⟩)
theorem ajb:dy (ke Tryz.prog aja) YB YA=some [(17,17),(29,29),(11,11)]:=aw
def YC:gm:=(h8,[1,1,0,4,1],3)
def vi:bC:=[(.eo (I 76),I 76),
 (.bin .add 3 29 (I 1),32)]
theorem ajc:uD hI hH (eS 75 vi [] YC (db P9 YA))=some [(17,17),(32,29),(11,11)]:=aw
def vj:bC:=[(.eo (I 76),I 76),
 (.bin .lss 3 29 11,.bool false)]
theorem ajd:bV (qG 75 eP [] lh (at' 75 vj [] h8 (db hI hH)))=some (.tuple ⟨[17,I 0]⟩):=aw
def x2:bC:=[(.eo (I 76),I 76),
 (.len #[30] 3 1,24),
 (.bin .eql 3 24 (I 0),.bool false),
 (.dR 17,17),
 (.cu 76 17 2,23),
 (.bp 30 23,22)]
theorem aje:ml (eS 75 x2 [] pZ (db mc qK))=some (30,[22]):=aw
abbrev ajf:=eS 75 x2 [] pZ {sl:=mc,ms:=[],A:=eJ qK}
def QH:List bM:=[]
def YD:aT:=dn [(58,17),(11,17),(10,11),(9,I 0),(8,.pointer none)]
def QI:aT:=iZ 75 YD 63 33
theorem ajg:dy (ke Tryz.prog ajf) YD QH=some [(17,17),(11,11),(17,17)]:=aw
def QJ:gm:=(body,[1,1,1,1,1,1,0],6)
theorem ajh:nY (eS 75 oT [] QJ (db QI QH))=some (30,28,33):=aw
abbrev aji:=eS 75 oT [] QJ {sl:=QI,ms:=[],A:=eJ QH}
def YE:List bM:=[]
def YF:aT:=dn [(11,17),(10,11),(9,I 0),(8,.pointer none)]
def YG:aT:=match gy 75 YF none (.tuple ⟨[]⟩) with|some s=>s|none=> .nil
theorem ajj:dy (cW aji) YF YE=some [(17,17),(11,11)]:=aw
def YH:gm:=(body,[1,1,1,1,1,1,0],9)
def Gy:List bM:=[]
def Gz:aT:=dn [(67,34),(66,11),(11,17),(9,I 0),(8,.pointer none)]
abbrev QK:=eS 75 eP [] YH {sl:=YG,ms:=[],A:=eJ YE}
theorem ajk:tv Gz Gy QK=some [(17,17),(I 0,34),(11,11)]:=aw
def GC:Code:=y7 body [1,1,1,1,1,1,1,0,1,4]
def YI:List fe:=qp body [1,1,1,1,1,1,1,0,1,4] []
theorem ajl:se QK=GC:=aw
theorem ajm:gX QK=YI:=aw
def x4:bC:=[(.eo (I 76),I 76),
 (.bin .lss 3 34 11,.bool true)]
theorem ajn:ml (at' 75 x4 [] GC (db Gz Gy))=some (32,[17,34]):=aw
abbrev ajo:=at' 75 x4 [] GC (db Gz Gy)
def YJ:List bM:=[]
def HM:aT:=dn [(67,34),(66,11),(11,17),(9,I 0),(8,.pointer none)]
def YK:aT:=iZ 75 HM 72 (.tuple ⟨[]⟩)
theorem ajp:dy (ke Tryz.prog ajo) HM YJ=some [(17,17),(34,34),(11,11)]:=aw
def YL:gm:=(GC,[1,1,0,4,1],3)
def zH:bC:=[(.eo (I 76),I 76),
 (.bin .add 3 34 (I 1),37)]
theorem ajq:uD Gz Gy (eS 75 zH [] YL (db YK YJ))=some [(17,17),(37,34),(11,11)]:=aw
def Gq:bC:=[(.eo (I 76),I 76),
 (.bin .lss 3 34 11,.bool false)]
theorem ajr:bV (qG 75 eP [] YI (at' 75 Gq [] GC (db Gz Gy)))=some (.tuple ⟨[17,I 0]⟩):=aw
def Gr:bC:=[(.eo (I 76),I 76),
 (.bin .neq 35 10 (I 0),.bool true)]
def Gs:ef:=[(27,[.agg ⟨[3,4,5,6,7,8,9]⟩,0,1],10)]
theorem ajs:bV (at' 75 Gr Gs body a6)=some (.tuple ⟨[.pointer none,I 1]⟩):=aw
@[reducible] noncomputable def cl (cells:List Int) (cY:dA) (cG cZ:Nat) (table:List cr) (j9:dA) (j':Nat) (known:List Bool) (h9:dA) (h':Nat) (most:Int) (b:bF) (tN:List Nat:=[]) (ye:dA:=none) (yf:Nat:=0) (nP:Nat:=0) (tO:List Nat:=[]) (yg:dA:=none) (yh:Nat:=0) (nQ:Nat:=0) (hB:dA:=none) (hD:Nat:=0) (kk:dA:=none) (kl:Nat:=0) (km:dA:=none) (kn:Nat:=0) (jA:List bA:=[]) (ko:dA:=none) (kp:Nat:=0) (ja:List Bool:=[]) (kq:dA:=none) (kr:Nat:=0) (g1:Nat:=0) (mO:List Bool:=[]) (mM:dA:=none) (mN:Nat:=0) (g4:Nat:=0) (qP:List Bool:=[]) (tP:dA:=none) (tQ:Nat:=0) (vm:List Bool:=[]) (yi:dA:=none) (yj:Nat:=0) (Dp:List Nat:=[]) (QL:dA:=none) (QM:Nat:=0) (vn:List Bool:=[]) (yk:dA:=none) (yl:Nat:=0) (Dq:List Nat:=[]) (QN:dA:=none) (QO:Nat:=0):List U:=[bI j9 table j',bI h9 known h',I most,I b.1,I b.2.1,I b.2.2.1,I b.2.2.2.1,I b.2.2.2.2.1,I b.2.2.2.2.2,.slice cY cG cZ,I (x8 b cells table known),I ((cells.length:Nat):Int),bI hB cells hD,bI kk cells kl,bI km table kn,bI ko jA kp,bI kq ja kr,gF g1 0,.slice none ([]:List ix).length 0,.slice none (([]:List ax)).length 0,.slice none ((([]:List Nat))).length 0,.slice none (((([]:List Nat)))).length 0,bI mM mO mN,gF g1 14,I ((known.length:Nat):Int),.slice (some ⟨g4,0,none⟩) 1 1,bI tP qP tQ,bI yi vm yj,gF g1 15,I ((nP:Nat):Int),bI ye tN yf,bI QL Dp QM,I ((nP+1:Nat):Int),bI yk vn yl,I ((nQ:Nat):Int),bI yg tO yh,bI QN Dq QO,I ((nQ+1:Nat):Int)]
theorem any (W:au) {b:bF} {cY:dA} {cG cZ:Nat} {cells:List Int} (hf:b7 (aG W) 1 ih (.slice cY cG cZ) cells) {nN:U} {table:List cr} (aI:b7 (aG W) 8 hA nN table) {nO:U} {known:List Bool} (ig:b7 (aG W) 1 hO nO known) (most:Int) (b0:ly (aG W)) (aq:cells.length<=10000) (iD:cG=cells.length) (nC:known.length<=100000) (x_:table.length<=100000):Calls Tryz.prog 7 #[.agg ⟨[I b.1,I b.2.1,I b.2.2.1,I b.2.2.2.1,I b.2.2.2.2.1,I b.2.2.2.2.2,.slice cY cG cZ]⟩,nN,nO,I most] W λe w'=>(if nh b cells table known most then (∃(g:Nat) (y:c_×qJ×qJ×qJ×qJ×qJ×qJ×qJ),e= .returned (.tuple ⟨[gF g 0,I 0]⟩)/\dp (aG W) [] (aG w') [o7 zg 3 uN (.slice none 0 0) [],o7 zh 5 kg (.slice none 0 0) [],iK sv 1 o_ (.slice none 0 0) [],o7 sv 1 o_ (.slice y.1.1 (List.range cells.length).length y.1.2) (List.range cells.length),iK lT 1 hO (.slice y.2.1.1 y.2.1.2.1 y.2.1.2.2) (jo cells.length cells.length),iK sw 4 ck (.slice y.2.2.1.1 y.2.2.1.2.1 y.2.2.1.2.2) (List.replicate cells.length zi),u4 y.2.2.2.1.1 y.2.2.2.1.2.1 y.2.2.2.1.2.2 cells,ag_ y.2.2.2.2.1.1 y.2.2.2.2.1.2.1 y.2.2.2.2.1.2.2 table,iK lT 1 hO (.slice y.2.2.2.2.2.1.1 y.2.2.2.2.2.1.2.1 y.2.2.2.2.2.1.2.2) (sT known cells.length),u4 y.2.2.2.2.2.2.1.1 y.2.2.2.2.2.2.1.2.1 y.2.2.2.2.2.2.1.2.2 cells,iK lT 1 hO (.slice y.2.2.2.2.2.2.2.1 y.2.2.2.2.2.2.2.2.1 y.2.2.2.2.2.2.2.2.2) (sT known cells.length),hZ g xx [I b.1,I b.2.1,I b.2.2.1,I b.2.2.2.1,I b.2.2.2.2.1,I b.2.2.2.2.2,.slice y.2.2.2.2.2.2.1.1 y.2.2.2.2.2.2.1.2.1 y.2.2.2.2.2.2.1.2.2,I b.1,I b.2.1,I b.2.2.1,I b.2.2.2.1,I b.2.2.2.2.1,I b.2.2.2.2.2,.slice y.2.2.2.1.1 y.2.2.2.1.2.1 y.2.2.2.1.2.2,.slice y.2.2.2.2.2.2.2.1 y.2.2.2.2.2.2.2.2.1 y.2.2.2.2.2.2.2.2.2,.slice y.2.2.2.2.2.1.1 y.2.2.2.2.2.1.2.1 y.2.2.2.2.2.1.2.2,.slice y.2.2.2.2.1.1 y.2.2.2.2.1.2.1 y.2.2.2.2.1.2.2,.slice y.2.2.1.1 y.2.2.1.2.1 y.2.2.1.2.2,I most,.slice none 0 0,.slice none 0 0,.slice none 0 0,.slice y.1.1 (List.range cells.length).length y.1.2,.slice y.2.1.1 y.2.1.2.1 y.2.1.2.2]]) else e= .returned (.tuple ⟨[.pointer none,I 1]⟩))/\ch W.heap.size W w':=by
 obtain⟨j9,j',rfl⟩:=aI.slice;obtain⟨h9,h',rfl⟩:=ig.slice;refine kH (cl cells cY cG cZ table j9 j' known h9 h' most b) body a6 N [.agg ⟨[aj 3,aj 4,aj 5,aj 6,aj 7,aj 8,aj 9]⟩,aj 0,aj 1,aj 2] Tryz.func7 λa ai=> ?_
 letI:=du ai;have aA:=bW.qs W;by_cases aJ:(x8 b cells table known)=0
 ·by_cases h1:most<1
  ·refine bO cq lE (ah (iV _) (ah u3 (ah bD bc))) (cz (JV J J J J hf (aI.mono aA.ext) (ig.mono aA.ext) b0 ao iD) bd) ?_ ai
   exact bT bk λw2 br=>(by (rw[aO (λq:nh b cells table known most=>by have q1:=q.1;have aE:=q.2.1;have b9:=q.2.2;omega)];rfl))
  ·by_cases ae:65536<most
   ·refine bO c4 jH (ah (iV _) (ah u3 (ah a8 (ah bD bc)))) (cz (JV J J J J hf (aI.mono aA.ext) (ig.mono aA.ext) b0 ao iD) bd) ?_ ai
    exact bT e1 λw2 br=>(by (rw[aO (λq:nh b cells table known most=>by have q1:=q.1;have aE:=q.2.1;have b9:=q.2.2;omega)];rfl))
   ·refine bO ew nK (ah (iV _) (ah u3 (ah a8 (ah a8 (ah (fW (hf.mono aA.ext) l8) bc))))) (cz (JV J J J J hf (aI.mono aA.ext) (ig.mono aA.ext) b0 ao iD) bd) ?_ ai
    obtain⟨jA,JY⟩:=jk (List.replicate cells.length zi);have alR:jA.length=cells.length:=by rw[JY];exact lG
    obtain⟨ja,JZ⟩:=jk (List.replicate cells.length uO);have alS:ja.length=cells.length:=by rw[JZ];exact lG
    refine aeH (Y:=c_×c_×c_×c_×c_) (bx:=λbZ=>(cl cells cY cG cZ table j9 j' known h9 h' most b [] none 0 0 [] none 0 0 bZ.1.1 bZ.1.2 bZ.2.1.1 bZ.2.1.2 bZ.2.2.1.1 bZ.2.2.1.2 jA bZ.2.2.2.1.1 bZ.2.2.2.1.2 ja bZ.2.2.2.2.1 bZ.2.2.2.2.2)) (m:=13) (hq:=[(2,.agg ⟨[aj 3,aj 4,aj 5,aj 6,aj 7,aj 8,aj 12]⟩),(5,.agg ⟨[aj 3,aj 4,aj 5,aj 6,aj 7,aj 8,aj 13]⟩),(7,aj 14),(9,aj 15),(12,aj 16)]) (R:=λi bZ=>bif Nat.beq i 2 then pU bZ.1 cells bZ.2 else bif Nat.beq i 5 then pU bZ.1 cells bZ.2 else bif Nat.beq i 7 then Jx bZ.1 table bZ.2 else bif Nat.beq i 9 then De bZ.1 jA bZ.2 else bif Nat.beq i 12 then tI bZ.1 ja bZ.2 else uP []) (rv:=λi bZ=>bif Nat.beq i 2 then .agg ⟨[I b.1,I b.2.1,I b.2.2.1,I b.2.2.2.1,I b.2.2.2.2.1,I b.2.2.2.2.2,bI bZ.1 cells bZ.2]⟩ else bif Nat.beq i 5 then .agg ⟨[I b.1,I b.2.1,I b.2.2.1,I b.2.2.2.1,I b.2.2.2.2.1,I b.2.2.2.2.2,bI bZ.1 cells bZ.2]⟩ else bif Nat.beq i 7 then bI bZ.1 table bZ.2 else bif Nat.beq i 9 then bI bZ.1 jA bZ.2 else bif Nat.beq i 12 then bI bZ.1 ja bZ.2 else .bool false) (pr:=λi bZ=>bif Nat.beq i 2 then bZ.1 else bif Nat.beq i 5 then bZ.2.1 else bif Nat.beq i 7 then bZ.2.2.1 else bif Nat.beq i 9 then bZ.2.2.2.1 else bif Nat.beq i 12 then bZ.2.2.2.2 else (none,0)) (mk:=λys=>(ys 2,ys 5,ys 7,ys 9,ys 12)) mixed kR cv (qv (wa.arr (F:=λGD=> .agg ⟨[I b.1,I b.2.1,I b.2.2.1,I b.2.2.2.1,I b.2.2.2.2.1,I b.2.2.2.2.2,GD]⟩) (l:=cells) e2 rfl λw hw dI=>PY.any _ ((hf.mono aA.ext).mono hw) ao) (qv (wa.arr (F:=λGD=> .agg ⟨[I b.1,I b.2.1,I b.2.2.1,I b.2.2.2.1,I b.2.2.2.2.1,I b.2.2.2.2.2,GD]⟩) (l:=cells) dH rfl λw hw dI=>PY.any _ ((hf.mono aA.ext).mono hw) ao) (qv (wa.arr (F:=λGD=>GD) (l:=table) jD rfl λw hw dI=>Xc.any _ ((aI.mono aA.ext).mono hw) x_) (qv (wa.Uy (n:=cells.length) (zr:=zi) (l':=jA) JY oP IY U1 U2 U3 U4 rfl I1 rfl (by rfl) ao (by unfold I0;omega) ao) (qv (wa.Uy (n:=cells.length) (zr:=uO) (l':=ja) JZ kY nD NQ NR NS NT rfl mf rfl (by rfl) ao (by unfold Fj;omega) ao) Nx))))) (λys=>(qv rfl (qv rfl (qv rfl (qv rfl (qv rfl Nx)))))) lN sS rfl (λbZ M'=>(qv rfl (qv rfl (qv rfl (qv rfl (qv rfl Nx)))))) (λ_ _=>jj) ?_;intro⟨⟨hB,hD⟩,⟨kk,kl⟩,⟨km,kn⟩,⟨ko,kp⟩,⟨kq,kr⟩⟩ lV xZ gd w ai;have dB:=aA.put (L':=[]) (N:=[pU hB cells hD,pU kk cells kl,Jx km table kn,De ko jA kp,tI kq ja kr]) [] J J xZ;replace dB:=dB.Pq;letI:=du ai;refine Mw (F:=eP) (T:=[]) (bb:=1000) (d:=10) mixed (ah (iV _) bc) bd ?_ ai;refine CK (u:= .agg ⟨[I b.1,I b.2.1,I b.2.2.1,I b.2.2.2.1,I b.2.2.2.2.1,I b.2.2.2.2.2,bI hB cells hD,I b.1,I b.2.1,I b.2.2.1,I b.2.2.2.1,I b.2.2.2.2.1,I b.2.2.2.2.2,bI kk cells kl,.slice none 0 0,.slice none 0 0,bI km table kn,bI ko jA kp,I most,.slice none 0 0,.slice none 0 0,.slice none 0 0,.slice none 0 0,bI kq ja kr]⟩) (cs:=[I b.1,I b.2.1,I b.2.2.1,I b.2.2.2.1,I b.2.2.2.2.1,I b.2.2.2.2.2,bI hB cells hD,I b.1,I b.2.1,I b.2.2.1,I b.2.2.2.1,I b.2.2.2.2.1,I b.2.2.2.2.2,bI kk cells kl,.slice none 0 0,.slice none 0 0,bI km table kn,bI ko jA kp,I most,.slice none 0 0,.slice none 0 0,.slice none 0 0,.slice none 0 0,bI kq ja kr]) (bx:=λk0=>(cl cells cY cG cZ table j9 j' known h9 h' most b [] none 0 0 [] none 0 0 hB hD kk kl km kn jA ko kp ja kq kr k0)) x3 J J J vk (ht hV 17) rfl (λ_ k0=>jj) (λ_ _=>rfl) ?_;intro pa g1 js xt sR gd w ai;have j8:=dB.new (xq xt js sR);replace j8:=j8.new (PU pa zg 3 uN);replace j8:=j8.new (PU pa zh 5 kg);replace j8:=j8.new (PT pa sv 1 o_);replace j8:=j8.new (PU pa sv 1 o_);replace j8:=j8.ahc;letI:=du ai;refine gP (gQ j6) eP [] (ah (iV _) bc) bd ?_ ai;obtain⟨mO,QP⟩:=jk (known);refine nJ (Y:=c_) (bx:=λbZ=>(cl cells cY cG cZ table j9 j' known h9 h' most b [] none 0 0 [] none 0 0 hB hD kk kl km kn jA ko kp ja kq kr g1 mO bZ.1 bZ.2)) j8 [] (λbZ=>[]) (λbZ=>[tI bZ.1 mO bZ.2]) Gh Gt (ht iH 22) (jw:=λw hw dI av=>by rw[QP];exact E3 (Gc.any _ ((ig.mono j8.ext).mono hw) ao)) (rest:= ?_);intro oJ ⟨mM,mN⟩ mq gd w ai;replace mq:=mq.Wo;letI:=du ai;refine gP (gQ kU) gL [] (ah (iV _) (ah kX (ah (jy 30 14 1) bc))) bd ?_ ai;refine FV 14 [I b.1,I b.2.1,I b.2.2.1,I b.2.2.2.1,I b.2.2.2.2.1,I b.2.2.2.2.2,bI hB cells hD,I b.1,I b.2.1,I b.2.2.1,I b.2.2.2.1,I b.2.2.2.2.1,I b.2.2.2.2.2,bI kk cells kl,bI mM mO mN,.slice none 0 0,bI km table kn,bI ko jA kp,I most,.slice none ([]:List ix).length 0,.slice none (([]:List ax)).length 0,.slice none ((([]:List Nat))).length 0,.slice none (((([]:List Nat)))).length 0,bI kq ja kr] (cl cells cY cG cZ table j9 j' known h9 h' most b [] none 0 0 [] none 0 0 hB hD kk kl km kn jA ko kp ja kq kr g1 mO mM mN) Qp Qq (ht mc (.tuple ⟨[]⟩)) (mq.box 5 rfl) ?_;intro Xe ajt aju gd w ai;have oR:=mq.l_ 5 rfl (v' ajt aju);replace oR:=oR.Wo;letI:=du ai;by_cases iR:((known.length:Nat):Int)=0
    ·refine gP (gQ pZ) iz [] (ah (iV _) (ah (fW (ig.mono oR.ext) nD) (ah bD bc))) bd ?_ ai
     refine Nj (enc:=hO) (xs:=[true]) (q:=25) (bx:=λk0=>(cl cells cY cG cZ table j9 j' known h9 h' most b [] none 0 0 [] none 0 0 hB hD kk kl km kn jA ko kp ja kq kr g1 mO mM mN k0)) Gu mf rfl cv cv J J (hJ rfl) Qr (λ_ _=>jj) BF (λ_=>rfl) ?_;intro P1 g4 ajv alT ajw Gg ajx;have p0:=oR.new (Nl ajv ajw Gg ajx);letI:=du ai;obtain⟨qP,QQ⟩:=jk (List.replicate (cells.length) true);refine nJ (Y:=c_) (bx:=λbZ=>(cl cells cY cG cZ table j9 j' known h9 h' most b [] none 0 0 [] none 0 0 hB hD kk kl km kn jA ko kp ja kq kr g1 mO mM mN g4 qP bZ.1 bZ.2)) p0 [11] (λbZ=>[_]) (λbZ=>[tI bZ.1 qP bZ.2]) Qs Qz (ht Qy 26) (jw:=λw hw dI av=>by rw[QQ];exact aiO _ av (cells.length) ao) (rest:= ?_);intro YM ⟨tP,tQ⟩ zN gd w ai;replace zN:=zN.Wp;letI:=du ai;refine gP (gQ QA) gL [] (ah (iV _) (ah kX (ah (jy 30 14 1) bc))) bd ?_ ai;refine FV 14 [I b.1,I b.2.1,I b.2.2.1,I b.2.2.2.1,I b.2.2.2.2.1,I b.2.2.2.2.2,bI hB cells hD,I b.1,I b.2.1,I b.2.2.1,I b.2.2.2.1,I b.2.2.2.2.1,I b.2.2.2.2.2,bI kk cells kl,bI tP qP tQ,.slice none 0 0,bI km table kn,bI ko jA kp,I most,.slice none ([]:List ix).length 0,.slice none (([]:List ax)).length 0,.slice none ((([]:List Nat))).length 0,.slice none (((([]:List Nat)))).length 0,bI kq ja kr] (cl cells cY cG cZ table j9 j' known h9 h' most b [] none 0 0 [] none 0 0 hB hD kk kl km kn jA ko kp ja kq kr g1 mO mM mN g4 qP tP tQ) aiZ ai1 (ht QC (.tuple ⟨[]⟩)) (zN.box 5 rfl) ?_;intro YN ajy ajz gd w ai;have ym:=zN.l_ 5 rfl (v' ajy ajz);replace ym:=ym.Wp;letI:=du ai;refine gP (gQ QD) mK [] (ah (iV _) (ah kX (ah (jy 30 14 1) (ah (pT 14 5 ym) bc)))) bd ?_ ai;obtain⟨vm,YO⟩:=jk (qP);refine nJ (Y:=c_) (bx:=λbZ=>(cl cells cY cG cZ table j9 j' known h9 h' most b [] none 0 0 [] none 0 0 hB hD kk kl km kn jA ko kp ja kq kr g1 mO mM mN g4 qP tP tQ vm bZ.1 bZ.2)) ym [] (λbZ=>[]) (λbZ=>[tI bZ.1 vm bZ.2]) ai2 ai4 (ht QF 27) (jw:=λw hw dI av=>by rw[YO];exact E3 (Gc.any _ (((ym.arr 12 rfl).arr mf).mono hw) (by (rw[QQ,lG];omega)))) (rest:= ?_);intro alU ⟨yi,yj⟩ J0 gd w ai;replace J0:=J0.Wq;letI:=du ai;refine gP (gQ QG) oT [] (ah (iV _) (ah kX (ah (jy 30 15 1) bc))) bd ?_ ai;refine FV 15 [I b.1,I b.2.1,I b.2.2.1,I b.2.2.2.1,I b.2.2.2.2.1,I b.2.2.2.2.2,bI hB cells hD,I b.1,I b.2.1,I b.2.2.1,I b.2.2.2.1,I b.2.2.2.2.1,I b.2.2.2.2.2,bI kk cells kl,bI tP qP tQ,bI yi vm yj,bI km table kn,bI ko jA kp,I most,.slice none ([]:List ix).length 0,.slice none (([]:List ax)).length 0,.slice none ((([]:List Nat))).length 0,.slice none (((([]:List Nat)))).length 0,bI kq ja kr] (cl cells cY cG cZ table j9 j' known h9 h' most b [] none 0 0 [] none 0 0 hB hD kk kl km kn jA ko kp ja kq kr g1 mO mM mN g4 qP tP tQ vm yi yj) ai5 ai7 (ht Yy (.tuple ⟨[]⟩)) (J0.box 5 rfl) ?_;intro ajA ajB ajC gd w ai;have QR:=J0.l_ 5 rfl (v' ajB ajC);replace QR:=QR.Wq;letI:=du ai;refine gP (gQ Yz) eP [] (ah (iV _) bc) bd ?_ ai;refine y9 (f':=(λ(⟨M,tN,ye,yf,zO,nP⟩:Mem×List Nat×Option Addr×Nat×List Bool×Nat)=>aX M (cl cells cY cG cZ table j9 j' known h9 h' most b tN ye yf nP [] none 0 0 hB hD kk kl km kn jA ko kp ja kq kr g1 mO mM mN g4 qP tP tQ vm yi yj))) (λ(⟨M,tN,ye,yf,zO,nP⟩:Mem×List Nat×Option Addr×Nat×List Bool×Nat)=>bW W.heap.size (aG W) [] M [pU hB cells hD,pU kk cells kl,Jx km table kn,De ko jA kp,zu kq ja.length kr zO,hZ g1 76 [I b.1,I b.2.1,I b.2.2.1,I b.2.2.2.1,I b.2.2.2.2.1,I b.2.2.2.2.2,bI hB cells hD,I b.1,I b.2.1,I b.2.2.1,I b.2.2.2.1,I b.2.2.2.2.1,I b.2.2.2.2.2,bI kk cells kl,bI tP qP tQ,bI yi vm yj,bI km table kn,bI ko jA kp,I most,.slice none ([]:List ix).length 0,.slice none (([]:List ax)).length 0,.slice none ((([]:List Nat))).length 0,bI ye tN yf,bI kq ja kr],o7 zg 3 uN (.slice none ([]:List ix).length 0) ([]:List ix),o7 zh 5 kg (.slice none (([]:List ax)).length 0) (([]:List ax)),iK sv 1 o_ (.slice none ((([]:List Nat))).length 0) ((([]:List Nat))),xP ye tN yf,tI tP qP tQ,tI yi vm yj]/\(nP<=cells.length/\tN=List.range nP/\zO=jo cells.length nP/\zO.length=cells.length/\tN.length=nP)) (λ(⟨M,tN,ye,yf,zO,nP⟩:Mem×List Nat×Option Addr×Nat×List Bool×Nat)=>cells.length-nP) ⟨ajA,(((([]:List Nat)))),none,0,ja,0⟩ ai8 jj (λ_ _ h=>h) (by exact⟨(QR.pick [0,1,2,3,4,5,6,7,8,9,12,13] rfl),by exact⟨Nat.zero_le _,rfl,by rw[JZ];exact(Yb _).symm,ao,rfl⟩⟩) ?_;intro⟨M,tN,ye,yf,zO,nP⟩ bn gd w ai;letI:=du ai;refine y8 ai9 ai' ?_;have p1:=bn.1;have ajD:=bn.2.1;have ajE:=bn.2.2.2.2.1;have ajF:=bn.2.2.2.2.2;by_cases z0:((nP:Nat):Int)<((cells.length:Nat):Int)
     ·refine bO qL [] (ah (iV _) (ah bD bc)) bd ?_ ai
      obtain⟨Dp,QS⟩:=jk (lU tN zO (nP));obtain⟨YP,QT⟩:=jk (mF zO (nP));refine nJ (Y:=c_) (bx:=λbZ=>(cl cells cY cG cZ table j9 j' known h9 h' most b tN ye yf nP [] none 0 0 hB hD kk kl km kn jA ko kp ja kq kr g1 mO mM mN g4 qP tP tQ vm yi yj Dp bZ.1 bZ.2)) p1 [9,4,5] (λbZ=>[Dc _ _ _ bZ.1 Dp bZ.2,Dd _ _ _ kq ja.length kr YP,hZ _ _ [_,_,_,_,_,_,_,_,_,_,_,_,_,_,_,_,_,_,_,_,_,_,bI bZ.1 Dp bZ.2,_]]) (λ_=>[]) ai_ ajb (ht P9 (.tuple ⟨[]⟩)) (jw:=λw hw dI av=>by rw[QS,QT];exact Qv.any (xa:=wb [I b.1,I b.2.1,I b.2.2.1,I b.2.2.2.1,I b.2.2.2.2.1,I b.2.2.2.2.2,bI hB cells hD,I b.1,I b.2.1,I b.2.2.1,I b.2.2.2.1,I b.2.2.2.2.1,I b.2.2.2.2.2,bI kk cells kl,bI tP qP tQ,bI yi vm yj,bI km table kn,bI ko jA kp,I most,.slice none ([]:List ix).length 0,.slice none (([]:List ax)).length 0,.slice none ((([]:List Nat))).length 0] 0) _ av (nP) ao ao) (rest:= ?_);intro ajG ⟨QL,QM⟩ QU gd w ai;replace QU:=QU.Jy;letI:=du ai;refine gP (gQ YC) vi [] (ah (iV _) (ah mj bc)) bd ?_ ai;exact zt ⟨ajG,Dp,QL,QM,YP,nP+1⟩ ajc jj (by exact⟨QU,by have av:=Yc (show nP<cells.length by omega) bn.2.2.1 bn.2.2.2.1;exact⟨ao,by rw[QS];exact av.1,by rw[QT];exact av.2,by rw[QT,I4];omega,by rw[QS,av.1,List.length_range]⟩⟩)
     ·refine bO vj [] (ah (iV _) (ah a8 bc)) bd ?_ ai
      refine rI eP [] (ah (iV _) bc) bd ?_;exact bT ajd λw2 br=>(by (have ag:nP=cells.length:=ao;have az:=bn.2.2.1;have hw:=bn.2.2.2.1;rw[ag] at az hw;rw[aN (show nh b cells table known most from ⟨bB,ao,ao⟩),aiP (show known.length=0 by omega)];subst YO;rw[<-QQ];rw[<-az,<-hw,<-JY];exact⟨_,((_,_),(_,_,_),(_,_,_),(_,_,_),(_,_,_),(_,_,_),(_,_,_),(_,_,_)),rfl,((p1.pick [6,7,8,9,4,3,1,2,11,0,10,5] rfl).done br)⟩))
    ·refine gP (gQ pZ) x2 [] (ah (iV _) (ah (fW (ig.mono oR.ext) nD) (ah a8 (ah kX (ah (jy 30 14 1) (ah (pT 14 5 oR) bc)))))) bd ?_ ai
     obtain⟨vn,YQ⟩:=jk (mO);refine nJ (Y:=c_) (bx:=λbZ=>(cl cells cY cG cZ table j9 j' known h9 h' most b [] none 0 0 [] none 0 0 hB hD kk kl km kn jA ko kp ja kq kr g1 mO mM mN 0 [] none 0 [] none 0 [] none 0 vn bZ.1 bZ.2)) oR [] (λbZ=>[]) (λbZ=>[tI bZ.1 vn bZ.2]) aje ajg (ht QI 33) (jw:=λw hw dI av=>by rw[YQ];exact E3 (Gc.any _ (((oR.arr 10 rfl).arr mf).mono hw) (by (rw[QP];omega)))) (rest:= ?_);intro P1 ⟨yk,yl⟩ p0 gd w ai;replace p0:=p0.Jy;letI:=du ai;refine gP (gQ QJ) oT [] (ah (iV _) (ah kX (ah (jy 30 15 1) bc))) bd ?_ ai;refine FV 15 [I b.1,I b.2.1,I b.2.2.1,I b.2.2.2.1,I b.2.2.2.2.1,I b.2.2.2.2.2,bI hB cells hD,I b.1,I b.2.1,I b.2.2.1,I b.2.2.2.1,I b.2.2.2.2.1,I b.2.2.2.2.2,bI kk cells kl,bI mM mO mN,bI yk vn yl,bI km table kn,bI ko jA kp,I most,.slice none ([]:List ix).length 0,.slice none (([]:List ax)).length 0,.slice none ((([]:List Nat))).length 0,.slice none (((([]:List Nat)))).length 0,bI kq ja kr] (cl cells cY cG cZ table j9 j' known h9 h' most b [] none 0 0 [] none 0 0 hB hD kk kl km kn jA ko kp ja kq kr g1 mO mM mN 0 [] none 0 [] none 0 [] none 0 vn yk yl) ajh ajj (ht YG (.tuple ⟨[]⟩)) (p0.box 5 rfl) ?_;intro YM ajH ajI gd w ai;have zN:=p0.l_ 5 rfl (v' ajH ajI);replace zN:=zN.Jy;letI:=du ai;refine gP (gQ YH) eP [] (ah (iV _) bc) bd ?_ ai;refine y9 (f':=(λ(⟨M,tO,yg,yh,zP,nQ⟩:Mem×List Nat×Option Addr×Nat×List Bool×Nat)=>aX M (cl cells cY cG cZ table j9 j' known h9 h' most b [] none 0 0 tO yg yh nQ hB hD kk kl km kn jA ko kp ja kq kr g1 mO mM mN 0 [] none 0 [] none 0 [] none 0 vn yk yl))) (λ(⟨M,tO,yg,yh,zP,nQ⟩:Mem×List Nat×Option Addr×Nat×List Bool×Nat)=>bW W.heap.size (aG W) [] M [pU hB cells hD,pU kk cells kl,Jx km table kn,De ko jA kp,zu kq ja.length kr zP,hZ g1 76 [I b.1,I b.2.1,I b.2.2.1,I b.2.2.2.1,I b.2.2.2.2.1,I b.2.2.2.2.2,bI hB cells hD,I b.1,I b.2.1,I b.2.2.1,I b.2.2.2.1,I b.2.2.2.2.1,I b.2.2.2.2.2,bI kk cells kl,bI mM mO mN,bI yk vn yl,bI km table kn,bI ko jA kp,I most,.slice none ([]:List ix).length 0,.slice none (([]:List ax)).length 0,.slice none ((([]:List Nat))).length 0,bI yg tO yh,bI kq ja kr],o7 zg 3 uN (.slice none ([]:List ix).length 0) ([]:List ix),o7 zh 5 kg (.slice none (([]:List ax)).length 0) (([]:List ax)),iK sv 1 o_ (.slice none ((([]:List Nat))).length 0) ((([]:List Nat))),xP yg tO yh,tI mM mO mN,tI yk vn yl]/\(nQ<=cells.length/\tO=List.range nQ/\zP=jo cells.length nQ/\zP.length=cells.length/\tO.length=nQ)) (λ(⟨M,tO,yg,yh,zP,nQ⟩:Mem×List Nat×Option Addr×Nat×List Bool×Nat)=>cells.length-nQ) ⟨YM,(((([]:List Nat)))),none,0,ja,0⟩ ajk jj (λ_ _ h=>h) (by exact⟨zN,by exact⟨Nat.zero_le _,rfl,by rw[JZ];exact(Yb _).symm,ao,rfl⟩⟩) ?_;intro⟨M,tO,yg,yh,zP,nQ⟩ bn gd w ai;letI:=du ai;refine y8 ajl ajm ?_;have YR:=bn.1;have ajD:=bn.2.1;have ajE:=bn.2.2.2.2.1;have ajF:=bn.2.2.2.2.2;by_cases z0:((nQ:Nat):Int)<((cells.length:Nat):Int)
     ·refine bO x4 [] (ah (iV _) (ah bD bc)) bd ?_ ai
      obtain⟨Dq,QV⟩:=jk (lU tO zP (nQ));obtain⟨YS,QW⟩:=jk (mF zP (nQ));refine nJ (Y:=c_) (bx:=λbZ=>(cl cells cY cG cZ table j9 j' known h9 h' most b [] none 0 0 tO yg yh nQ hB hD kk kl km kn jA ko kp ja kq kr g1 mO mM mN 0 [] none 0 [] none 0 [] none 0 vn yk yl Dq bZ.1 bZ.2)) YR [9,4,5] (λbZ=>[Dc _ _ _ bZ.1 Dq bZ.2,Dd _ _ _ kq ja.length kr YS,hZ _ _ [_,_,_,_,_,_,_,_,_,_,_,_,_,_,_,_,_,_,_,_,_,_,bI bZ.1 Dq bZ.2,_]]) (λ_=>[]) ajn ajp (ht YK (.tuple ⟨[]⟩)) (jw:=λw hw dI av=>by rw[QV,QW];exact Qv.any (xa:=wb [I b.1,I b.2.1,I b.2.2.1,I b.2.2.2.1,I b.2.2.2.2.1,I b.2.2.2.2.2,bI hB cells hD,I b.1,I b.2.1,I b.2.2.1,I b.2.2.2.1,I b.2.2.2.2.1,I b.2.2.2.2.2,bI kk cells kl,bI mM mO mN,bI yk vn yl,bI km table kn,bI ko jA kp,I most,.slice none ([]:List ix).length 0,.slice none (([]:List ax)).length 0,.slice none ((([]:List Nat))).length 0] 0) _ av (nQ) ao ao) (rest:= ?_);intro YN ⟨QN,QO⟩ ym gd w ai;replace ym:=ym.Jy;letI:=du ai;refine gP (gQ YL) zH [] (ah (iV _) (ah mj bc)) bd ?_ ai;exact zt ⟨YN,Dq,QN,QO,YS,nQ+1⟩ ajq jj (by exact⟨ym,by have av:=Yc (show nQ<cells.length by omega) bn.2.2.1 bn.2.2.2.1;exact⟨ao,by rw[QV];exact av.1,by rw[QW];exact av.2,by rw[QW,I4];omega,by rw[QV,av.1,List.length_range]⟩⟩)
     ·refine bO Gq [] (ah (iV _) (ah a8 bc)) bd ?_ ai
      refine rI eP [] (ah (iV _) bc) bd ?_;exact bT ajr λw2 br=>(by (have ag:nQ=cells.length:=ao;have az:=bn.2.2.1;have hw:=bn.2.2.2.1;rw[ag] at az hw;rw[aN (show nh b cells table known most from ⟨bB,ao,ao⟩),aiQ (show known.length≠0 by omega)];subst YQ;rw[<-QP];rw[<-az,<-hw,<-JY];exact⟨_,((_,_),(_,_,_),(_,_,_),(_,_,_),(_,_,_),(_,_,_),(_,_,_),(_,_,_)),rfl,((YR.pick [6,7,8,9,4,3,1,2,11,0,10,5] rfl).done br)⟩))
 ·refine bO Gr Gs (ah (iV _) (ah wj bc)) (cz (JV J J J J hf (aI.mono aA.ext) (ig.mono aA.ext) b0 ao iD) bd) ?_ ai
  exact bT ajs λw2 br=>(by (rw[aO (λq:nh b cells table known most=>by have q1:=q.1;have aE:=q.2.1;have b9:=q.2.2;omega)];rfl))
end Ys
end AE
namespace AE
theorem YT (W:au) {g:Nat} {A:dh} {e:bN} (h:b_ (aG W) [eO g A e]) (eL:fK e.table e.b e.u) (hr:e.u.reqs.length<=10000):
 Calls Tryz.prog 13 #[b2 g] W λx w'=>(∃aV:dh,x= .returned (.int .i64 (((hR e.table e.b (gR e.b e.u) e.u).1:Nat):Int))/\dp (aG W) [eO g A e] (aG w') [eO g aV {e with u:=(hR e.table e.b (gR e.b e.u) e.u).2}])/\ch 0 W w':=Ye.any W h eL hr
theorem YU (W:au) {g:Nat} {A:dh} {e:bN} (h:b_ (aG W) [eO g A e]) (n:Int) (eL:fK e.table e.b e.u) (hr:e.u.reqs.length<=10000):
 Calls Tryz.prog 26 #[b2 g,.int .i64 n] W λx w'=>(∃aV:dh,x= .returned (.int .i64 (((hR e.table e.b n.toNat e.u).1:Nat):Int))/\dp (aG W) [eO g A e] (aG w') [eO g aV {e with u:=(hR e.table e.b n.toNat e.u).2}])/\ch 0 W w':=Yf.any W h n eL hr
theorem YV (W:au) {g:Nat} {A:dh} {e:bN} (h:b_ (aG W) [eO g A e]):
  Calls Tryz.prog 12 #[b2 g] W λx w'=>(∃_:Unit,x= .returned (.bool (decide (e.u.bz.length=0/\e.u.bm.length=0/\e.u.reqs.length=0)))/\dp (aG W) [eO g A e] (aG w') [eO g A e])/\ch 0 W w':=by
 obtain⟨⟨li,eY,go,qI,tR,re,it,sh⟩,b,table,cells,known,most⟩:=e;have av:=h.Bx;refine(Yg.any W (xa:=wb (wv A ⟨⟨li,eY,go,qI,tR,re,it,sh⟩,b,table,cells,known,most⟩) 0) (av.pick [0,1,3,11] rfl)).mono λx w' ak=> ?_
 obtain⟨⟨y,rfl,t⟩,hl⟩:=ak;have t2:=dp.aiR av [0,1,3,11] J J J t;exact⟨⟨(),rfl,t2.packed⟩,hl⟩
theorem QX (W:au) {g:Nat} {A:dh} {e:bN} (h:b_ (aG W) [eO g A e]) (aq:e.u.ar.length<=100000):
  Calls Tryz.prog 17 #[b2 g] W λx w'=>(∃y:c_,x= .returned (.slice y.1 e.u.ar.length y.2)/\dp (aG W) [eO g A e] (aG w') [eO g A e,iK sw 4 ck (.slice y.1 e.u.ar.length y.2) e.u.ar])/\ch 0 W w':=by
 obtain⟨⟨li,eY,go,qI,tR,re,it,sh⟩,b,table,cells,known,most⟩:=e;have av:=h.Bx;refine(Yh.any W (xa:=wb (wv A ⟨⟨li,eY,go,qI,tR,re,it,sh⟩,b,table,cells,known,most⟩) 0) (eh:=wb (wv A ⟨⟨li,eY,go,qI,tR,re,it,sh⟩,b,table,cells,known,most⟩) 18) (av.pick [5,11] rfl) aq).mono λx w' ak=> ?_
 obtain⟨⟨y,rfl,t⟩,hl⟩:=ak;have t2:=dp.lift (L':=[iK sw 4 ck (dF A.l) li,hZ g xx (wv A ⟨⟨li,eY,go,qI,tR,re,it,sh⟩,b,table,cells,known,most⟩)]) (N:=[iK sw 4 ck (.slice y.1 li.length y.2) li]) av [5,11] J J J t;exact⟨⟨y,rfl,dp.NW t2⟩,hl⟩
theorem QY (W:au) {g:Nat} {A:dh} {e:bN} (h:b_ (aG W) [eO g A e]) (aq:e.known.length<=100000):
  Calls Tryz.prog 15 #[b2 g] W λx w'=>(∃y:c_,x= .returned (.slice y.1 e.known.length y.2)/\dp (aG W) [eO g A e] (aG w') [eO g A e,iK lT 1 hO (.slice y.1 e.known.length y.2) e.known])/\ch 0 W w':=by
 obtain⟨⟨li,eY,go,qI,tR,re,it,sh⟩,b,table,cells,known,most⟩:=e;have av:=h.Bx;refine(Yj.any W (xa:=wb (wv A ⟨⟨li,eY,go,qI,tR,re,it,sh⟩,b,table,cells,known,most⟩) 0) (eh:=wb (wv A ⟨⟨li,eY,go,qI,tR,re,it,sh⟩,b,table,cells,known,most⟩) 15) (av.pick [10,11] rfl) aq).mono λx w' ak=> ?_
 obtain⟨⟨y,rfl,t⟩,hl⟩:=ak;have t2:=dp.lift (L':=[iK lT 1 hO (dF A.k) known,hZ g xx (wv A ⟨⟨li,eY,go,qI,tR,re,it,sh⟩,b,table,cells,known,most⟩)]) (N:=[iK lT 1 hO (.slice y.1 known.length y.2) known]) av [10,11] J J J t;exact⟨⟨y,rfl,dp.NW t2⟩,hl⟩
theorem YW (W:au) {g:Nat} {A:dh} {e:bN} (h:b_ (aG W) [eO g A e]) (aq:e.cells.length<=100000):
  Calls Tryz.prog 14 #[b2 g] W λx w'=>(∃y:c_,x= .returned (jW e.b (.slice y.1 e.cells.length y.2))/\dp (aG W) [eO g A e] (aG w') [eO g A e,iK sj 1 ih (.slice y.1 e.cells.length y.2) e.cells])/\ch 0 W w':=by
 obtain⟨⟨li,eY,go,qI,tR,re,it,sh⟩,b,table,cells,known,most⟩:=e;have av:=h.Bx;refine(Yr.any W (xa:=wb (wv A ⟨⟨li,eY,go,qI,tR,re,it,sh⟩,b,table,cells,known,most⟩) 7) (av.pick [9,11] rfl) aq).mono λx w' ak=> ?_
 obtain⟨⟨y,rfl,t⟩,hl⟩:=ak;have t2:=dp.lift (L':=[iK sj 1 ih (dF A.c) cells,hZ g xx (wv A ⟨⟨li,eY,go,qI,tR,re,it,sh⟩,b,table,cells,known,most⟩)]) (N:=[iK sj 1 ih (.slice y.1 cells.length y.2) cells]) av [9,11] J J J t;exact⟨⟨y,rfl,dp.NW t2⟩,hl⟩
theorem YX (W:au) {g:Nat} {A:dh} {e:bN} (h:b_ (aG W) [eO g A e]) (p:dU) (c:Int) (ad:okB e.b) (hl:e.cells.length=(dZ e.b).toNat) (ag:e.known.length=e.cells.length) (hr:e.u.reqs.length<=400000):
  Calls Tryz.prog 24 #[b2 g,P.val p,.int .i64 c] W λx w'=>(∃aV:dh,x= .returned (.int .i64 (k4 e.b e.most p e.u.reqs c))/\dp (aG W) [eO g A e] (aG w') [eO g aV (i_ e p c)])/\ch 0 W w':=by
 refine(Yn.any h.Bx p c ad hl ag hr).mono λx w' ak=> ?_
 obtain⟨⟨aV,rfl,t⟩,hl⟩:=ak;exact⟨⟨aV,rfl,t.packed⟩,hl⟩
theorem YY (W:au) {g:Nat} {A:dh} {e:bN} (h:b_ (aG W) [eO g A e]) (p:dU) (k:Bool) (ad:okB e.b) (hl:e.cells.length=(dZ e.b).toNat) (ag:e.known.length=e.cells.length) (hr:e.u.reqs.length<=400000):
  Calls Tryz.prog 25 #[b2 g,P.val p,.bool k] W λx w'=>(∃aV:dh,x= .returned (.int .i64 (jz e.b e.most p e.u.reqs))/\dp (aG W) [eO g A e] (aG w') [eO g aV (jX e p k)])/\ch 0 W w':=by
 refine(Yo.any h.Bx p k ad hl ag hr).mono λx w' ak=> ?_
 obtain⟨⟨aV,rfl,t⟩,hl⟩:=ak;exact⟨⟨aV,rfl,t.packed⟩,hl⟩
def jI (b:bF) (cells:List Int) (table:List cr) (known:List Bool) (most:Int):bN:=
 ⟨⟨List.replicate cells.length zi,[],[],List.range cells.length,jo cells.length cells.length,[],cells,sT known cells.length⟩,b,table,cells,sT known cells.length,most⟩
theorem YZ (W:au) {cY:Option Addr} {cG cZ:Nat} {cells:List Int} (hf:b7 (aG W) 1 ih (.slice cY cG cZ) cells) {b:bF} {nN nO:U} {table:List cr} {known:List Bool} (aI:b7 (aG W) 8 hA nN table) (ig:b7 (aG W) 1 hO nO known) (most:Int)
  (b0:ly (aG W)) (aq:cells.length<=10000) (iD:cG=cells.length) (nC:known.length<=100000) (x_:table.length<=100000):
  Calls Tryz.prog 7 #[jW b (.slice cY cG cZ),nN,nO,.int .i64 most] W λx w'=>(if nh b cells table known most then (∃(g:Nat) (A:dh),x= .returned (.tuple ⟨[b2 g,.int .i64 0]⟩)/\dp (aG W) [] (aG w') [eO g A (jI b cells table known most)]) else x= .returned (.tuple ⟨[.pointer none,.int .i64 1]⟩))/\ch W.heap.size W w':=by
 refine(Ys.any W hf aI ig most b0 aq iD nC x_).mono λx w' ak=> ?_
 obtain⟨h,hl⟩:=ak;refine⟨?_,hl⟩;split at h
 ·rename_i ad
  rw[aN ad];obtain⟨g,y,rfl,t⟩:=h;have hp:dp (aG W) [] (aG w') [eO g ⟨(none,0),(none,0),(none,0),y.1,y.2.1,y.2.2.1,y.2.2.2.1,y.2.2.2.2.1,y.2.2.2.2.2.1,y.2.2.2.2.2.2.1,y.2.2.2.2.2.2.2⟩ (jI b cells table known most)]:=⟨t.sp.packed,t.keeps,λb ad=>t.fresh b (CZ.1 ad)⟩;exact⟨g,_,rfl,hp⟩
 ·rename_i ad
  rw[aO ad];exact h
end AE
namespace AE
theorem QZ {table:List cr} (h:(lW table).2=0):PD table:=by
 have aC:∀i,i<table.length->gS (table.getD i default):=by
  unfold lW at h;split at h
  ·cases h
  ·split at h
   ·cases h
   ·split at h
    ·cases h
    ·split at h
     ·rename_i i af
      simp only at h;split at h<;>cases h
     ·rename_i vV
      intro i af;have:=List.find?_eq_none.1 vV i (List.mem_range.2 af);simp only [decide_eq_true_eq] at this;unfold x7 at this;exact Classical.not_not.1 λai=>this (.inl ai)
 intro c;unfold dz;split
 ·rename_i al
  have:=aC c.toNat ao;unfold gS at this;obtain⟨_,_,h1,ae,ay,bE,cn,cy,fx,px⟩:=this;refine⟨h1,ae,λi af=> ?_⟩
  match i,af with
  |0,_=>exact⟨ay,bE⟩
  |1,_=>exact⟨cn,cy⟩
  |2,_=>exact⟨fx,px⟩
 ·refine⟨cv,cv,λi af=> ?_⟩
  match i,af with
  |0,_=>exact⟨cv,cv⟩
  |1,_=>exact⟨cv,cv⟩
  |2,_=>exact⟨cv,cv⟩
theorem J1 {b:bF} {cells:List Int} {table:List cr} {known:List Bool} (h:x8 b cells table known=0):JU b cells table known:=by
 unfold x8 at h;split at h
 ·assumption
 ·cases h
theorem ajJ {known:List Bool} {n:Nat} (h:known.length=0\/known.length=n):(sT known n).length=n:=by
 unfold sT;split
 ·simp
 ·omega
theorem Y0 (n:Nat):jo n n=List.replicate n true:=Xf n
theorem ajK {b:bF} {cells:List Int} {table:List cr} {known:List Bool} {most:Int} (h:nh b cells table known most) (aq:cells.length<=10000):
  fK table b (jI b cells table known most).u/\(jI b cells table known most).cells.length=(jI b cells table known most).u.bS.length/\(jI b cells table known most).known.length=(jI b cells table known most).u.bS.length/\gR b (jI b cells table known most).u<=361*cells.length:=by
 obtain⟨h1,⟨ae,ay,bE,cn,cy⟩,fx⟩:=J1 h.1;have ag:=ajJ fx;have aC:(dZ b).toNat=cells.length:=by omega
 have iQ:(fQ b).N=cells.length:=(PB ae).trans aC;have bG:cU (List.replicate cells.length zi)=λ_ _=>0:=by
  funext k c;unfold cU;have:(List.replicate cells.length zi).getD k z4=z4:=by
   rw[dr,List.getElem?_replicate];split<;>rfl
  rw[this];exact CS c
 have aA:(hQ table (jI b cells table known most).u.lit (jI b cells table known most).u.bS).kE (fQ b).N:=⟨λk _=>(QZ h1 _).1,λk c _ al=>(QZ h1 _).2.2 c al⟩;have hw:pL (fQ b) (hQ table (jI b cells table known most).u.lit (jI b cells table known most).u.bS) (gK (jI b cells table known most).u):=by
  refine⟨by show (List.replicate cells.length zi).length=_;rw[lG,iQ],⟨?_,?_,?_,?_⟩,λ_=>⟨rfl,?_⟩,λcC=>absurd rfl cC⟩
  ·show (jo cells.length cells.length).length=_
   rw[Y0,lG,iQ]
  ·exact List.nodup_range
  ·intro k ag
   rw[iQ];exact List.mem_range.1 ag
  ·intro k ag
   rw[iQ] at ag;show (jo cells.length cells.length).getD k false=true↔k∈List.range cells.length;rw[Y0,dr,List.getElem?_replicate,aN ag];simp [ag]
  ·show oG (fQ b) _ (cU (List.replicate cells.length zi)) (· ∈List.range cells.length)
   rw[bG];exact oG.zero aA λk ag=>List.mem_range.2 (by rw[<-iQ];exact ag)
 have ajL:lS (fQ b).N (gK (jI b cells table known most).u)<=361*cells.length:=by
  unfold lS;rw[aN (show (gK (jI b cells table known most).u).bz=[] from rfl)];have:=UR hw;have az:(gK (jI b cells table known most).u).bm.length=cells.length:=List.length_range;omega
 refine⟨⟨QZ h1,ae,?_,?_,?_,hw,⟨λx ak=>(by cases ak),?_⟩,?_,λx ak=>(by cases ak)⟩,?_,?_,?_⟩
 ·show (sT known cells.length).length=_
  rw[ag,aC]
 ·show cells.length=(sT known cells.length).length
  rw[ag]
 ·show (sT known cells.length).length<=_
  rw[ag];exact aq
 ·have:=Ff (gK (jI b cells table known most).u)
  show 0+_<=_;omega
 ·unfold pK
  rw[iQ] at ajL ⊢;omega
 ·exact ag.symm
 ·rfl
 ·unfold gR
  show lS (fQ b).N (gK (jI b cells table known most).u)+pK (fQ b).N*0<=_;omega
end AE
namespace AE
abbrev gT:=Int×Int×Int×Int×Int×Bool
abbrev BK:aH:=42
theorem Q0:Tryz.prog.underlying 31=some (.slice BK):=aw
def yn (x:Int×Int×Int×Int×Int×Bool):List U:=[.int .i64 x.1,.int .i64 x.2.1,.int .i64 x.2.2.1,.int .i64 x.2.2.2.1,.int .i64 x.2.2.2.2.1,.bool x.2.2.2.2.2]
theorem ajM:∀x,(yn x).length=6:=λ_=>rfl
abbrev Y.val (x:gT):U:= .agg ⟨yn x⟩
def wG:List ix->List Int×List Bool->List Int×List Bool
 |[],s=>s
 |x::r,s=>wG r (s.1.set x.1 x.2.1,s.2.set x.1 x.2.2)
structure e4 (e:bN):Prop where
 kt:fK e.table e.b e.u
 lc:e.cells.length=e.u.bS.length
 mw:e.known.length=e.u.bS.length
 Dr:e.u.reqs.length<=10000
 zc:wG e.u.reqs (e.u.lit,e.u.bS)=(e.cells,e.known)
theorem e4.BL {e:bN} (h:e4 e):e.cells.length=(dZ e.b).toNat:=h.lc.trans h.kt.len
theorem e4.BM {e:bN} (h:e4 e):e.known.length=e.cells.length:=h.mw.trans h.lc.symm
theorem e4.J2 {e:bN} (h:e4 e):e.u.reqs.length<=400000:=Nat.le_trans h.Dr cv
def lX (e:bN) (n:Int):bN:={e with u:=(hR e.table e.b n.toNat e.u).2}
def fS (e:bN):bN:={e with u:=(hR e.table e.b (gR e.b e.u) e.u).2}
def lk (x:gT):dU:=(x.2.2.1,x.2.2.2.1,x.2.2.2.2.1)
def jB (e:bN) (x:gT):bN:=if x.1=1 then i_ e (lk x) x.2.1 else if x.1=2 then jX e (lk x) x.2.2.2.2.2 else if x.1=3 then lX e x.2.1 else if x.1=4 then fS e else e
def ni (e:bN) (x:gT):Int:=if x.1=1 then k4 e.b e.most (lk x) e.u.reqs x.2.1 else if x.1=2 then jz e.b e.most (lk x) e.u.reqs else 0
theorem Ds {e:bN} {x:gT} (h:x.1=1):jB e x=i_ e (lk x) x.2.1/\ni e x=k4 e.b e.most (lk x) e.u.reqs x.2.1:=⟨aN h,aN h⟩
theorem Dt {e:bN} {x:gT} (h1:¬x.1=1) (h:x.1=2):jB e x=jX e (lk x) x.2.2.2.2.2/\ni e x=jz e.b e.most (lk x) e.u.reqs:=by
 unfold jB ni;rw[aO h1,aO h1,aN h,aN h];exact⟨rfl,rfl⟩
theorem Du {e:bN} {x:gT} (h1:¬x.1=1) (ae:¬x.1=2) (h:x.1=3):jB e x=lX e x.2.1/\ni e x=0:=by
 unfold jB ni;rw[aO h1,aO h1,aO ae,aO ae,aN h];exact⟨rfl,rfl⟩
theorem Dv {e:bN} {x:gT} (h1:¬x.1=1) (ae:¬x.1=2) (ay:¬x.1=3) (h:x.1=4):jB e x=fS e/\ni e x=0:=by
 unfold jB ni;rw[aO h1,aO h1,aO ae,aO ae,aO ay,aN h];exact⟨rfl,rfl⟩
theorem Dw {e:bN} {x:gT} (h1:¬x.1=1) (ae:¬x.1=2) (ay:¬x.1=3) (h:¬x.1=4):jB e x=e/\ni e x=0:=by
 unfold jB ni;rw[aO h1,aO h1,aO ae,aO ae,aO ay,aO h];exact⟨rfl,rfl⟩
end AE
end Go.Proofs.YtepcfjbfkedlpaaGreatDoor
namespace Go.Proofs.YtepcfjbfkedlpaaGreatDoor
open Go Go.ChangeShapes Go.WideShapes Go.ChangeAt Go.RowKit
section
theorem J3:Tryz.prog.cellsOf 23=3:=aw
theorem ajN:Tryz.prog.cellsOf 25=6:=aw
theorem ajO:Tryz.prog.cellsOf 28=7:=aw
theorem Y1:Tryz.prog.cellsOf AE.BK=6:=aw
theorem ajP:Tryz.prog.cellsOf 26=1:=aw
theorem J4:Tryz.prog.underlying 23=some (.struct (Tryz.prog.fieldsOf 23)):=aw
theorem Y2:Tryz.prog.underlying 25=some (.struct (Tryz.prog.fieldsOf 25)):=aw
theorem Q1:Tryz.prog.underlying 28=some (.struct (Tryz.prog.fieldsOf 28)):=aw
theorem GF:Tryz.prog.underlying AE.BK=some (.struct (Tryz.prog.fieldsOf AE.BK)):=aw
section
variable {H:Type} {enc:aH×U->H} {W:au} {r:Reach} {cX:Nat} {base:Nat} {nZ:Nat->Bool} {n0:Bool} {v:U} {d:DataW H} {p:List MemPlace}
theorem Y3 {t n k:Nat} {cs:List U} {x:DataW H×List MemPlace} (hu:Tryz.prog.underlying t=some (.struct (Tryz.prog.fieldsOf t))) (ag:Tryz.prog.cellsOf t=k) (h:DataW.trod enc Tryz.prog W base nZ n0 n t cs=some x):cs.length=k:=by
 obtain⟨_,_,_,_,hlen,_,_⟩:=DataW.trod_struct hu h;rw[hlen,ag]
theorem Dx {n:Nat} {cs:List U} {x:DataW H×List MemPlace} (h:DataW.trod enc Tryz.prog W base nZ n0 n 3 cs=some x):∃z:Int,cs=[.int .i64 z]:=by
 obtain⟨z,e,_⟩:=DataW.trod_int Tryz.underlying3 h;exact⟨z,e⟩
theorem Y4 {n:Nat} {cs:List U} {x:DataW H×List MemPlace} (h:DataW.trod enc Tryz.prog W base nZ n0 n 4 cs=some x):∃z:Bool,cs=[.bool z]:=by
 obtain⟨z,e,_⟩:=DataW.trod_bool Tryz.underlying4 h;exact⟨z,e⟩
theorem Q2 {n:Nat} {cs:List U} {x:DataW H×List MemPlace} (h:DataW.trod enc Tryz.prog W base nZ n0 n 23 cs=some x):∃p:AE.dU,cs=[.int .i64 p.1,.int .i64 p.2.1,.int .i64 p.2.2]:=by
 have hlen:=Y3 J4 J3 h;obtain⟨_,D2,aJ,_⟩:=mX (i:=0) (ty:=3) (off:=0) J4 aw y1 h;obtain⟨_,xi,h1,_⟩:=mX (i:=1) (ty:=3) (off:=1) J4 aw y1 h;obtain⟨_,Ez,ae,_⟩:=mX (i:=2) (ty:=3) (off:=2) J4 aw y1 h;obtain⟨z0,bk⟩:=Dx aJ;obtain⟨xo,e1⟩:=Dx h1;obtain⟨z2,e2⟩:=Dx ae
 match cs,hlen,bk,e1,e2 with
 |[dc,ez,c2],_,bk,e1,e2=>
  simp only [List.drop_zero,List.drop_succ_cons,List.take_succ_cons,List.take_zero,List.cons.injEq,and_true] at bk e1 e2;exact⟨(z0,xo,z2),by rw[bk,e1,e2]⟩
theorem ajQ {n:Nat} {cs:List U} {x:DataW H×List MemPlace} (h:DataW.trod enc Tryz.prog W base nZ n0 n AE.BK cs=some x):∃s:AE.gT,cs=AE.yn s:=by
 have hlen:=Y3 GF Y1 h;obtain⟨_,D2,aJ,_⟩:=mX (i:=0) (ty:=3) (off:=0) GF aw y1 h;obtain⟨_,xi,h1,_⟩:=mX (i:=1) (ty:=3) (off:=1) GF aw y1 h;obtain⟨_,Ez,ae,_⟩:=mX (i:=2) (ty:=23) (off:=2) GF aw J3 h;obtain⟨_,T0,ay,_⟩:=mX (i:=3) (ty:=4) (off:=5) GF aw y2 h;obtain⟨z0,bk⟩:=Dx aJ;obtain⟨xo,e1⟩:=Dx h1;obtain⟨z2,e2⟩:=Q2 ae;obtain⟨z3,dH⟩:=Y4 ay
 match cs,hlen,bk,e1,e2,dH with
 |[dc,ez,c2,c3,p8,EC],_,bk,e1,e2,dH=>
  simp only [List.drop_zero,List.drop_succ_cons,List.take_succ_cons,List.take_zero,List.cons.injEq,and_true] at bk e1 e2 dH;exact⟨(z0,xo,z2.1,z2.2.1,z2.2.2,z3),by rw[bk,e1,e2.1,e2.2.1,e2.2.2,dH];rfl⟩
theorem Y5 {α:Type} [Inhabited α] {ck:α->List U} {k t e:Nat} (hu:Tryz.prog.underlying t=some (.slice e)) (ag:Tryz.prog.cellsOf e=k) (hg:0<k) (J5:∀x,(ck x).length=k)
  (oy:∀n cs x,DataW.trod enc Tryz.prog W base nZ n0 n e cs=some x->∃s:α,cs=ck s) {bb:Nat} {DR:List U} {x:DataW H×List MemPlace} (h:DataW.trod enc Tryz.prog W base nZ n0 bb t DR=some x):
  ∃(a:Option Addr) (n c:Nat) (l:List α),DR=[.slice a n c]/\AE.b7 (AE.aG W) k ck (.slice a n c) l/\n=l.length:=by
 rcases Deep.open_slice hu h with ⟨gv,_⟩|⟨a,len,cap,m,n,y3,iI,gv,ad,hl,hm,rW,ak,af⟩
 ·exact⟨none,0,0,[],gv,.nil _ _,rfl⟩
 ·have q6:len<=m:=by rw[rW];split<;>omega
  have A2:∀i,i<len->∃s:α,∀j u,(ck s)[j]? =some u->W.cell? (a.add (i*k+j))=some u:=λi oC=>by
   obtain⟨cs',al,aI⟩:=af i ao;rw[ag] at al;obtain⟨s,rfl⟩:=oy _ _ _ aI;obtain⟨_,_,CG⟩:=World.cells?_some al;refine⟨s,λj u hj=> ?_⟩;have MU:j<k:=by have:=(List.getElem?_eq_some_iff.1 hj).1;rwa [J5] at this
   rw[<-Deep.add_add,CG j MU];exact hj
  let f:Nat->α:=λi=>if h:i<len then (A2 i h).choose else default
  have aP:∀i,i<len->∀j u,(ck (f i))[j]? =some u->W.cell? (a.add (i*k+j))=some u:=λi oC=>by
   show ∀j u,(ck (if h:i<len then (A2 i h).choose else default))[j]? =some u->_;rw[dif_pos oC];exact(A2 i oC).choose_spec
  have hlen:((List.range len).map f).length=len:=by simp
  refine⟨some a,len,cap,(List.range len).map f,gv,?_,hlen.symm⟩;rcases Nat.eq_zero_or_pos len with aJ|aJ
  ·subst aJ
   exact .nil _ _
  ·obtain⟨iR,Dy⟩:∃iR,(ck (f 0))[0]? =some iR:=⟨_,fP (by rw[J5];exact hg)⟩
   have mC:=aP 0 aJ 0 _ Dy;rw[Nat.zero_mul,Nat.zero_add] at mC;obtain⟨bf,off,spot⟩:=a;have MV:∃cs ty fr,W.heap[bf]? =some (.cells cs ty fr)/\spot=none:=by
    unfold World.cell? at mC;split at mC
    ·rename_i ez t1 f1 lo
     split at mC
     ·cases mC
     ·rename_i tw
      refine⟨ez,t1,f1,lo,?_⟩;cases spot with
      |none=>rfl
      |some x=>exact absurd rfl tw
    ·cases mC
   obtain⟨cs,ty,fr,jt,rfl⟩:=MV;have key:AE.b7 (AE.aG W) k ck (.slice (some ⟨bf,off,none⟩) ((List.range len).map f).length cap) ((List.range len).map f):=by
    refine .mk (cs:=cs) (ty:=ty) (fr:=fr) jt (by rw[hlen];exact hl) λi x ak j u hj=> ?_
    have oC:i<len:=by
     have:=(List.getElem?_eq_some_iff.1 ak).1
     rwa [hlen] at this
    have MW:x=f i:=by
     rw[List.getElem?_map,List.getElem?_range oC] at ak;exact(Option.some.inj ak).symm
    subst MW;have:=aP i oC j u hj;rw[AE.Addr.jZ,cell_of_row W _ _ _ _ _ jt,<-Nat.add_assoc] at this;exact this
   rw[hlen] at key;exact key
theorem Y6 {α:Type} [Inhabited α] {ck:α->List U} {k t e:Nat} (hu:Tryz.prog.underlying t=some (.slice e)) (ag:Tryz.prog.cellsOf e=k) (hg:0<k) (J5:∀x,(ck x).length=k)
  (oy:∀n cs x,DataW.trod enc Tryz.prog W base nZ n0 n e cs=some x->∃s:α,cs=ck s) (aC:Value.okWide Tryz.prog W r cX t v) (h:DataW.Trod enc Tryz.prog W base nZ n0 t v d p):∃l:List α,AE.b7 (AE.aG W) k ck v l:=by
 obtain⟨a0,A0,A1,rfl⟩:=okWide_slice hu aC;obtain⟨bb,h⟩:=h;obtain⟨a,n,c,l,h1,ae,_⟩:=Y5 hu ag hg J5 oy h;have e:Value.slice a0 A0 A1= .slice a n c:=(List.cons.inj (show [Value.slice a0 A0 A1]=[.slice a n c] from h1)).1;rw[e];exact⟨l,ae⟩
theorem ajR (aC:Value.okWide Tryz.prog W r cX 30 v) (h:DataW.Trod enc Tryz.prog W base nZ n0 30 v d p):∃l:List Bool,AE.b7 (AE.aG W) 1 AE.hO v l:=
 Y6 Tryz.underlying30 y2 cv (λ_=>rfl) (λ_ _ _ h=>Y4 h) aC h
theorem ajS (aC:Value.okWide Tryz.prog W r cX 31 v) (h:DataW.Trod enc Tryz.prog W base nZ n0 31 v d p):∃l:List AE.gT,AE.b7 (AE.aG W) 6 AE.yn v l:=
 Y6 Tryz.underlying31 Y1 cv AE.ajM (λ_ _ _ h=>ajQ h) aC h
theorem ajT {cs:Array U} (h:cs.size=7):∃a b c d e f g,cs= #[a,b,c,d,e,f,g]:=by
 obtain⟨l⟩:=cs
 match l,h with
 |[a,b,c,d,e,f,g],_=>exact⟨a,b,c,d,e,f,g,rfl⟩
theorem ajU (aC:Value.okWide Tryz.prog W r cX 28 v) (h:DataW.Trod enc Tryz.prog W base nZ n0 28 v d p):∃(b:AE.bF) (a:Option Addr) (n c:Nat) (cells:List Int),v=AE.jW b (.slice a n c)/\AE.b7 (AE.aG W) 1 AE.ih (.slice a n c) cells/\n=cells.length:=by
 obtain⟨cs,rfl,cb⟩:=okWide_struct Q1 aC;rw[ajO] at cb;obtain⟨jg,gA,k_,l9,n9,pV,pW,rfl⟩:=ajT cb;obtain⟨bb,h⟩:=h;obtain⟨_,D2,aJ,_⟩:=mX (i:=0) (ty:=25) (off:=0) Q1 aw ajN h;obtain⟨_,xi,h1,_⟩:=mX (i:=1) (ty:=26) (off:=6) Q1 aw ajP h;obtain⟨_,z0,j4,_⟩:=mX (i:=0) (ty:=23) (off:=0) Y2 aw J3 aJ;obtain⟨_,xo,g1,_⟩:=mX (i:=1) (ty:=23) (off:=3) Y2 aw J3 aJ;obtain⟨j2,bk⟩:=Q2 j4;obtain⟨q1,e1⟩:=Q2 g1;obtain⟨a,n,c,l,e2,j3,aq⟩:=Y5 (ck:=AE.ih) Tryz.underlying26 y1 cv (λ_=>rfl) (λ_ _ _ h=>Dx h) h1;have f0:[jg,gA,k_]=[.int .i64 j2.1,.int .i64 j2.2.1,.int .i64 j2.2.2]:=bk;have f1:[l9,n9,pV]=[.int .i64 q1.1,.int .i64 q1.2.1,.int .i64 q1.2.2]:=e1;have f2:[pW]=[.slice a n c]:=e2;simp only [List.cons.injEq,and_true] at f0 f1 f2;refine⟨(j2.1,j2.2.1,j2.2.2,q1.1,q1.2.1,q1.2.2),a,n,c,l,?_,j3,aq⟩;rw[f0.1,f0.2.1,f0.2.2,f1.1,f1.2.1,f1.2.2,f2]
end
end
end Go.Proofs.YtepcfjbfkedlpaaGreatDoor
namespace Go.Proofs.YtepcfjbfkedlpaaGreatDoor
open Go Go.Proofs Go.RowKit
namespace AE
theorem Y7:∀(l:List ix) (x:ix) (s:List Int×List Bool),wG (l++[x]) s=((wG l s).1.set x.1 x.2.1,(wG l s).2.set x.1 x.2.2)
 |[],_,_=>rfl
 |_::l,x,s=>Y7 l x _
variable {table:List cr} {b:bF}
theorem ajV (u:h6):wG (gb table b u).2.reqs ((gb table b u).2.lit,(gb table b u).2.bS)=wG u.reqs (u.lit,u.bS)/\(gb table b u).2.reqs.length<=u.reqs.length:=by
 by_cases h1:0<u.bz.length
 ·rw[F1 h1]
  obtain⟨q1,aE,b9⟩:=WE (table:=table) (b:=b) u (u.bz.getD 0 default) (u.bz.drop 1);dsimp only;rw[q1,aE,b9];exact⟨rfl,bY _⟩
 ·by_cases ae:0<u.bm.length
  ·rw[F2 h1 ae]
   obtain⟨q1,aE,b9⟩:=WG (table:=table) (b:=b) u (u.bm.getD 0 default) (u.bm.drop 1);dsimp only;rw[q1,aE,b9];exact⟨rfl,bY _⟩
  ·by_cases ay:0<u.reqs.length
   ·rw[F3 h1 ae ay]
    have:=F5 (d:=default) (List.length_pos_iff.1 ay);refine⟨?_,?_⟩
    ·conv=>rhs;rw[this]
     rfl
    ·show (u.reqs.drop 1).length<=_
     rw[List.length_drop];omega
   ·rw[F4 h1 ae ay]
    exact⟨rfl,bY _⟩
theorem J6:∀(f:Nat) (u:h6),wG (hR table b f u).2.reqs ((hR table b f u).2.lit,(hR table b f u).2.bS)=wG u.reqs (u.lit,u.bS)/\(hR table b f u).2.reqs.length<=u.reqs.length
 |0,_=>⟨rfl,bY _⟩
 |f+1,u=>by
  unfold hR;split
  ·obtain⟨q1,aE⟩:=J6 f (gb table b u).2
   obtain⟨cS,dL⟩:=ajV (table:=table) (b:=b) u;exact⟨q1.trans cS,Nat.le_trans aE dL⟩
  ·exact⟨rfl,bY _⟩
def pn (e:bN):Prop:=e.u.bz.length=0/\e.u.bm.length=0/\e.u.reqs.length=0
instance (e:bN):Decidable (pn e):=by unfold pn;infer_instance
def vo (e:bN):Nat:=gR e.b e.u
def yo (e:bN) (n:Int):Nat:=(hR e.table e.b n.toNat e.u).1
def vp (e:bN):Nat:=(hR e.table e.b (gR e.b e.u) e.u).1
theorem Y8 {u:h6} (h:(gb table b u).1=false):u.bz.length=0/\u.bm.length=0/\u.reqs.length=0:=by
 by_cases h1:0<u.bz.length
 ·rw[F1 h1] at h;cases h
 ·by_cases ae:0<u.bm.length
  ·rw[F2 h1 ae] at h;cases h
  ·by_cases ay:0<u.reqs.length
   ·rw[F3 h1 ae ay] at h;cases h
   ·exact⟨ao,ao,ao⟩
theorem e4.run {e:bN} (h:e4 e) (f:Nat) {u':h6} (hu:u'=(hR e.table e.b f e.u).2) (az:fK e.table e.b u'):e4 {e with u:=u'}:=by
 subst hu;obtain⟨q1,aE⟩:=J6 (table:=e.table) (b:=e.b) f e.u;have hl:=az.len.trans h.kt.len.symm;exact⟨az,h.lc.trans hl.symm,h.mw.trans hl.symm,Nat.le_trans aE h.Dr,q1.trans h.zc⟩
theorem e4.zp {e:bN} (h:e4 e) (n:Int):e4 (lX e n)/\yo e n<=n.toNat/\(yo e n<n.toNat->pn (lX e n))/\yo e n+vo (lX e n)<=vo e/\(lX e n).u.reqs.length<=e.u.reqs.length:=by
 obtain⟨q1,aE⟩:=h.kt.run n.toNat;obtain⟨cS,_,_,wN⟩:=JI (table:=e.table) (b:=e.b) n.toNat e.u;refine⟨h.run n.toNat rfl q1,cS,λb8=> ?_,aE,(J6 (table:=e.table) (b:=e.b) n.toNat e.u).2⟩;have aq:=wN.resolve_left (Nat.ne_of_lt b8);exact Y8 aq
theorem e4.set {e:bN} (h:e4 e):e4 (fS e)/\pn (fS e)/\vp e+vo (fS e)<=vo e/\(fS e).u.reqs.length<=e.u.reqs.length:=by
 obtain⟨q1,aE,b9⟩:=h.kt.settle;exact⟨h.run _ rfl q1,Y8 aE,b9,(J6 (table:=e.table) (b:=e.b) _ e.u).2⟩
theorem e4.full {e:bN} (h:e4 e) (av:pn e):sq (fQ e.b) (hQ e.table e.cells e.known) (cU e.u.ar)/\e.u.lit=e.cells/\e.u.bS=e.known:=by
 unfold pn at av;have aq:gb e.table e.b e.u=(false,e.u):=F4 ao ao ao;obtain⟨_,_,_,hr,_,aP⟩:=h.kt.done (by rw[aq]);have hp:=h.zc;rw[hr] at hp;have h1:e.u.lit=e.cells:=congrArg Prod.fst hp;have ae:e.u.bS=e.known:=congrArg Prod.snd hp;rw[h1,ae] at aP;exact⟨aP,h1,ae⟩
def refuse (e:bN) (p:dU):Prop:=e.most<=((e.u.reqs.length:Nat):Int)
theorem Y9 {α:Type} {l:List α} {k:Nat} {d:α}:l.set k (l.getD k d)=l:=by
 apply List.ext_getElem?;intro i;rw[List.getElem?_set];split
 ·rename_i ag
  subst ag;split
  ·rename_i hl
   rw[dr,fP hl];rfl
  ·rename_i hl
   exact(List.getElem?_eq_none ao).symm
 ·rfl
theorem e4.ask {e:bN} (h:e4 e) (hr:e.u.reqs.length<10000) {p:dU} (hp:cO p e.b) {x:ix} (ak:x.1=cc e.b p) {c:List Int} {k:List Bool} (al:c=e.cells.set (cc e.b p) x.2.1) (ag:k=e.known.set (cc e.b p) x.2.2):
  e4 {e with u:={e.u with reqs:=e.u.reqs++[x]},cells:=c,known:=k}/\gR e.b {e.u with reqs:=e.u.reqs++[x]}=vo e+pK (fQ e.b).N:=by
 have hl:x.1<e.u.bS.length:=by rw[ak,h.kt.len];exact wE hp
 obtain⟨q1,aE⟩:=h.kt.ask hl;refine⟨⟨q1,?_,?_,?_,?_⟩,aE⟩
 ·subst al;exact(List.length_set).trans h.lc
 ·subst ag;exact(List.length_set).trans h.mw
 ·show (e.u.reqs++[x]).length<=10000
  rw[List.length_append,List.length_singleton];omega
 ·show wG (e.u.reqs++[x]) _=_
  rw[Y7,h.zc,al,ag,ak]
theorem J7 {e:bN} {p:dU} {c:Int} (h:k4 e.b e.most p e.u.reqs c≠0):i_ e p c=e:=by
 obtain⟨u,b,table,cells,known,most⟩:=e;by_cases al:p2 c
 ·have aq:¬acc b most p u.reqs.length:=λq=>h (by unfold k4 jz;dsimp only;rw[aN al,aN q.1,aO q.2])
  unfold i_ Dm Dn zL zM;dsimp only;rw[aO aq,aO aq,ite_self,ite_self]
 ·unfold i_ Dm Dn
  dsimp only;rw[aO al,aO al]
theorem Y' {e:bN} {p:dU} {k:Bool} (h:jz e.b e.most p e.u.reqs≠0):jX e p k=e:=by
 obtain⟨u,b,table,cells,known,most⟩:=e;have aq:¬acc b most p u.reqs.length:=λq=>h (by unfold jz;dsimp only;rw[aN q.1,aO q.2])
 unfold jX zL zM;dsimp only;rw[aO aq,aO aq]
theorem J8 {e:bN} {p:dU} {c:Int} (h:k4 e.b e.most p e.u.reqs c=0):p2 c/\cO p e.b/\¬e.most<=((e.u.reqs.length:Nat):Int)/\i_ e p c={e with u:={e.u with reqs:=e.u.reqs++[(cc e.b p,c,e.known.getD (cc e.b p) default)]},cells:=e.cells.set (cc e.b p) c}:=by
 unfold k4 jz at h;split at h
 ·split at h
  ·split at h
   ·cases h
   ·rename_i h1 ae ay
    have bg:acc e.b e.most p e.u.reqs.length:=⟨ae,ay⟩;unfold i_ Dm Dn zL zM;rw[aN h1,aN h1,aN bg,aN bg];exact⟨h1,ae,ay,rfl⟩
  ·cases h
 ·cases h
theorem Q3 {e:bN} {p:dU} {k:Bool} (h:jz e.b e.most p e.u.reqs=0):cO p e.b/\¬e.most<=((e.u.reqs.length:Nat):Int)/\jX e p k={e with u:={e.u with reqs:=e.u.reqs++[(cc e.b p,e.cells.getD (cc e.b p) default,k)]},known:=e.known.set (cc e.b p) k}:=by
 unfold jz at h;split at h
 ·split at h
  ·cases h
  ·rename_i ae ay
   have bg:acc e.b e.most p e.u.reqs.length:=⟨ae,ay⟩;unfold jX zL zM;rw[aN bg,aN bg];exact⟨ae,ay,rfl⟩
 ·cases h
theorem e4.bL {e:bN} (h:e4 e) (hr:e.u.reqs.length<10000) (p:dU) (c:Int):e4 (i_ e p c)/\(k4 e.b e.most p e.u.reqs c=0->(i_ e p c).u.reqs.length=e.u.reqs.length+1/\vo (i_ e p c)=vo e+pK (fQ e.b).N)/\(k4 e.b e.most p e.u.reqs c≠0->i_ e p c=e):=by
 by_cases aJ:k4 e.b e.most p e.u.reqs c=0
 ·obtain⟨_,hp,_,he⟩:=J8 aJ
  rw[he];obtain⟨q1,aE⟩:=h.ask hr hp (x:=(cc e.b p,c,e.known.getD (cc e.b p) default)) J J Y9.symm;exact⟨q1,λ_=>⟨by show (e.u.reqs++[_]).length=_;rw[List.length_append,List.length_singleton],aE⟩,λaq=>absurd aJ aq⟩
 ·rw[J7 aJ]
  exact⟨h,λaq=>absurd aq aJ,λ_=>rfl⟩
theorem e4.bp {e:bN} (h:e4 e) (hr:e.u.reqs.length<10000) (p:dU) (k:Bool):e4 (jX e p k)/\(jz e.b e.most p e.u.reqs=0->(jX e p k).u.reqs.length=e.u.reqs.length+1/\vo (jX e p k)=vo e+pK (fQ e.b).N)/\(jz e.b e.most p e.u.reqs≠0->jX e p k=e):=by
 by_cases aJ:jz e.b e.most p e.u.reqs=0
 ·obtain⟨hp,_,he⟩:=Q3 (k:=k) aJ
  rw[he];obtain⟨q1,aE⟩:=h.ask hr hp (x:=(cc e.b p,e.cells.getD (cc e.b p) default,k)) rfl Y9.symm rfl;exact⟨q1,λ_=>⟨by show (e.u.reqs++[_]).length=_;rw[List.length_append,List.length_singleton],aE⟩,λaq=>absurd aJ aq⟩
 ·rw[Y' aJ]
  exact⟨h,λaq=>absurd aq aJ,λ_=>rfl⟩
theorem ajW (e:bN) (x:gT):(jB e x).b=e.b/\(jB e x).table=e.table/\(jB e x).most=e.most:=by
 unfold jB;split
 ·exact⟨rfl,rfl,rfl⟩
 ·split
  ·exact⟨rfl,rfl,rfl⟩
  ·split
   ·exact⟨rfl,rfl,rfl⟩
   ·split<;>exact⟨rfl,rfl,rfl⟩
theorem e4.do {e:bN} (h:e4 e) (hr:e.u.reqs.length<10000) (x:gT):e4 (jB e x)/\(jB e x).u.reqs.length<=e.u.reqs.length+1:=by
 unfold jB;split
 ·obtain⟨q1,aE,b9⟩:=h.bL hr (lk x) x.2.1
  refine⟨q1,?_⟩;by_cases aJ:k4 e.b e.most (lk x) e.u.reqs x.2.1=0
  ·rw[(aE aJ).1];exact bY _
  ·rw[b9 aJ];omega
 ·split
  ·obtain⟨q1,aE,b9⟩:=h.bp hr (lk x) x.2.2.2.2.2
   refine⟨q1,?_⟩;by_cases aJ:jz e.b e.most (lk x) e.u.reqs=0
   ·rw[(aE aJ).1];exact bY _
   ·rw[b9 aJ];omega
  ·split
   ·obtain⟨q1,_,_,_,hv⟩:=h.zp x.2.1
    exact⟨q1,ao⟩
   ·split
    ·obtain⟨q1,_,_,hv⟩:=h.set
     exact⟨q1,ao⟩
    ·exact⟨h,ao⟩
theorem GG {b:bF} {cells:List Int} {table:List cr} {known:List Bool} {most:Int} (h:nh b cells table known most) (aq:cells.length<=10000):e4 (jI b cells table known most)/\vo (jI b cells table known most)<=361*cells.length:=by
 obtain⟨q1,aE,b9,ey⟩:=ajK h aq;exact⟨⟨q1,aE,b9,Nat.zero_le _,rfl⟩,ey⟩
end AE
namespace AE
namespace Q4
noncomputable def body:Code:=(Tryz.f46.body).getD .skip
def N:Nat:=20
noncomputable abbrev bV:=gu Tryz.prog Tryz.f46
def a6:b6:={sl:=dn [(0,0)],ms:=[],A:=start}
def cq:bC:=[(.len #[29] 3 0,1),
 (.bin .gtr 3 1 (I 300),.bool true)]
theorem bk:bV (at' 20 cq [] body a6)=some (.bool false):=aw
def c4:bC:=[(.len #[29] 3 0,1),
 (.bin .gtr 3 1 (I 300),.bool false)]
def hH:List bM:=[]
def hI:aT:=dn [(3,2),(0,0)]
abbrev k1:=at' 20 c4 [] body a6
theorem e1:tv hI hH k1=some [(0,0),(I 0,2)]:=aw
def h8:Code:=y7 body [1,1,0,1,4]
def lh:List fe:=qp body [1,1,0,1,4] []
theorem e2:se k1=h8:=aw
theorem dH:gX k1=lh:=aw
def ew:bC:=[(.len #[29] 3 0,1),
 (.bin .lss 3 2 1,.bool true),
 (.cP 29 0 2,3),
 (.cu 66 3 0,4),
 (.bp 9 4,5),
 (.len #[9] 3 5,6),
 (.bin .gtr 3 6 (I 60),.bool true)]
theorem jD:bV (qG 20 [] [] lh (at' 20 ew [] h8 (db hI hH)))=some (.bool false):=aw
def gL:bC:=[(.len #[29] 3 0,1),
 (.bin .lss 3 2 1,.bool true),
 (.cP 29 0 2,3),
 (.cu 66 3 0,4),
 (.bp 9 4,5),
 (.len #[9] 3 5,6),
 (.bin .gtr 3 6 (I 60),.bool false),
 (.bin .add 3 2 (I 1),7)]
theorem oP:uD hI hH (at' 20 gL [] h8 (db hI hH))=some [(0,0),(7,2)]:=aw
def iz:bC:=[(.len #[29] 3 0,1),
 (.bin .lss 3 2 1,.bool false)]
theorem kY:bV (qG 20 [] [] lh (at' 20 iz [] h8 (db hI hH)))=some (.bool true):=aw
@[reducible] noncomputable def cl (l:List cr) (fC:dA) (fR:Nat) (i:Nat:=0):List U:=[bI fC l fR,I ((l.length:Nat):Int),I ((i:Nat):Int),iS (bI fC l fR) (i*8),iS (bI fC l fR) (i*8+0),cp (l.getD (i) default).1,I (((l.getD (i) default).1.length:Nat):Int),I ((i+1:Nat):Int)]
theorem any (W:au) {jm:U} {l:List cr} (hl:b7 (aG W) 8 hA jm l):Calls Tryz.prog 46 #[jm] W λe w'=>e= .returned (.bool (decide (na l)))/\ch W.heap.size W w':=by
 obtain⟨fC,fR,rfl⟩:=hl.slice;refine kH (cl l fC fR) body a6 N [aj 0] Tryz.func46 λa ai=> ?_
 letI:=du ai;by_cases aJ:300<((l.length:Nat):Int)
 ·refine bO cq [] (ah (fW hl k9) (ah bD bc)) bd ?_ ai
  exact bT bk λw2 br=>(by first|(rw[di (Nz ao)];rfl)|(rw[di (NA (i:=i) ao ao)];rfl)|(rw[gU (NB ao (λj h=>bn.2 j ao))];rfl))
 ·refine bO c4 [] (ah (fW hl k9) (ah a8 bc)) bd ?_ ai
  refine y9 (f':=(λi=>aX (aG W) (cl l fC fR i))) (λi=>i<=l.length/\∀j,j<i->(l.getD j default).1.length<=60) (λi=>l.length-i) 0 e1 jj (λ_ _ h=>h) (by exact⟨Nat.zero_le _,λj h=>absurd h (Nat.not_lt_zero _)⟩) ?_;intro i bn gd w ai;letI:=du ai;refine y8 e2 dH ?_;by_cases yC:((i:Nat):Int)<((l.length:Nat):Int)
  ·by_cases hi:60<(((l.getD (i) default).1.length:Nat):Int)
   ·refine bO ew [] (ah (fW hl k9) (ah bD (ah (wk hl k9 pH) (ah (TS hl (show i<l.length by omega) J J J J) (ah (Bq 0 hl (rM i) TQ) (ah (aR.y0 J J qn J J) (ah bD bc))))))) bd ?_ ai
    refine rI [] [] bc bd ?_;exact bT jD λw2 br=>(by first|(rw[di (Nz ao)];rfl)|(rw[di (NA (i:=i) ao ao)];rfl)|(rw[gU (NB ao (λj h=>bn.2 j ao))];rfl))
   ·refine bO gL [] (ah (fW hl k9) (ah bD (ah (wk hl k9 pH) (ah (TS hl (show i<l.length by omega) J J J J) (ah (Bq 0 hl (rM i) TQ) (ah (aR.y0 J J qn J J) (ah a8 (ah mj bc)))))))) bd ?_ ai
    exact zt (i+1) oP jj (by exact⟨ao,λj h=>by rcases Nat.lt_or_ge j i with h1|h1;exact bn.2 j h1;rw[show j=i by omega];omega⟩)
  ·refine bO iz [] (ah (fW hl k9) (ah a8 bc)) bd ?_ ai
   refine rI [] [] bc bd ?_;exact bT kY λw2 br=>(by first|(rw[di (Nz ao)];rfl)|(rw[di (NA (i:=i) ao ao)];rfl)|(rw[gU (NB ao (λj h=>bn.2 j ao))];rfl))
end Q4
end AE
namespace AE
section
variable [aY]
theorem Q5 {x:U} {u:U} {l:List cr} (hp:dW [x]=true) (a':et [x]=[u]) (hl:b7 aY.dg 8 hA u l) (h:na l):ju Tryz.prog (46,[x],.bool true):=
 lR (a:= #[u]) hp rfl a' rfl λw hw=>(Q4.any w (hl.mono hw)).mono λe w' eW=>by rw[gU h] at eW;exact eW
theorem ajX {x:U} {u:U} {l:List cr} (hp:dW [x]=true) (a':et [x]=[u]) (hl:b7 aY.dg 8 hA u l) (h:¬na l):ju Tryz.prog (46,[x],.bool false):=
 lR (a:= #[u]) hp rfl a' rfl λw hw=>(Q4.any w (hl.mono hw)).mono λe w' eW=>by rw[di h] at eW;exact eW
end
end AE
namespace AE
namespace Q6
noncomputable def body:Code:=(Tryz.f19.body).getD .skip
def N:Nat:=22
noncomputable abbrev bV:=gu Tryz.prog Tryz.f19
def a6:b6:={sl:=dn [(2,1),(1,0),(0,.agg ⟨[2,3,4,5,6,7,8]⟩)],ms:=[],A:=start}
def cq:bC:=[(.len #[26] 3 8,9),
 (.bin .leq 3 9 (I 1000),.bool true),
 (.len #[30] 3 1,10),
 (.bin .leq 3 10 (I 1200),.bool true)]
def lE:ef:=[(46,[0],.bool true)]
theorem bk:bV (at' 22 cq lE body a6)=some (.bool true):=aw
def c4:bC:=[(.len #[26] 3 8,9),
 (.bin .leq 3 9 (I 1000),.bool true),
 (.len #[30] 3 1,10),
 (.bin .leq 3 10 (I 1200),.bool false)]
def jH:ef:=[(46,[0],.bool true)]
theorem e1:bV (at' 22 c4 jH body a6)=some (.bool false):=aw
def ew:bC:=[(.len #[26] 3 8,9),
 (.bin .leq 3 9 (I 1000),.bool false)]
def nK:ef:=[(46,[0],.bool true)]
theorem e2:bV (at' 22 ew nK body a6)=some (.bool false):=aw
def rQ:ef:=[(46,[0],.bool false)]
theorem dH:bV (at' 22 [] rQ body a6)=some (.bool false):=aw
@[reducible] noncomputable def cl (cells:List Int) (cY:dA) (cG cZ:Nat) (table:List cr) (j9:dA) (j':Nat) (known:List Bool) (h9:dA) (h':Nat) (b:bF):List U:=[bI j9 table j',bI h9 known h',I b.1,I b.2.1,I b.2.2.1,I b.2.2.2.1,I b.2.2.2.2.1,I b.2.2.2.2.2,.slice cY cG cZ,I ((cells.length:Nat):Int),I ((known.length:Nat):Int)]
theorem any (W:au) {b:bF} {cY:dA} {cG cZ:Nat} {cells:List Int} (hf:b7 (aG W) 1 ih (.slice cY cG cZ) cells) {nN:U} {table:List cr} (aI:b7 (aG W) 8 hA nN table) {nO:U} {known:List Bool} (ig:b7 (aG W) 1 hO nO known) (iD:cG=cells.length):Calls Tryz.prog 19 #[.agg ⟨[I b.1,I b.2.1,I b.2.2.1,I b.2.2.2.1,I b.2.2.2.2.1,I b.2.2.2.2.2,.slice cY cG cZ]⟩,nN,nO] W λe w'=>e= .returned (.bool (decide (na table/\cells.length<=1000/\known.length<=1200)))/\ch W.heap.size W w':=by
 obtain⟨j9,j',rfl⟩:=aI.slice;obtain⟨h9,h',rfl⟩:=ig.slice;refine kH (cl cells cY cG cZ table j9 j' known h9 h' b) body a6 N [.agg ⟨[aj 2,aj 3,aj 4,aj 5,aj 6,aj 7,aj 8]⟩,aj 0,aj 1] Tryz.func19 λa ai=> ?_
 letI:=du ai;have aA:=bW.qs W;by_cases aJ:na table
 ·by_cases h1:((cells.length:Nat):Int)<=1000
  ·by_cases ae:((known.length:Nat):Int)<=1200
   ·refine bO cq lE (ah (fW (hf.mono aA.ext) l8) (ah bD (ah (fW (ig.mono aA.ext) nD) (ah bD bc)))) (cz (Q5 J J (aI.mono aA.ext) aJ) bd) ?_ ai
    exact bT bk λw2 br=>(by first|(rw[gU (show na table/\cells.length<=1000/\known.length<=1200 from ⟨bB,ao,ao⟩)];rfl)|(rw[di (λq:na table/\cells.length<=1000/\known.length<=1200=>by first|exact absurd q.1 bB|(have q1:=q.2.1;have aE:=q.2.2;omega))];rfl))
   ·refine bO c4 jH (ah (fW (hf.mono aA.ext) l8) (ah bD (ah (fW (ig.mono aA.ext) nD) (ah a8 bc)))) (cz (Q5 J J (aI.mono aA.ext) aJ) bd) ?_ ai
    exact bT e1 λw2 br=>(by first|(rw[gU (show na table/\cells.length<=1000/\known.length<=1200 from ⟨bB,ao,ao⟩)];rfl)|(rw[di (λq:na table/\cells.length<=1000/\known.length<=1200=>by first|exact absurd q.1 bB|(have q1:=q.2.1;have aE:=q.2.2;omega))];rfl))
  ·refine bO ew nK (ah (fW (hf.mono aA.ext) l8) (ah a8 bc)) (cz (Q5 J J (aI.mono aA.ext) aJ) bd) ?_ ai
   exact bT e2 λw2 br=>(by first|(rw[gU (show na table/\cells.length<=1000/\known.length<=1200 from ⟨bB,ao,ao⟩)];rfl)|(rw[di (λq:na table/\cells.length<=1000/\known.length<=1200=>by first|exact absurd q.1 bB|(have q1:=q.2.1;have aE:=q.2.2;omega))];rfl))
 ·refine bO [] rQ bc (cz (ajX J J (aI.mono aA.ext) aJ) bd) ?_ ai
  exact bT dH λw2 br=>(by first|(rw[gU (show na table/\cells.length<=1000/\known.length<=1200 from ⟨bB,ao,ao⟩)];rfl)|(rw[di (λq:na table/\cells.length<=1000/\known.length<=1200=>by first|exact absurd q.1 bB|(have q1:=q.2.1;have aE:=q.2.2;omega))];rfl))
end Q6
end AE
namespace AE
def Dz (cells:List Int) (table:List cr) (known:List Bool):Prop:=na table/\cells.length<=1000/\known.length<=1200
instance (cells:List Int) (table:List cr) (known:List Bool):Decidable (Dz cells table known):=by unfold Dz;infer_instance
def tS (cells:List Int) (table:List cr) (known:List Bool) (n:Nat):Prop:=cells.length<=120/\n<=30/\Dz cells table known
instance (cells:List Int) (table:List cr) (known:List Bool) (n:Nat):Decidable (tS cells table known n):=by unfold tS;infer_instance
section
variable [aY] {x y z:U} {b:bF} {cells:List Int} {table:List cr} {known:List Bool} {a:Option Addr} {n c:Nat} {u v:U}
theorem ajY (hp:dW [x,y,z]=true) (hr:aM (.bool true)=true) (a':et [x,y,z]=[jW b (.slice a n c),u,v])
  (al:b7 aY.dg 1 ih (.slice a n c) cells) (aI:b7 aY.dg 8 hA u table) (ag:b7 aY.dg 1 hO v known) (iD:n=cells.length) (h:Dz cells table known):ju Tryz.prog (19,[x,y,z],.bool true):=
 lR (a:= #[jW b (.slice a n c),u,v]) hp hr a' rfl λw hw=>(Q6.any w (al.mono hw) (aI.mono hw) (ag.mono hw) iD).mono λe w' eW=>by rw[gU (show na table/\cells.length<=1000/\known.length<=1200 from h)] at eW;exact eW
theorem ajZ (hp:dW [x,y,z]=true) (hr:aM (.bool false)=true) (a':et [x,y,z]=[jW b (.slice a n c),u,v])
  (al:b7 aY.dg 1 ih (.slice a n c) cells) (aI:b7 aY.dg 8 hA u table) (ag:b7 aY.dg 1 hO v known) (iD:n=cells.length) (h:¬Dz cells table known):ju Tryz.prog (19,[x,y,z],.bool false):=
 lR (a:= #[jW b (.slice a n c),u,v]) hp hr a' rfl λw hw=>(Q6.any w (al.mono hw) (aI.mono hw) (ag.mono hw) iD).mono λe w' eW=>by rw[di (show ¬(na table/\cells.length<=1000/\known.length<=1200) from h)] at eW;exact eW
end
end AE
namespace AE
namespace Y_
noncomputable def body:Code:=(Tryz.f5.body).getD .skip
def N:Nat:=24
noncomputable abbrev bV:=gu Tryz.prog Tryz.f5
def a6:b6:={sl:=dn [(3,2),(2,1),(1,0),(0,.agg ⟨[3,4,5,6,7,8,9]⟩)],ms:=[],A:=start}
def cq:bC:=[(.len #[26] 3 9,10),
 (.bin .leq 3 10 (I 120),.bool true),
 (.len #[31] 3 2,11),
 (.bin .leq 3 11 (I 30),.bool true)]
def lE:ef:=[(19,[.agg ⟨[3,4,5,6,7,8,9]⟩,0,1],.bool true)]
theorem bk:bV (at' 24 cq lE body a6)=some (.bool true):=aw
def c4:bC:=[(.len #[26] 3 9,10),
 (.bin .leq 3 10 (I 120),.bool true),
 (.len #[31] 3 2,11),
 (.bin .leq 3 11 (I 30),.bool true)]
def jH:ef:=[(19,[.agg ⟨[3,4,5,6,7,8,9]⟩,0,1],.bool false)]
theorem e1:bV (at' 24 c4 jH body a6)=some (.bool false):=aw
def ew:bC:=[(.len #[26] 3 9,10),
 (.bin .leq 3 10 (I 120),.bool true),
 (.len #[31] 3 2,11),
 (.bin .leq 3 11 (I 30),.bool false)]
theorem e2:bV (at' 24 ew [] body a6)=some (.bool false):=aw
def eP:bC:=[(.len #[26] 3 9,10),
 (.bin .leq 3 10 (I 120),.bool false)]
theorem dH:bV (at' 24 eP [] body a6)=some (.bool false):=aw
@[reducible] noncomputable def cl (cells:List Int) (cY:dA) (cG cZ:Nat) (table:List cr) (j9:dA) (j':Nat) (known:List Bool) (h9:dA) (h':Nat) (l:List gT) (fC:dA) (fR:Nat) (b:bF):List U:=[bI j9 table j',bI h9 known h',bI fC l fR,I b.1,I b.2.1,I b.2.2.1,I b.2.2.2.1,I b.2.2.2.2.1,I b.2.2.2.2.2,.slice cY cG cZ,I ((cells.length:Nat):Int),I ((l.length:Nat):Int)]
theorem any (W:au) {b:bF} {cY:dA} {cG cZ:Nat} {cells:List Int} (hf:b7 (aG W) 1 ih (.slice cY cG cZ) cells) {nN:U} {table:List cr} (aI:b7 (aG W) 8 hA nN table) {nO:U} {known:List Bool} (ig:b7 (aG W) 1 hO nO known) {jm:U} {l:List gT} (hl:b7 (aG W) 6 yn jm l) (iD:cG=cells.length):Calls Tryz.prog 5 #[.agg ⟨[I b.1,I b.2.1,I b.2.2.1,I b.2.2.2.1,I b.2.2.2.2.1,I b.2.2.2.2.2,.slice cY cG cZ]⟩,nN,nO,jm] W λe w'=>e= .returned (.bool (decide (tS cells table known l.length)))/\ch W.heap.size W w':=by
 obtain⟨j9,j',rfl⟩:=aI.slice;obtain⟨h9,h',rfl⟩:=ig.slice;obtain⟨fC,fR,rfl⟩:=hl.slice;refine kH (cl cells cY cG cZ table j9 j' known h9 h' l fC fR b) body a6 N [.agg ⟨[aj 3,aj 4,aj 5,aj 6,aj 7,aj 8,aj 9]⟩,aj 0,aj 1,aj 2] Tryz.func5 λa ai=> ?_
 letI:=du ai;have aA:=bW.qs W;by_cases aJ:((cells.length:Nat):Int)<=120
 ·by_cases h1:((l.length:Nat):Int)<=30
  ·by_cases ae:Dz cells table known
   ·refine bO cq lE (ah (fW (hf.mono aA.ext) l8) (ah bD (ah (fW (hl.mono aA.ext) Q0) (ah bD bc)))) (cz (ajY J J J (hf.mono aA.ext) (aI.mono aA.ext) (ig.mono aA.ext) iD ae) bd) ?_ ai
    exact bT bk λw2 br=>(by first|(rw[gU (show tS cells table known l.length from ⟨ao,ao,bB⟩)];rfl)|(rw[di (λq:tS cells table known l.length=>by first|exact absurd q.2.2 bB|(have q1:=q.1;have aE:=q.2.1;omega))];rfl))
   ·refine bO c4 jH (ah (fW (hf.mono aA.ext) l8) (ah bD (ah (fW (hl.mono aA.ext) Q0) (ah bD bc)))) (cz (ajZ J J J (hf.mono aA.ext) (aI.mono aA.ext) (ig.mono aA.ext) iD ae) bd) ?_ ai
    exact bT e1 λw2 br=>(by first|(rw[gU (show tS cells table known l.length from ⟨ao,ao,bB⟩)];rfl)|(rw[di (λq:tS cells table known l.length=>by first|exact absurd q.2.2 bB|(have q1:=q.1;have aE:=q.2.1;omega))];rfl))
  ·refine bO ew [] (ah (fW (hf.mono aA.ext) l8) (ah bD (ah (fW (hl.mono aA.ext) Q0) (ah a8 bc)))) bd ?_ ai
   exact bT e2 λw2 br=>(by first|(rw[gU (show tS cells table known l.length from ⟨ao,ao,bB⟩)];rfl)|(rw[di (λq:tS cells table known l.length=>by first|exact absurd q.2.2 bB|(have q1:=q.1;have aE:=q.2.1;omega))];rfl))
 ·refine bO eP [] (ah (fW (hf.mono aA.ext) l8) (ah a8 bc)) bd ?_ ai
  exact bT dH λw2 br=>(by first|(rw[gU (show tS cells table known l.length from ⟨ao,ao,bB⟩)];rfl)|(rw[di (λq:tS cells table known l.length=>by first|exact absurd q.2.2 bB|(have q1:=q.1;have aE:=q.2.1;omega))];rfl))
end Y_
end AE
namespace AE
def Q7:cr:=([97,105,114],false,false,false,1,0,0,0)
def qQ:List cr:=[Q7,([115,116,111,110,101],true,false,false,16,0,0,0),([103,108,97,115,115],true,false,false,1,0,0,0),([108,97,109,112],true,false,false,16,15,14,10),([115,97,110,100],true,false,true,16,0,0,0),([119,97,116,101,114],false,true,false,3,0,0,0),([108,101,97,118,101,115],true,false,false,2,0,0,0),([101,109,98,101,114],true,false,false,16,9,3,0),([102,111,103],false,false,false,2,0,0,0)]
def DA:bF:=(0,0,0,1,1,4)
def Ae:bN:=jI DA [3,0,0,0] qQ [] 2
def sW:bN:=fS Ae
end AE
namespace AE
def J9:bN:=i_ sW (0,0,0) 0
def vq:bN:=fS J9
def BN:bN:=i_ vq (0,0,1) 3
def oi:bN:=jX BN (0,0,1) true
def po:bN:=lX oi 1
theorem Za:nh DA [3,0,0,0] qQ [] 2:=of_decide_eq_true aw
theorem aj0:¬nh DA [3,0,0,0] qQ [] 0:=λh=>by
 have:=h.2.1;omega
theorem Q8:e4 Ae:=(GG Za cv).1
theorem Zb:e4 sW:=Q8.set.1
theorem aj1:sW.u.reqs.length<10000:=Nat.lt_of_le_of_lt Q8.set.2.2.2 (by show (0:Nat)<_;decide)
theorem Zc:e4 J9:=(Zb.bL aj1 _ _).1
theorem Zd:e4 vq:=Zc.set.1
theorem aj2:k4 sW.b sW.most (0,0,0) sW.u.reqs 0=0:=aw
theorem aj3:vq.u.reqs.length=0:=aw
theorem aj4:BN.u.reqs.length=1:=aw
theorem aj5:oi.u.reqs.length=2:=aw
theorem Ze:e4 BN:=(Zd.bL (by rw[aj3];decide) _ _).1
theorem J':e4 oi:=(Ze.bp (by rw[aj4];decide) _ _).1
theorem aj6:pn sW:=of_decide_eq_true aw
theorem aj7:¬pn oi:=λh=>by have:=h.2.2;rw[aj5] at this;cases this
theorem aj8:(sW.u.ar.map λx=>x.1)=[15,14,13,12]:=aw
theorem aj9:(sW.u.ar.map λx=>x.2.2.1)=[10,9,8,7]:=aw
theorem aj':(sW.u.ar.map λx=>x.2.2.2)=[0,15,15,15]:=aw
theorem aj_:(vq.u.ar.map λx=>x.1)=[0,0,0,0]:=aw
theorem aka:(vq.u.ar.map λx=>x.2.2.2)=[15,15,15,15]:=aw
theorem Zf:sW.u.ar.length=4:=aw
theorem Zg:vq.u.ar.length=4:=aw
theorem n2:0<((vp J9:Nat):Int):=of_decide_eq_true aw
theorem akb:k4 vq.b vq.most (0,0,1) vq.u.reqs 3=0:=aw
theorem akc:jz BN.b BN.most (0,0,1) BN.u.reqs=0:=aw
theorem Zh:k4 oi.b oi.most (0,0,1) oi.u.reqs 3=16:=aw
theorem Zi:k4 oi.b oi.most (0,0,4) oi.u.reqs 0=1:=aw
theorem akd:i_ oi (0,0,1) 3=oi:=J7 (by rw[Zh];decide)
theorem ake:i_ oi (0,0,4) 0=oi:=J7 (by rw[Zi];decide)
theorem akf:yo oi 1=1:=aw
theorem Zj:po.known.length=4:=aw
theorem Zk:po.cells.length=4:=aw
theorem akg:po.cells.getD 1 default=3:=aw
theorem J_ {W:au} {g:Nat} {A:dh} {e e':bN} {p:dU} {c n:Int} (h:b_ (aG W) [eO g A e]) (er:e4 e) (h1:i_ e p c=e') (ae:k4 e.b e.most p e.u.reqs c=n):
  Calls Tryz.prog 24 #[b2 g,P.val p,.int .i64 c] W λx w'=>(∃aV:dh,x= .returned (.int .i64 n)/\dp (aG W) [eO g A e] (aG w') [eO g aV e'])/\ch 0 W w':=by
 subst h1 ae;exact YX W h p c er.kt.box er.BL er.BM er.J2
theorem akh {W:au} {g:Nat} {A:dh} {e e':bN} {p:dU} {k:Bool} {n:Int} (h:b_ (aG W) [eO g A e]) (er:e4 e) (h1:jX e p k=e') (ae:jz e.b e.most p e.u.reqs=n):
  Calls Tryz.prog 25 #[b2 g,P.val p,.bool k] W λx w'=>(∃aV:dh,x= .returned (.int .i64 n)/\dp (aG W) [eO g A e] (aG w') [eO g aV e'])/\ch 0 W w':=by
 subst h1 ae;exact YY W h p k er.kt.box er.BL er.BM er.J2
theorem Zl {W:au} {g:Nat} {A:dh} {e e':bN} {k:Int} {n:Int} (h:b_ (aG W) [eO g A e]) (er:e4 e) (h1:lX e k=e') (ae:((yo e k:Nat):Int)=n):
  Calls Tryz.prog 26 #[b2 g,.int .i64 k] W λx w'=>(∃aV:dh,x= .returned (.int .i64 n)/\dp (aG W) [eO g A e] (aG w') [eO g aV e'])/\ch 0 W w':=by
 subst h1 ae;exact YU W h k er.kt er.Dr
theorem GH {W:au} {g:Nat} {A:dh} {e e':bN} {n:Int} (h:b_ (aG W) [eO g A e]) (er:e4 e) (h1:fS e=e') (ae:((vp e:Nat):Int)=n):
  Calls Tryz.prog 13 #[b2 g] W λx w'=>(∃aV:dh,x= .returned (.int .i64 n)/\dp (aG W) [eO g A e] (aG w') [eO g aV e'])/\ch 0 W w':=by
 subst h1 ae;exact YT W h er.kt er.Dr
theorem aki {W:au} {g:Nat} {A:dh} {e:bN} (h:b_ (aG W) [eO g A e]) (av:pn e):
  Calls Tryz.prog 12 #[b2 g] W λx w'=>(∃_:Unit,x= .returned (.bool true)/\dp (aG W) [eO g A e] (aG w') [eO g A e])/\ch 0 W w':=by
 have:=YV W h
 rwa [gU (show e.u.bz.length=0/\e.u.bm.length=0/\e.u.reqs.length=0 from av)] at this
theorem akj {W:au} {g:Nat} {A:dh} {e:bN} (h:b_ (aG W) [eO g A e]) (av:¬pn e):
  Calls Tryz.prog 12 #[b2 g] W λx w'=>(∃_:Unit,x= .returned (.bool false)/\dp (aG W) [eO g A e] (aG w') [eO g A e])/\ch 0 W w':=by
 have:=YV W h
 rwa [di (show ¬(e.u.bz.length=0/\e.u.bm.length=0/\e.u.reqs.length=0) from av)] at this
theorem Q9 {W:au} {L:List ca} (av:b_ (aG W) L) {cY:Option Addr} {cG cZ:Nat} {cells:List Int} (hf:b7 (aG W) 1 ih (.slice cY cG cZ) cells) {b:bF} {nN nO:U} {table:List cr} {known:List Bool} (aI:b7 (aG W) 8 hA nN table) (ig:b7 (aG W) 1 hO nO known) {most:Int}
  (b0:ly (aG W)) (aq:cells.length<=10000) (iD:cG=cells.length) (nC:known.length<=100000) (x_:table.length<=100000) (ad:nh b cells table known most):
  Calls Tryz.prog 7 #[jW b (.slice cY cG cZ),nN,nO,.int .i64 most] W λx w'=>(∃y:Nat×dh,x= .returned (.tuple ⟨[b2 y.1,.int .i64 0]⟩)/\dp (aG W) L (aG w') (L++[eO y.1 y.2 (jI b cells table known most)]))/\ch 0 W w':=
 (YZ W hf aI ig most b0 aq iD nC x_).mono λx w' ak=>by
   obtain⟨h,hl⟩:=ak;rw[aN ad] at h;obtain⟨g,A,rfl,t⟩:=h;exact⟨⟨(g,A),rfl,(av.own.new t).Fk⟩,hl.zero⟩
theorem Q' {W:au} {L:List ca} (av:b_ (aG W) L) {cY:Option Addr} {cG cZ:Nat} {cells:List Int} (hf:b7 (aG W) 1 ih (.slice cY cG cZ) cells) {b:bF} {nN nO:U} {table:List cr} {known:List Bool} (aI:b7 (aG W) 8 hA nN table) (ig:b7 (aG W) 1 hO nO known) {most:Int}
  (b0:ly (aG W)) (aq:cells.length<=10000) (iD:cG=cells.length) (nC:known.length<=100000) (x_:table.length<=100000) (ad:¬nh b cells table known most):
  Calls Tryz.prog 7 #[jW b (.slice cY cG cZ),nN,nO,.int .i64 most] W λx w'=>(∃_:Unit,x= .returned (.tuple ⟨[.pointer none,.int .i64 1]⟩)/\dp (aG W) L (aG w') L)/\ch 0 W w':=
 afz av ((YZ W hf aI ig most b0 aq iD nC x_).mono λx w' ak=>by
  obtain⟨h,hl⟩:=ak;rw[aO ad] at h
  exact⟨h,hl⟩)
theorem Ka {P:aQ} {f:FuncId} {args:Array U} {w:au} {p:Prop} [Decidable p] (h:Calls P f args w λe w'=>e= .returned (.bool (decide p))/\ch w.heap.size w w') (hp:p):Calls P f args w λe w'=>e= .returned (.bool true)/\ch w.heap.size w w':=by
 rwa [gU hp] at h
end AE
section
noncomputable section
namespace AE
abbrev c5 (g:Nat) (A:dh) (e:bN):aF cw:= .any (eO g A e)
theorem Q_ {L:List (aF cw)} {i:Nat} {r:aF cw} (h:L[i]? =some r):pick (b3 L) [i]=[r.res]/\jU L.length [i]=true:=by
 refine⟨?_,?_⟩
 ·unfold pick
  rw[kF h];rfl
 ·have:=(List.getElem?_eq_some_iff.1 h).1
  show (Nat.blt i L.length&& !([]:List Nat).contains i&&true)=true;rw[show Nat.blt i L.length=true from Nat.ble_eq.mpr this];rfl
theorem Zm {α:Type 1} {L:List α} {i:Nat} {r:α} (h:L[i]? =some r):L.set i r=L:=by
 obtain⟨af,rfl⟩:=List.getElem?_eq_some_iff.1 h;exact List.set_getElem_self af
theorem lf.Zn {B:Nat} {W:au} {ax:List ca} {L:List (aF cw)} (K:hP cw):lf B W ax L (L++[.arr K (.slice none 0 0) []]):=λM h=>by
 have:=h.new (PT M K.e K.k K.enc);unfold b3 at this ⊢;rw[List.map_append];exact this
section
variable {B:Nat} {W:au} {ax:List ca} {ro:List (iy cw)} {post:U->List (aF cw)->Prop} {n:Nat} {env:List U} {L:List (aF cw)} {aL:List (eK cw)} {k:bs}
theorem Zo {vs:List U} {m:Nat} (dQ:Type) (a':dQ->List U) (bX:dQ->List (aF cw)) (eU:dQ->Prop) (gI:dQ->Nat) (iR:dQ) (aJ:fU env n vs=a' iR) (hL:lf B W ax L (bX iR)) (bn:eU iR)
  (h:∀u,eU u->X B W ax ro post (n+m) (iP (a' u) m env) (bX u) ((λde L'=>∃u',eU u'/\gI u'<gI u/\de=a' u'/\lf B W ax L' (bX u'))::aL) k) (hm:∀u,(a' u).length=m:=by exact λ_=>rfl) (h1:∀u,eV (a' u):=by exact λ_=>ik):X B W ax ro post n env L aL (.loop vs m k):=⟨λaq ho=>by
 refine .loop dQ a' bX eU gI iR hm h1 aJ hL bn λu hu=> ?_
 have e:iP (a' u) m env=(a' u).reverse++env:=by rw[xI,zq _ m (hm u)]
 have:=h u hu (by rw[e];simp [aq,hm u];omega) (by rw[e];exact rC (oK (h1 u)) ho);rw[e] at this
 exact this⟩
theorem akk {dQ:Type} {a':dQ->List U} {bX:dQ->List (aF cw)} {eU:dQ->Prop} {gI:dQ->Nat} {u:dQ} {vs:List U} (u':dQ) (aC:fU env n vs=a' u') (hL:lf B W ax L (bX u')) (bn:eU u') (xv:gI u'<gI u):
 X B W ax ro post n env L ((λde L'=>∃u',eU u'/\gI u'<gI u/\de=a' u'/\lf B W ax L' (bX u'))::aL) (.back vs):=⟨λ_ _=> .back ⟨u',bn,xv,aC,hL⟩⟩
variable {f:FuncId} {args aS:List U} {r:U} {m:Nat} {g:Nat} {A:dh} {e e':bN}
theorem yp {v:U} {L':dh->List (aF cw)} (i:Nat) (al:∀w,kV W ax ro L w->b_ (aG w) (b3 [c5 g A e])->gY cw f aS w [c5 g A e] dh (λ_=>v) λaV=>[c5 g aV e'])
  (h:∀aV,X B W ax ro post (n+1) (v::env) (L' aV) aL k) (ek:∀aV,n7 L i (c5 g A e) (c5 g aV e') (L' aV):=by exact λ_=>gO) (h1:mA v=v:=by rfl) (hr:ex (v::env) (n+1) r=v:=by rfl) (ha:fU env n args=aS:=by rfl):X B W ax ro post n env L aL (.call f args r 1 k):=by
 obtain⟨hi,gi⟩:=Q_ (ek A).get.1;exact il (v:=λ_=>v) (N:=λaV=>[c5 g aV e']) (dq:=[c5 g A e]) (L':=L') [i] (λ_=>[v]) al h (hr:=λ_=>hr) (hL:=λy=>by rw[(ek y).get.2];exact List.append_nil _) (hp:=hi) (ij:=gi) (hl:=λ_=>bY _) (h1:=λ_=>⟨h1,trivial⟩) (ha:=ha)
theorem Zp {v:U} (i:Nat) (al:∀w,kV W ax ro L w->b_ (aG w) (b3 [c5 g A e])->gY cw f aS w [c5 g A e] Unit (λ_=>v) λ_=>[c5 g A e])
  (h:X B W ax ro post (n+1) (v::env) L aL k) (af:L[i]? =some (c5 g A e):=by rfl) (h1:mA v=v:=by rfl) (hr:ex (v::env) (n+1) r=v:=by rfl) (ha:fU env n args=aS:=by rfl):X B W ax ro post n env L aL (.call f args r 1 k):=by
 obtain⟨hi,gi⟩:=Q_ af;exact il (v:=λ_=>v) (N:=λ_=>[c5 g A e]) (dq:=[c5 g A e]) (L':=λ_=>L) [i] (λ_=>[v]) al (λ_=>h) (hr:=λ_=>hr) (hL:=λy=>by show L.set i _++[]=L;rw[Zm af,List.append_nil]) (hp:=hi) (ij:=gi) (hl:=λ_=>bY _) (h1:=λ_=>⟨h1,trivial⟩) (ha:=ha)
theorem Kb {K:hP cw} {l:List K.α} {v:c_->U} {L':c_->List (aF cw)} (i:Nat) (vs:c_->List U) (al:∀w,kV W ax ro L w->b_ (aG w) (b3 [c5 g A e])->gY cw f aS w [c5 g A e] c_ v λd=>[c5 g A e,aF.arr K (.slice d.1 l.length d.2) l])
  (h:∀d,X B W ax ro post (n+m) (iP (vs d) m env) (L' d) aL k) (af:L[i]? =some (c5 g A e):=by rfl) (ek:∀d,qA L (aF.arr K (.slice d.1 l.length d.2) l) (L' d):=by exact λ_=>j7) (hr:∀y,ex (iP (vs y) m env) (n+m) r=v y:=by exact λ_=>rfl)
  (hm:∀y,(vs y).length=m:=by exact λ_=>rfl) (h1:∀y,eV (vs y):=by exact λ_=>ik) (ha:fU env n args=aS:=by rfl):X B W ax ro post n env L aL (.call f args r m k):=by
 obtain⟨hi,gi⟩:=Q_ af;exact il (v:=v) (N:=λd=>[c5 g A e,aF.arr K (.slice d.1 l.length d.2) l]) (dq:=[c5 g A e]) (L':=L') [i] vs al h (hr:=hr) (hL:=λd=>by
  rw[(ek d).eq];show L.set i _++_=_
  rw[Zm af]) (hp:=hi) (ij:=gi) (hl:=λ_=>Nat.le_succ _) (hm:=hm) (h1:=h1) (ha:=ha)
theorem wH {Y:Type} {R:Y->aF cw} {v:Y->U} {L':Y->List (aF cw)} (vs:Y->List U) (al:∀w,kV W ax ro L w->b_ (aG w) (b3 ([]:List (aF cw)))->gY cw f aS w [] Y v λy=>[R y])
  (h:∀y,X B W ax ro post (n+m) (iP (vs y) m env) (L' y) aL k) (ek:∀y,qA L (R y) (L' y):=by exact λ_=>j7) (hr:∀y,ex (iP (vs y) m env) (n+m) r=v y:=by exact λ_=>rfl)
  (hm:∀y,(vs y).length=m:=by exact λ_=>rfl) (h1:∀y,eV (vs y):=by exact λ_=>ik) (ha:fU env n args=aS:=by rfl):X B W ax ro post n env L aL (.call f args r m k):=
 il (v:=v) (N:=λy=>[R y]) (dq:=[]) (L':=L') [] vs al h (hr:=hr) (hL:=λy=>(ek y).eq.symm) (hp:=rfl) (ij:=rfl) (hl:=λ_=>Nat.zero_le _) (hm:=hm) (h1:=h1) (ha:=ha)
theorem akl {v:U} (vs:List U) (al:∀w,kV W ax ro L w->b_ (aG w) (b3 ([]:List (aF cw)))->gY cw f aS w [] Unit (λ_=>v) λ_=>[])
  (h:X B W ax ro post (n+m) (iP vs m env) L aL k) (hr:ex (iP vs m env) (n+m) r=v:=by rfl) (hm:vs.length=m:=by rfl) (h1:eV vs:=by exact ik) (ha:fU env n args=aS:=by rfl):X B W ax ro post n env L aL (.call f args r m k):=
 il (v:=λ_=>v) (N:=λ_=>[]) (dq:=[]) (L':=λ_=>L) [] (λ_=>vs) al (λ_=>h) (hr:=λ_=>hr) (hL:=λ_=>List.append_nil L) (hp:=rfl) (ij:=rfl) (hl:=λ_=>Nat.zero_le _) (hm:=λ_=>hm) (h1:=λ_=>h1) (ha:=ha)
end
theorem ly.BO {W w:au} {ro:List (iy cw)} {L:List (aF cw)} (h:ly (aG W)) (hw:kV W [] ro L w):ly (aG w):=h.mono λi o af=>hw.ext i o af (CL i)
end AE
end
end
namespace AE
theorem akm {p:dU} {b:bF} (h:cO p b):wm b p=(p.1-b.1)+((bu b).1*((p.2.1-b.2.1)+((bu b).2.1*(p.2.2-b.2.2.1)))):=by
 rw[JB h];have e1:p.2.2+((-1)*b.2.2.1)=p.2.2-b.2.2.1:=by omega
 have e2:p.2.1+((-1)*b.2.1)=p.2.1-b.2.1:=by omega
 have dH:p.1+((-1)*b.1)=p.1-b.1:=by omega
 rw[e1,e2,dH,Int.mul_comm (p.2.2-b.2.2.1),Int.add_comm (((bu b).2.1*(p.2.2-b.2.2.1))),Int.mul_comm _ (bu b).1,Int.add_comm]
theorem akn {p:dU} {b:bF} (ad:okB b) (h:cO p b):0<=((bu b).2.1*(p.2.2-b.2.2.1))/\((bu b).2.1*(p.2.2-b.2.2.1))<=4398038122500/\0<=((bu b).1*((p.2.1-b.2.1)+((bu b).2.1*(p.2.2-b.2.2.1))))/\((bu b).1*((p.2.1-b.2.1)+((bu b).2.1*(p.2.2-b.2.2.1))))<=9223345648600875000:=by
 have q:=pe ad h;have e1:p.2.2+((-1)*b.2.2.1)=p.2.2-b.2.2.1:=by omega
 have e2:p.2.1+((-1)*b.2.1)=p.2.1-b.2.1:=by omega
 rw[e1,e2,Int.mul_comm (p.2.2-b.2.2.1),Int.add_comm (((bu b).2.1*(p.2.2-b.2.2.1))),Int.mul_comm _ (bu b).1] at q;exact q
end AE
section
noncomputable section
namespace AE
theorem pq {p:Prop} [Decidable p] (h:¬p):Value.bool false= .bool (decide p):=by rw[di h]
theorem Zq {p:Prop} [Decidable p] (h:¬p):Value.bool true= .bool (!decide p):=by rw[di h];rfl
theorem ako {p q:Prop} [Decidable p] [Decidable q] (h:q↔¬p):Value.bool (decide q)= .bool (!decide p):=by rw[<-decide_not,decide_eq_decide.2 h]
namespace Ra
def t:bs:=
.o (.bin .geq 3 0 3) 9 1 []<|
.c6 9 (
 .o (.bin .lss 3 0 6) 10 1 []<|
 .o (.bin .geq 3 1 4) 11 1 []<|
 .c6 11 (
  .o (.bin .lss 3 1 7) 12 1 []<|
  .o (.bin .geq 3 2 5) 13 1 []<|
  .c6 13 (
   .o (.bin .lss 3 2 8) 14 1 []<|
   .c6 10 (
    .c6 12 (
     .ret 14) (
     .ret (.bool false))) (
    .ret (.bool false))) (
   .c6 10 (
    .c6 12 (
     .ret (.bool false)) (
     .ret (.bool false))) (
    .ret (.bool false)))) (
  .o (.bin .geq 3 2 5) 12 1 []<|
  .c6 12 (
   .o (.bin .lss 3 2 8) 13 1 []<|
   .c6 10 (
    .ret (.bool false)) (
    .ret (.bool false))) (
   .c6 10 (
    .ret (.bool false)) (
    .ret (.bool false))))) (
 .o (.bin .geq 3 1 4) 10 1 []<|
 .c6 10 (
  .o (.bin .lss 3 1 7) 11 1 []<|
  .o (.bin .geq 3 2 5) 12 1 []<|
  .c6 12 (
   .o (.bin .lss 3 2 8) 13 1 []<|
   .ret (.bool false)) (
   .ret (.bool false))) (
  .o (.bin .geq 3 2 5) 11 1 []<|
  .c6 11 (
   .o (.bin .lss 3 2 8) 12 1 []<|
   .ret (.bool false)) (
   .ret (.bool false))))
theorem dw:fJ Tryz.prog 62 {} [.agg ⟨[0,1,2]⟩,.agg ⟨[3,4,5,6,7,8]⟩] 9=some t:=gE aw
theorem any (W:au) (p:dU) (b:bF):Calls Tryz.prog 62 #[P.val p,X.val b] W λe w'=>e= .returned (.bool (decide (cO p b)))/\ch W.heap.size W w':=by
 refine n8 (ro:=[]) mixed dw [I p.1,I p.2.1,I p.2.2,I b.1,I b.2.1,I b.2.2.1,I b.2.2.2.1,I b.2.2.2.2.1,I b.2.2.2.2.2] (.nil _) ?_;unfold t;refine bK ?_;refine fV rfl (λ_=> ?_) λ_=> ?_
 ·refine bK ?_
  refine fV rfl (λ_=> ?_) λ_=> ?_
  ·refine bK ?_
   refine fV rfl (λ_=> ?_) λ_=> ?_
   ·refine bK ?_
    refine fV rfl (λ_=> ?_) λ_=> ?_
    ·refine fV rfl (λ_=> ?_) λ_=> ?_
     ·exact e3 (congrArg Value.bool (decide_eq_decide.2 (by unfold cO;omega)))
     ·exact e3 (pq (by unfold cO;omega))
    ·exact e3 (pq (by unfold cO;omega))
   ·refine fV rfl (λ_=> ?_) λ_=> ?_
    ·refine fV rfl (λ_=> ?_) λ_=> ?_
     ·exact e3 (pq (by unfold cO;omega))
     ·exact e3 (pq (by unfold cO;omega))
    ·exact e3 (pq (by unfold cO;omega))
  ·refine bK ?_
   refine fV rfl (λ_=> ?_) λ_=> ?_
   ·refine bK ?_
    refine fV rfl (λ_=> ?_) λ_=> ?_
    ·exact e3 (pq (by unfold cO;omega))
    ·exact e3 (pq (by unfold cO;omega))
   ·refine fV rfl (λ_=> ?_) λ_=> ?_
    ·exact e3 (pq (by unfold cO;omega))
    ·exact e3 (pq (by unfold cO;omega))
 ·refine bK ?_
  refine fV rfl (λ_=> ?_) λ_=> ?_
  ·refine bK ?_
   refine fV rfl (λ_=> ?_) λ_=> ?_
   ·refine bK ?_
    exact e3 (pq (by unfold cO;omega))
   ·exact e3 (pq (by unfold cO;omega))
  ·refine bK ?_
   refine fV rfl (λ_=> ?_) λ_=> ?_
   ·refine bK ?_
    exact e3 (pq (by unfold cO;omega))
   ·exact e3 (pq (by unfold cO;omega))
end Ra
namespace Zr
def t:bs:=
.o (.bin .geq 3 0 3) 6 1 []<|
.c6 6 (
 .ret (.bool true)) (
 .o (.bin .geq 3 1 4) 7 1 []<|
 .c6 7 (
  .ret (.bool true)) (
  .o (.bin .geq 3 2 5) 8 1 []<|
  .ret 8))
theorem dw:fJ Tryz.prog 110 {} [.agg ⟨[0,1,2,3,4,5]⟩] 6=some t:=gE aw
theorem any {W:au} (b:bF):qF cw 110 [.agg ⟨u6 b⟩] W (.bool (!decide (hG b))):=by
 refine n8 (ro:=[]) mixed dw [I b.1,I b.2.1,I b.2.2.1,I b.2.2.2.1,I b.2.2.2.2.1,I b.2.2.2.2.2] (.nil _) ?_;unfold t;refine bK ?_;refine fV rfl (λ_=> ?_) λ_=> ?_
 ·exact e3 (Zq (by unfold hG;omega))
 ·refine bK ?_
  refine fV rfl (λ_=> ?_) λ_=> ?_
  ·exact e3 (Zq (by unfold hG;omega))
  ·refine bK ?_
   exact e3 (ako (by unfold hG;omega))
end Zr
namespace Rb
def t:bs:=
.o (.bin .sub 3 0 3) 6 1 []<|
.o (.bin .sub 3 1 4) 7 1 []<|
.o (.bin .sub 3 2 5) 8 1 []<|
.ret (.agg ⟨[6,7,8]⟩)
theorem dw:fJ Tryz.prog 104 {} [.agg ⟨[0,1,2]⟩,.agg ⟨[3,4,5]⟩] 6=some t:=gE aw
theorem any {W:au} {p q:dU} (hp: -2097152<=p.1/\p.1<=2097152/\ -2097152<=p.2.1/\p.2.1<=2097152/\ -2097152<=p.2.2/\p.2.2<=2097152) (a1: -2097152<=q.1/\q.1<=2097152/\ -2097152<=q.2.1/\q.2.1<=2097152/\ -2097152<=q.2.2/\q.2.2<=2097152):qF cw 104 [P.val p,P.val q] W (P.val (p.1-q.1,p.2.1-q.2.1,p.2.2-q.2.2)):=by
 refine n8 (ro:=[]) mixed dw [I p.1,I p.2.1,I p.2.2,I q.1,I q.2.1,I q.2.2] (.nil _) ?_;unfold t;refine bK ?_;exact e3 rfl
end Rb
namespace Kc
def t:bs:=
.c 110 [.agg ⟨[0,1,2,3,4,5]⟩] 6 1<|
.c6 6 (
 .ret (.agg ⟨[I 0,I 0,I 0]⟩)) (
 .c 104 [.agg ⟨[3,4,5]⟩,.agg ⟨[0,1,2]⟩] (.agg ⟨[7,8,9]⟩) 3<|
 .ret (.agg ⟨[7,8,9]⟩))
theorem dw:fJ Tryz.prog 77 {} [.agg ⟨[0,1,2,3,4,5]⟩] 6=some t:=gE aw
theorem any (W:au) (b:bF) (ad:okB b):Calls Tryz.prog 77 #[X.val b] W λe w'=>e= .returned (P.val (bu b))/\ch W.heap.size W w':=by
 refine n8 (ro:=[]) mixed dw [I b.1,I b.2.1,I b.2.2.1,I b.2.2.2.1,I b.2.2.2.2.1,I b.2.2.2.2.2] (.nil _) ?_;unfold t;refine iY (v:= .bool (!decide (hG b))) (λw _=>Zr.any b) ?_;refine xJ rfl (λh=>e3 ?_) λh=> ?_
 ·rw[Br h]
  rfl
 ·rw[xR h]
  unfold okB at ad;refine qE [I (b.2.2.2.1-b.1),I (b.2.2.2.2.1-b.2.1),I (b.2.2.2.2.2-b.2.2.1)] (λw _=>Rb.any (p:=(b.2.2.2.1,b.2.2.2.2.1,b.2.2.2.2.2)) (q:=(b.1,b.2.1,b.2.2.1)) (by dsimp only;omega) (by dsimp only;omega)) rfl ?_;exact e3 rfl
end Kc
theorem Zs {α:Type} [Inhabited α] {l k:List α} (hl:l.length=k.length) (h:∀j,j<l.length->l.getD j default=k.getD j default):l=k:=by
 apply List.ext_getElem hl;intro i h1 ae;have:=h i h1
 rwa [dr,dr,fP h1,fP ae] at this
namespace Kd
def t:bs:=
.o (.len #[51] 3 0) 2 1 [0,85]<|
.o (.len #[51] 3 1) 3 1 [0,85]<|
.o (.bin .neq 3 2 3) 4 1 []<|
.c6 4 (
 .ret (.bool false)) (
 .loop [I 0,.bool false] 2<|
 .o (.len #[51] 3 0) 7 1 [0,85]<|
 .o (.bin .lss 3 5 7) 8 1 []<|
 .c6 8 (
  .o (.cP 51 0 5) 9 1 [0,85,4]<|
  .o (.bp 85 9) (.agg ⟨h5 4 10⟩) 4 [4]<|
  .o (.cP 51 1 5) 14 1 [0,85,4]<|
  .o (.bp 85 14) (.agg ⟨h5 4 15⟩) 4 [4]<|
  .o (.bin .neq 85 (.agg ⟨[10,11,12,13]⟩) (.agg ⟨[15,16,17,18]⟩)) 19 1 []<|
  .c6 19 (
   .gJ<|
   .ret (.bool false)) (
   .o (.bin .add 3 5 (I 1)) 20 1 []<|
   .back [20,6])) (
  .gJ<|
  .ret (.bool true)))
theorem dw:fJ Tryz.prog 16 {} [0,1] 2=some t:=gE aw
theorem any (W:au) {jm:U} {l:List bA} (hl:b7 (aG W) 4 ck jm l) {GI:U} {k:List bA} (ag:b7 (aG W) 4 ck GI k) (aq:l.length<=1000000):Calls Tryz.prog 16 #[jm,GI] W λe w'=>e= .returned (.bool (decide (l=k)))/\ch W.heap.size W w':=by
 obtain⟨a,c,rfl⟩:=hl.slice;obtain⟨ej,c2,rfl⟩:=ag.slice;refine n8 (ro:=[⟨dk,.slice a l.length c,l⟩,⟨dk,.slice ej k.length c2,k⟩]) mixed dw [.slice a l.length c,.slice ej k.length c2] (.cons hl (.cons ag (.nil _))) ?_;unfold t;refine bK ?_;refine fV rfl (λh=>e3 ?_) λh=> ?_
 ·exact pq (λe=>h (by rw[e]))
 ·have vM:l.length=k.length:=by omega
  refine u1 Nat (λi=>[I (i:Nat),.bool false]) (λ_=>[]) (λi=>i<=l.length/\∀j,j<i->l.getD j default=k.getD j default) (λi=>l.length-i) 0 J J ⟨Nat.zero_le _,λj hj=>absurd hj (Nat.not_lt_zero j)⟩ (λi af=> ?_);obtain⟨af,bn⟩:=af;refine bK ?_;refine fV rfl (λb8=> ?_) λb8=> ?_
  ·have b8:i<l.length:=by omega
   have Jr:i<k.length:=by omega
   refine mI (K:=dk) (l:=l) (j:=i) J J ?_;refine qB (K:=dk) (l:=l) (j:=i) (o:=0) (c:=ck (l.getD i default)) J J J ik ?_;refine mI (K:=dk) (l:=k) (j:=i) J J ?_;refine qB (K:=dk) (l:=k) (j:=i) (o:=0) (c:=ck (k.getD i default)) J J J ik ?_;refine Wg (b:=decide (l.getD i default=k.getD i default)) J J ((Wu _ _).trans (by rw[Wv])) ?_;refine xJ rfl (λcC=> ?_) λheq=> ?_
   ·refine xL ?_
    refine e3 ?_;exact pq (λe=>cC (by rw[e]))
   ·refine bK ?_
    refine ng (i+1) J J ⟨b8,λj hj=> ?_⟩ ao;rcases Nat.lt_succ_iff_lt_or_eq.1 hj with h1|h1
    ·exact bn j h1
    ·rw[h1];exact heq
  ·refine xL ?_
   refine e3 ?_;rw[gU (Zs vM λj hj=>bn j ao)];rfl
end Kd
end AE
end
end
section
noncomputable section
namespace AE
namespace Zt
def t:bs:=
.o (.len #[26] 3 0) 2 1 [0,3]<|
.o (.len #[26] 3 1) 3 1 [0,3]<|
.o (.bin .neq 3 2 3) 4 1 []<|
.c6 4 (
 .ret (.bool false)) (
 .loop [I 0,.bool false] 2<|
 .o (.len #[26] 3 0) 7 1 [0,3]<|
 .o (.bin .lss 3 5 7) 8 1 []<|
 .c6 8 (
  .o (.cP 26 0 5) 9 1 [0,3,1]<|
  .o (.bp 3 9) 10 1 [1]<|
  .o (.cP 26 1 5) 11 1 [0,3,1]<|
  .o (.bp 3 11) 12 1 [1]<|
  .o (.bin .neq 3 10 12) 13 1 []<|
  .c6 13 (
   .gJ<|
   .ret (.bool false)) (
   .o (.bin .add 3 5 (I 1)) 14 1 []<|
   .back [14,6])) (
  .gJ<|
  .ret (.bool true)))
theorem dw:fJ Tryz.prog 22 {} [0,1] 2=some t:=gE aw
theorem any (W:au) {jm:U} {l:List Int} (hl:b7 (aG W) 1 ih jm l) {GI:U} {k:List Int} (ag:b7 (aG W) 1 ih GI k) (aq:l.length<=1000000):Calls Tryz.prog 22 #[jm,GI] W λe w'=>e= .returned (.bool (decide (l=k)))/\ch W.heap.size W w':=by
 obtain⟨a,c,rfl⟩:=hl.slice;obtain⟨ej,c2,rfl⟩:=ag.slice;refine n8 (ro:=[⟨eT,.slice a l.length c,l⟩,⟨eT,.slice ej k.length c2,k⟩]) mixed dw [.slice a l.length c,.slice ej k.length c2] (.cons hl (.cons ag (.nil _))) ?_;unfold t;refine bK ?_;refine fV rfl (λh=>e3 ?_) λh=> ?_
 ·exact pq (λe=>h (by rw[e]))
 ·have vM:l.length=k.length:=by omega
  refine u1 Nat (λi=>[I (i:Nat),.bool false]) (λ_=>[]) (λi=>i<=l.length/\∀j,j<i->l.getD j default=k.getD j default) (λi=>l.length-i) 0 J J ⟨Nat.zero_le _,λj hj=>absurd hj (Nat.not_lt_zero j)⟩ (λi af=> ?_);obtain⟨af,bn⟩:=af;refine bK ?_;refine fV rfl (λb8=> ?_) λb8=> ?_
  ·have b8:i<l.length:=by omega
   have Jr:i<k.length:=by omega
   refine mI (K:=eT) (l:=l) (j:=i) J J ?_;refine sF (K:=eT) (l:=l) (j:=i) (o:=0) (u:=I (l.getD i default)) J J ?_;refine mI (K:=eT) (l:=k) (j:=i) J J ?_;refine sF (K:=eT) (l:=k) (j:=i) (o:=0) (u:=I (k.getD i default)) J J ?_;refine bK ?_;refine fV rfl (λcC=> ?_) λheq=> ?_
   ·refine xL ?_
    refine e3 ?_;exact pq (λe=>cC (by rw[e]))
   ·refine bK ?_
    refine ng (i+1) J J ⟨b8,λj hj=> ?_⟩ ao;rcases Nat.lt_succ_iff_lt_or_eq.1 hj with h1|h1
    ·exact bn j h1
    ·rw[h1];exact Decidable.not_not.1 heq
  ·refine xL ?_
   refine e3 ?_;rw[gU (Zs vM λj hj=>bn j ao)];rfl
end Zt
namespace Zu
def t:bs:=
.o (.len #[51] 3 0) 2 1 [0,85]<|
.loop [.slice none 0 0,I 0] 2<|
.o (.bin .lss 3 4 2) 5 1 []<|
.c6 5 (
 .o (.cP 51 0 4) 6 1 [0,85,4]<|
 .o (.bp 85 6) (.agg ⟨h5 4 7⟩) 4 [4]<|
 .nE 85<|
 .st 85 11 (.agg ⟨[7,8,9,10]⟩)<|
 .o (.cP 85 11 1) 12 1 [1,4,3,1]<|
 .o (.bp 3 12) 13 1 [1]<|
 .uR 26 3 [13]<|
 .o (.bin .add 3 4 (I 1)) 15 1 []<|
 .back [14,15]) (
 .gJ<|
 .ret 3)
theorem dw:fJ Tryz.prog 23 {marks:=[85]} [0,1] 2=some t:=gE aw
theorem any {W:au} {a0:Option Addr} {dt dc:Nat} {l:List bA} (aA:b_ (aG W) (b3 ([]:List (aF cw)))) (hl:b7 (aG W) 4 ck (.slice a0 dt dc) l) (aJ:dt=l.length) (aq:l.length<=10000) (k:Nat) (ag:k<4):
  gY cw 23 [.slice a0 dt dc,I (k:Nat)] W [] c_ (λy=> .slice y.1 (l.map λx=>AE.bL x k).length y.2) (λy=>[aF.arr eT (.slice y.1 (l.map λx=>AE.bL x k).length y.2) (l.map λx=>AE.bL x k)]):=by
 subst aJ;obtain⟨F,cF⟩:∃F:Nat->List Int,F=λi=>(l.take i).map λx=>AE.bL x k:=⟨_,rfl⟩
 have f0:F 0=[]:=by rw[cF];rfl
 have hz:∀i,i<=l.length->(F i).length=i:=λi af=>by rw[cF];simp [af]
 have akp:F l.length=l.map λx=>AE.bL x k:=by rw[cF];simp
 have fs:∀i,i<l.length->F (i+1)=F i++[AE.bL (l.getD i default) k]:=λi af=>by
  rw[cF];show (l.take (i+1)).map _=(l.take i).map _++[AE.bL (l.getD i default) k];rw[List.take_succ_eq_append_getElem af,List.map_append,dr,fP af];rfl
 rw[<-akp];refine kG (ro:=[⟨dk,.slice a0 l.length dc,l⟩]) mixed dw [.slice a0 l.length dc,I (k:Nat)] aA (fB.ext (.cons hl (.nil _))) ?_;unfold t;refine bK ?_;refine Zo (Nat×c_) (λu=>[.slice u.2.1 (F u.1).length u.2.2,I (u.1:Nat)]) (λu=>[aF.arr eT (.slice u.2.1 (F u.1).length u.2.2) (F u.1)]) (λu=>u.1<=l.length) (λu=>l.length-u.1) (0,none,0) (by rw[f0];rfl) (by rw[f0];exact lf.Zn eT) (Nat.zero_le _) (λu hu=> ?_);obtain⟨i,a,c⟩:=u;have hu:i<=l.length:=hu;dsimp only;have v8:=hz i hu;refine bK ?_;refine fV rfl (λaf=> ?_) λaf=> ?_
 ·have af:i<l.length:=by omega
  refine mI (K:=dk) (l:=l) (j:=i) J J ?_;refine qB (K:=dk) (l:=l) (j:=i) (o:=0) (c:=ck (l.getD i default)) J J J ik ?_;refine wi (z:= .agg ⟨ck z4⟩) (ck z4) aw rfl (λb=>j7) λs5=> ?_
  refine wh (m:=4) (us:=ck (l.getD i default)) (cs':=ck (l.getD i default)) J J gO rfl ?_;refine pS (j:=k) J J ?_;refine nI (u:=I (AE.bL (l.getD i default) k)) rfl has (xW ag) ?_;refine Pc (K:=eT) (l:=F i) [AE.bL (l.getD i default) k] rfl (λa c=>gO) rfl (λej c2=> ?_) (Di (by show _+1<=_;omega)) (by show (_+1)*8<=_;omega);rw[<-fs i af];refine bK ?_;exact akk (u:=(i,a,c)) (i+1,ej,c2) rfl (λM bj=>bj.pick [0] rfl) af (by show l.length-(i+1)<l.length-i;omega)
 ·obtain rfl:i=l.length:=by omega
  refine xL ?_;exact e3 ⟨(a,c),rfl,rfl⟩
theorem to {W:au} {v:U} {l:List bA} {r:List Int} {k:Nat} (e:(l.map λx=>AE.bL x k)=r) (ag:k<4) (aq:l.length<=10000) (aA:b_ (aG W) (b3 ([]:List (aF cw)))) (hl:b7 (aG W) 4 ck v l):
  gY cw 23 [v,I (k:Nat)] W [] c_ (λy=> .slice y.1 r.length y.2) (λy=>[aF.arr eT (.slice y.1 r.length y.2) r]):=by
 subst e;obtain⟨a,c,rfl⟩:=hl.slice;exact any aA hl rfl aq k ag
end Zu
namespace Rc
def t:bs:=
.oL 26 [I 3,I 0,I 0,I 0]<|
.ret (.agg ⟨[I 0,I 0,I 0,I 1,I 1,I 4,0]⟩)
theorem dw:fJ Tryz.prog 20 {marks:=[26]} [] 0=some t:=gE aw
theorem any {W:au} (aA:b_ (aG W) (b3 ([]:List (aF cw)))):gY cw 20 [] W [] c_ (λy=>jW DA (.slice y.1 [(3:Int),0,0,0].length y.2)) (λy=>[aF.arr eT (.slice y.1 [(3:Int),0,0,0].length y.2) [3,0,0,0]]):=by
 refine kG (ro:=[]) mixed dw [] aA fB.none ?_;unfold t;refine zs (K:=eT) [3,0,0,0] J J (λa c=>j7) (λa c=> ?_) ⟨I 0,aw⟩;exact e3 ⟨(a,c),rfl,rfl⟩
end Rc
namespace Zv
def t:bs:=
.ret (.agg ⟨[cp [97,105,114],.bool false,.bool false,.bool false,I 1,I 0,I 0,I 0]⟩)
theorem dw:fJ Tryz.prog 47 {} [] 0=some t:=gE aw
theorem any {W:au}:qF cw 47 [] W (M.val Q7):=by
 refine n8 (ro:=[]) mixed dw [] (.nil _) ?_;unfold t;exact e3 rfl
end Zv
namespace Rd
def t:bs:=
.c 47 [] (.agg ⟨[0,1,2,3,4,5,6,7]⟩) 8<|
.oL 29 [.agg ⟨[0,1,2,3,4,5,6,7]⟩,.agg ⟨[cp [115,116,111,110,101],.bool true,.bool false,.bool false,I 16,I 0,I 0,I 0]⟩,.agg ⟨[cp [103,108,97,115,115],.bool true,.bool false,.bool false,I 1,I 0,I 0,I 0]⟩,.agg ⟨[cp [108,97,109,112],.bool true,.bool false,.bool false,I 16,I 15,I 14,I 10]⟩,.agg ⟨[cp [115,97,110,100],.bool true,.bool false,.bool true,I 16,I 0,I 0,I 0]⟩,.agg ⟨[cp [119,97,116,101,114],.bool false,.bool true,.bool false,I 3,I 0,I 0,I 0]⟩,.agg ⟨[cp [108,101,97,118,101,115],.bool true,.bool false,.bool false,I 2,I 0,I 0,I 0]⟩,.agg ⟨[cp [101,109,98,101,114],.bool true,.bool false,.bool false,I 16,I 9,I 3,I 0]⟩,.agg ⟨[cp [102,111,103],.bool false,.bool false,.bool false,I 2,I 0,I 0,I 0]⟩]<|
.ret 8
theorem dw:fJ Tryz.prog 21 {marks:=[29]} [] 0=some t:=gE aw
theorem any {W:au} (aA:b_ (aG W) (b3 ([]:List (aF cw)))):gY cw 21 [] W [] c_ (λy=> .slice y.1 qQ.length y.2) (λy=>[aF.arr mo (.slice y.1 qQ.length y.2) qQ]):=by
 refine kG (ro:=[]) mixed dw [] aA fB.none ?_;unfold t;refine qE (hA Q7) (λw _=>Zv.any) rfl ?_;refine zs (K:=mo) qQ J J (λa c=>j7) (λa c=> ?_) ⟨M.val default,aw⟩;exact e3 ⟨(a,c),rfl,rfl⟩
end Rd
end AE
end
end
section
noncomputable section
namespace AE
namespace Zw
def t:bs:=
.call 20 [] (.agg ⟨[0,1,2,3,4,5,6]⟩) 7<|
.call 21 [] 7 1<|
.call 7 [.agg ⟨[0,1,2,3,4,5,6]⟩,7,.slice none 0 0,I 2] (.tuple ⟨[8,9]⟩) 2<|
.call 20 [] (.agg ⟨[10,11,12,13,14,15,16]⟩) 7<|
.call 21 [] 17 1<|
.call 7 [.agg ⟨[10,11,12,13,14,15,16]⟩,17,.slice none 0 0,I 0] (.tuple ⟨[18,19]⟩) 2<|
.o (.bin .neq 35 9 (I 0)) 20 1 []<|
.N3 20<|
.o (.bin .eql 34 8 (.pointer none)) 21 1 []<|
.N3 21<|
.o (.bin .neq 35 19 (I 1)) 22 1 []<|
.N3 22<|
.call 13 [8] 23 1<|
.call 17 [8] 24 1<|
.call 12 [8] 25 1<|
.pN 25<|
.call 23 [24,I 0] 26 1<|
.oL 26 [I 15,I 14,I 13,I 12]<|
.c 22 [26,27] 28 1<|
.pN 28<|
.call 23 [24,I 2] 29 1<|
.oL 26 [I 10,I 9,I 8,I 7]<|
.c 22 [29,30] 31 1<|
.pN 31<|
.call 23 [24,I 3] 32 1<|
.oL 26 [I 0,I 15,I 15,I 15]<|
.c 22 [32,33] 34 1<|
.call 24 [8,.agg ⟨[I 0,I 0,I 0]⟩,I 0] 35 1<|
.call 13 [8] 36 1<|
.call 17 [8] 37 1<|
.o (.bin .eql 35 35 (I 0)) 38 1 []<|
.pN 38<|
.o (.bin .gtr 3 36 (I 0)) 39 1 []<|
.pN 39<|
.call 23 [37,I 0] 40 1<|
.oL 26 [I 0,I 0,I 0,I 0]<|
.c 22 [40,41] 42 1<|
.pN 42<|
.call 23 [37,I 3] 43 1<|
.oL 26 [I 15,I 15,I 15,I 15]<|
.c 22 [43,44] 45 1<|
.call 24 [8,.agg ⟨[I 0,I 0,I 1]⟩,I 3] 46 1<|
.call 25 [8,.agg ⟨[I 0,I 0,I 1]⟩,.bool true] 47 1<|
.call 24 [8,.agg ⟨[I 0,I 0,I 1]⟩,I 3] 48 1<|
.call 24 [8,.agg ⟨[I 0,I 0,I 4]⟩,I 0] 49 1<|
.pN 34<|
.pN 45<|
.o (.bin .eql 35 46 (I 0)) 50 1 []<|
.pN 50<|
.o (.bin .eql 35 47 (I 0)) 51 1 []<|
.pN 51<|
.o (.bin .eql 35 48 (I 16)) 52 1 []<|
.pN 52<|
.o (.bin .eql 35 49 (I 1)) 53 1 []<|
.pN 53<|
.call 12 [8] 54 1<|
.o (.un .not 54) 55 1 []<|
.pN 55<|
.call 26 [8,I 0] 56 1<|
.o (.bin .eql 3 56 (I 0)) 57 1 []<|
.pN 57<|
.call 26 [8,I 1] 58 1<|
.o (.bin .eql 3 58 (I 1)) 59 1 []<|
.pN 59<|
.call 15 [8] 60 1<|
.o (.len #[30] 3 60) 61 1 [0,4]<|
.o (.bin .eql 3 61 (I 4)) 62 1 []<|
.pN 62<|
.call 14 [8] (.agg ⟨[63,64,65,66,67,68,69]⟩) 7<|
.o (.cP 26 69 (I 1)) 70 1 [0,3,1]<|
.o (.bp 3 70) 71 1 [1]<|
.o (.bin .eql 3 71 (I 3)) 72 1 []<|
.ret 72
theorem dw:fJ Tryz.prog 6 {nF:=[13,7,24,25,26,14,17,15,12,23,20,21],marks:=[26],qq:=[(20,false),(21,false),(22,false),(25,true),(28,true),(31,true),(38,true),(39,true),(42,true),(34,true),(45,true),(50,true),(51,true),(52,true),(53,true),(55,true),(57,true),(59,true),(62,true)]} [] 0=some t:=gE aw
theorem any (W:au) (b0:ly (aG W)):Calls Tryz.prog 6 #[] W λe w'=>e= .returned (.bool true)/\ch W.heap.size W w':=by
 refine n8 (ro:=[]) mixed dw [] (.nil _) ?_;unfold t;have GJ:∀{L:List (aF cw)} {w:au} {v1 fi:U} {l:List Int},kV W [] [] L w->kW L (aF.arr eT v1 l)->kW L (aF.arr eT fi l)->l.length<=1000000->Calls cw 22 #[v1,fi] w λe w'=>e= .returned (.bool true)/\ch w.heap.size w w':=λ{L w v1 fi l} hw h1 ae aq=>Ka (Zt.any w ((iO.arr (K:=eT) h1).at hw) ((iO.arr (K:=eT) ae).at hw) aq) rfl
 have gJ:∀{L:List (aF cw)} {w:au} {v:U} {l:List bA} (r:List Int) (k:Nat),(l.map λx=>AE.bL x k)=r->k<4->l.length=4->kV W [] [] L w->b_ (aG w) (b3 ([]:List (aF cw)))->kW L (aF.arr dk v l)->gY cw 23 [v,I (k:Nat)] w [] c_ (λy=> .slice y.1 r.length y.2) (λy=>[aF.arr eT (.slice y.1 r.length y.2) r]):=λ{L w v l} r k e ag aq hw aA h=>Zu.to e ag (by rw[aq];decide) aA ((iO.arr (K:=dk) h).at hw)
 obtain⟨l1,h1⟩:∃l,sW.u.ar=l:=⟨_,rfl⟩;obtain⟨Re,ay⟩:∃l,vq.u.ar=l:=⟨_,rfl⟩;have Zx:=aj8;have Zy:=aj9;have Zz:=aj';have ZA:=aj_;have ZB:=aka;have q1:=Zf;have b9:=Zg;rw[h1] at Zx Zy Zz q1;rw[ay] at ZA ZB b9;refine wH (λy=>[I 0,I 0,I 0,I 1,I 1,I 4,.slice y.1 [(3:Int),0,0,0].length y.2]) (λw _ aA=>Rc.any aA) λez=> ?_
 refine wH (λy=>[.slice y.1 qQ.length y.2]) (λw _ aA=>Rd.any aA) λjC=> ?_
 refine wH (R:=λy:Nat×dh=>c5 y.1 y.2 Ae) (v:=λy=> .tuple ⟨[b2 y.1,I 0]⟩) (λy=>[b2 y.1,I 0]) (λw hw aA=>Q9 (cells:=[3,0,0,0]) (b:=DA) (table:=qQ) (known:=[]) aA ((iO.arr (K:=eT) (v:= .slice ez.1 [(3:Int),0,0,0].length ez.2) (l:=[3,0,0,0]) has).at hw) ((iO.arr (K:=mo) (v:= .slice jC.1 qQ.length jC.2) (l:=qQ) has).at hw) (b7.nil _ _) (b0.BO hw) cv rfl cv cv Za) λy=> ?_
 refine wH (λy=>[I 0,I 0,I 0,I 1,I 1,I 4,.slice y.1 [(3:Int),0,0,0].length y.2]) (λw _ aA=>Rc.any aA) λc2=> ?_
 refine wH (λy=>[.slice y.1 qQ.length y.2]) (λw _ aA=>Rd.any aA) λhT=> ?_
 refine akl (v:= .tuple ⟨[.pointer none,I 1]⟩) [.pointer none,I 1] (λw hw aA=>Q' (cells:=[3,0,0,0]) (b:=DA) (table:=qQ) (known:=[]) aA ((iO.arr (K:=eT) (v:= .slice c2.1 [(3:Int),0,0,0].length c2.2) (l:=[3,0,0,0]) has).at hw) ((iO.arr (K:=mo) (v:= .slice hT.1 qQ.length hT.2) (l:=qQ) has).at hw) (b7.nil _ _) (b0.BO hw) cv rfl cv cv aj0) ?_;refine Bl J J ?_;refine xK rfl ?_;refine Ju rfl ?_;refine xK rfl ?_;refine Bl J J ?_;refine xK rfl ?_;refine yp 2 (e':=sW) (λw _ aA=>GH aA Q8 J J) λbt=> ?_
 refine Kb 2 (K:=dk) (l:=l1) (λd=>[.slice d.1 l1.length d.2]) (λw _ aA=>by
  have:=QX w aA (by rw[Zf];decide);rw[h1] at this
  exact this) λnR=> ?_
 refine Zp 2 (v:= .bool true) (λw _ aA=>aki aA aj6) ?_;refine mJ rfl ?_;refine wH (λy=>[.slice y.1 [(15:Int),14,13,12].length y.2]) (λw hw aA=>gJ [15,14,13,12] 0 Zx cv q1 hw aA has) λe1=> ?_
 refine zs (K:=eT) [15,14,13,12] J J (λa c=>j7) (λdD jK=> ?_) ⟨I 0,aw⟩;refine iY (v:= .bool true) (λw hw=>GJ (l:=[15,14,13,12]) hw has has cv) ?_;refine mJ rfl ?_;refine wH (λy=>[.slice y.1 [(10:Int),9,8,7].length y.2]) (λw hw aA=>gJ [10,9,8,7] 2 Zy cv q1 hw aA has) λe2=> ?_
 refine zs (K:=eT) [10,9,8,7] J J (λa c=>j7) (λej jY=> ?_) ⟨I 0,aw⟩;refine iY (v:= .bool true) (λw hw=>GJ (l:=[10,9,8,7]) hw has has cv) ?_;refine mJ rfl ?_;refine wH (λy=>[.slice y.1 [(0:Int),15,15,15].length y.2]) (λw hw aA=>gJ [0,15,15,15] 3 Zz cv q1 hw aA has) λdH=> ?_
 refine zs (K:=eT) [0,15,15,15] J J (λa c=>j7) (λa3 rY=> ?_) ⟨I 0,aw⟩;refine iY (v:= .bool true) (λw hw=>GJ (l:=[0,15,15,15]) hw has has cv) ?_;refine yp 2 (e':=J9) (v:=I 0) (λw _ aA=>J_ aA Zb rfl aj2) λeH=> ?_
 refine yp 2 (e':=vq) (λw _ aA=>GH aA Zc J J) λiG=> ?_
 refine Kb 2 (K:=dk) (l:=Re) (λd=>[.slice d.1 Re.length d.2]) (λw _ aA=>by
  have:=QX w aA (by rw[Zg];decide);rw[ay] at this
  exact this) λpt=> ?_
 refine bK ?_;refine mJ rfl ?_;refine bK ?_;refine mJ (congrArg Value.bool (gU n2)) ?_;refine wH (λy=>[.slice y.1 [(0:Int),0,0,0].length y.2]) (λw hw aA=>gJ [0,0,0,0] 0 ZA cv b9 hw aA has) λjD=> ?_
 refine zs (K:=eT) [0,0,0,0] J J (λa c=>j7) (λa4 t_=> ?_) ⟨I 0,aw⟩;refine iY (v:= .bool true) (λw hw=>GJ (l:=[0,0,0,0]) hw has has cv) ?_;refine mJ rfl ?_;refine wH (λy=>[.slice y.1 [(15:Int),15,15,15].length y.2]) (λw hw aA=>gJ [15,15,15,15] 3 ZB cv b9 hw aA has) λoP=> ?_
 refine zs (K:=eT) [15,15,15,15] J J (λa c=>j7) (λKs GX=> ?_) ⟨I 0,aw⟩;refine iY (v:= .bool true) (λw hw=>GJ (l:=[15,15,15,15]) hw has has cv) ?_;refine yp 2 (e':=BN) (v:=I 0) (λw _ aA=>J_ (p:=(0,0,1)) aA Zd rfl akb) λl2=> ?_
 refine yp 2 (e':=oi) (v:=I 0) (λw _ aA=>akh (p:=(0,0,1)) aA Ze rfl akc) λtT=> ?_
 refine yp 2 (e':=oi) (v:=I 16) (λw _ aA=>J_ (p:=(0,0,1)) aA J' akd Zh) λalV=> ?_
 refine yp 2 (e':=oi) (v:=I 1) (λw _ aA=>J_ (p:=(0,0,4)) aA J' ake Zi) λalW=> ?_
 refine mJ rfl ?_;refine mJ rfl ?_;refine bK ?_;refine mJ rfl ?_;refine bK ?_;refine mJ rfl ?_;refine bK ?_;refine mJ rfl ?_;refine bK ?_;refine mJ rfl ?_;refine Zp 2 (v:= .bool false) (λw _ aA=>akj aA aj7) ?_;refine bK ?_;refine mJ rfl ?_;refine yp 2 (e':=oi) (v:=I 0) (λw _ aA=>Zl (k:=0) aA J' J J) λalX=> ?_
 refine bK ?_;refine mJ rfl ?_;refine yp 2 (e':=po) (v:=I 1) (λw _ aA=>Zl (k:=1) aA J' rfl (by rw[akf];rfl)) λalY=> ?_
 refine bK ?_;refine mJ rfl ?_;refine Kb 2 (K:=h7) (l:=po.known) (λd=>[.slice d.1 po.known.length d.2]) (λw _ aA=>QY w aA (by rw[Zj];decide)) λqR=> ?_
 refine bK ?_;refine mJ (congrArg Value.bool (gU (by rw[Zj];rfl))) ?_;refine Kb 2 (K:=eT) (l:=po.cells) (λd=>[I po.b.1,I po.b.2.1,I po.b.2.2.1,I po.b.2.2.2.1,I po.b.2.2.2.2.1,I po.b.2.2.2.2.2,.slice d.1 po.cells.length d.2]) (λw _ aA=>YW w aA (by rw[Zk];decide)) λsX=> ?_
 have alZ:1<po.cells.length:=by rw[Zk];decide
 refine mI (K:=eT) (l:=po.cells) (j:=1) J J ?_;refine sF (K:=eT) (l:=po.cells) (j:=1) (o:=0) (u:=I 3) rfl (by rw[akg];rfl) ?_;refine bK ?_;exact e3 rfl
end Zw
end AE
end
end
namespace AE
namespace Rf
noncomputable def body:Code:=(Tryz.f9.body).getD .skip
def N:Nat:=33
noncomputable abbrev bV:=gu Tryz.prog Tryz.f9
def a6:b6:={sl:=dn [(1,.agg ⟨[1,2,3,4,5,6]⟩),(0,0)],ms:=[],A:=start}
def cq:bC:=[(.bin .eql 3 1 (I 1),.bool true)]
theorem bk:ml (at' 33 cq [] body a6)=some (24,[0,.agg ⟨[3,4,5]⟩,2]):=aw
abbrev jn:=at' 33 cq [] body a6
def e9:List bM:=[]
def fo:aT:=dn [(4,I 0)]
def fD:aT:=iZ 33 fo 14 7
theorem dH:dy (ke Tryz.prog jn) fo e9=some []:=aw
def fp:gm:=(body,[1,0,1,4,1,2,0],6)
theorem lN:bV (eS 33 [] [] fp (db fD e9))=some 7:=aw
def ew:bC:=[(.bin .eql 3 1 (I 1),.bool false),
 (.bin .eql 3 1 (I 2),.bool true)]
theorem sS:ml (at' 33 ew [] body a6)=some (25,[0,.agg ⟨[3,4,5]⟩,6]):=aw
abbrev oQ:=at' 33 ew [] body a6
def kZ:List bM:=[]
def jV:aT:=dn [(4,I 0)]
def hV:aT:=iZ 33 jV 22 8
theorem og:dy (ke Tryz.prog oQ) jV kZ=some []:=aw
def j6:gm:=(body,[1,0,1,4,1,3,1,2,0],6)
theorem Qn:bV (eS 33 [] [] j6 (db hV kZ))=some 8:=aw
def eP:bC:=[(.bin .eql 3 1 (I 1),.bool false),
 (.bin .eql 3 1 (I 2),.bool false),
 (.bin .eql 3 1 (I 3),.bool true)]
theorem ve:ml (at' 33 eP [] body a6)=some (26,[0,2]):=aw
abbrev vd:=at' 33 eP [] body a6
def nM:List bM:=[]
def pj:aT:=dn [(4,I 0)]
def iH:aT:=iZ 33 pj 28 9
theorem vg:dy (ke Tryz.prog vd) pj nM=some []:=aw
def kU:gm:=(body,[1,0,1,4,1,3,1,3,1,2],4)
theorem BD:bV (eS 33 [] [] kU (db iH nM))=some (I 0):=aw
def gL:bC:=[(.bin .eql 3 1 (I 1),.bool false),
 (.bin .eql 3 1 (I 2),.bool false),
 (.bin .eql 3 1 (I 3),.bool false),
 (.bin .eql 3 1 (I 4),.bool true)]
theorem BE:ml (at' 33 gL [] body a6)=some (13,[0]):=aw
abbrev BC:=at' 33 gL [] body a6
def qK:List bM:=[]
def vf:aT:=dn [(4,I 0)]
def mc:aT:=iZ 33 vf 32 10
theorem Gu:dy (ke Tryz.prog BC) vf qK=some []:=aw
def pZ:gm:=(body,[1,0,1,4,1,3,1,3,1,3,1,2],2)
theorem akq:bV (eS 33 [] [] pZ (db mc qK))=some (I 0):=aw
def iz:bC:=[(.bin .eql 3 1 (I 1),.bool false),
 (.bin .eql 3 1 (I 2),.bool false),
 (.bin .eql 3 1 (I 3),.bool false),
 (.bin .eql 3 1 (I 4),.bool false)]
theorem Qz:bV (at' 33 iz [] body a6)=some (I 0):=aw
@[reducible] noncomputable def cl (en:bN) (iA:Nat) (x:gT):List U:=[gF iA 0,I x.1,I x.2.1,I x.2.2.1,I x.2.2.2.1,I x.2.2.2.2.1,.bool x.2.2.2.2.2,I (k4 en.b en.most (x.2.2.1,x.2.2.2.1,x.2.2.2.2.1) en.u.reqs x.2.1),I (jz en.b en.most (x.2.2.1,x.2.2.2.1,x.2.2.2.2.1) en.u.reqs),I (((hR en.table en.b x.2.1.toNat en.u).1:Nat):Int),I (((hR en.table en.b (gR en.b en.u) en.u).1:Nat):Int)]
theorem any (W:au) {en:bN} {iA:Nat} {wz:dh} (lF:b_ (aG W) [eO iA wz en]) (x:gT) (er:e4 en):Calls Tryz.prog 9 #[gF iA 0,Y.val x] W λe w'=>(∃A:dh,e= .returned (I (ni en x))/\dp (aG W) [eO iA wz en] (aG w') [eO iA A (jB en x)])/\ch 0 W w':=by
 refine tJ (cl en iA x) body a6 N [aj 0,.agg ⟨[aj 1,aj 2,aj 3,aj 4,aj 5,aj 6]⟩] Tryz.func9 λa ai=> ?_
 letI:=du ai;have aA:=bW.start W _ lF;by_cases aJ:x.1=1
 ·refine bO cq [] (ah bD bc) bd ?_ ai
  obtain⟨sV,iF⟩:=jk (i_ en (x.2.2.1,x.2.2.2.1,x.2.2.2.2.1) x.2.1);refine nJ (Y:=dh) (bx:=λbZ=>(cl en iA x)) aA [0] (λbZ=>[eO iA (bZ) sV]) (λ_=>[]) bk dH (ht fD 7) (jw:=λw hw dI av=>by rw[iF];exact YX _ av (x.2.2.1,x.2.2.2.1,x.2.2.2.2.1) x.2.1 er.kt.box er.BL er.BM er.J2) (rest:= ?_);intro lV BJ dB gd w ai;replace dB:=dB.zv;letI:=du ai;refine gP (gQ fp) [] [] bc bd ?_ ai;exact bT lN λw2 br=>(by first|(obtain⟨q1,aE⟩:=Ds (e:=en) (x:=x) bB;rw[q1,aE];subst iF;exact⟨_,rfl,(dB.done br)⟩)|(obtain⟨q1,aE⟩:=Dt (e:=en) (x:=x) bB bB;rw[q1,aE];subst iF;exact⟨_,rfl,(dB.done br)⟩)|(obtain⟨q1,aE⟩:=Du (e:=en) (x:=x) bB bB bB;rw[q1,aE];subst iF;exact⟨_,rfl,(dB.done br)⟩)|(obtain⟨q1,aE⟩:=Dv (e:=en) (x:=x) bB bB bB bB;rw[q1,aE];subst iF;exact⟨_,rfl,(dB.done br)⟩)|(obtain⟨q1,aE⟩:=Dw (e:=en) (x:=x) bB bB bB bB;rw[q1,aE];exact⟨_,rfl,(dB.done br)⟩))
 ·by_cases h1:x.1=2
  ·refine bO ew [] (ah a8 (ah bD bc)) bd ?_ ai
   obtain⟨sV,iF⟩:=jk (jX en (x.2.2.1,x.2.2.2.1,x.2.2.2.2.1) x.2.2.2.2.2);refine nJ (Y:=dh) (bx:=λbZ=>(cl en iA x)) aA [0] (λbZ=>[eO iA (bZ) sV]) (λ_=>[]) sS og (ht hV 8) (jw:=λw hw dI av=>by rw[iF];exact YY _ av (x.2.2.1,x.2.2.2.1,x.2.2.2.2.1) x.2.2.2.2.2 er.kt.box er.BL er.BM er.J2) (rest:= ?_);intro lV BJ dB gd w ai;replace dB:=dB.zv;letI:=du ai;refine gP (gQ j6) [] [] bc bd ?_ ai;exact bT Qn λw2 br=>(by first|(obtain⟨q1,aE⟩:=Ds (e:=en) (x:=x) bB;rw[q1,aE];subst iF;exact⟨_,rfl,(dB.done br)⟩)|(obtain⟨q1,aE⟩:=Dt (e:=en) (x:=x) bB bB;rw[q1,aE];subst iF;exact⟨_,rfl,(dB.done br)⟩)|(obtain⟨q1,aE⟩:=Du (e:=en) (x:=x) bB bB bB;rw[q1,aE];subst iF;exact⟨_,rfl,(dB.done br)⟩)|(obtain⟨q1,aE⟩:=Dv (e:=en) (x:=x) bB bB bB bB;rw[q1,aE];subst iF;exact⟨_,rfl,(dB.done br)⟩)|(obtain⟨q1,aE⟩:=Dw (e:=en) (x:=x) bB bB bB bB;rw[q1,aE];exact⟨_,rfl,(dB.done br)⟩))
  ·by_cases ae:x.1=3
   ·refine bO eP [] (ah a8 (ah a8 (ah bD bc))) bd ?_ ai
    obtain⟨sV,iF⟩:=jk (lX en x.2.1);refine nJ (Y:=dh) (bx:=λbZ=>(cl en iA x)) aA [0] (λbZ=>[eO iA (bZ) sV]) (λ_=>[]) ve vg (ht iH 9) (jw:=λw hw dI av=>by rw[iF];exact YU _ av x.2.1 er.kt er.Dr) (rest:= ?_);intro lV BJ dB gd w ai;replace dB:=dB.zv;letI:=du ai;refine gP (gQ kU) [] [] bc bd ?_ ai;exact bT BD λw2 br=>(by first|(obtain⟨q1,aE⟩:=Ds (e:=en) (x:=x) bB;rw[q1,aE];subst iF;exact⟨_,rfl,(dB.done br)⟩)|(obtain⟨q1,aE⟩:=Dt (e:=en) (x:=x) bB bB;rw[q1,aE];subst iF;exact⟨_,rfl,(dB.done br)⟩)|(obtain⟨q1,aE⟩:=Du (e:=en) (x:=x) bB bB bB;rw[q1,aE];subst iF;exact⟨_,rfl,(dB.done br)⟩)|(obtain⟨q1,aE⟩:=Dv (e:=en) (x:=x) bB bB bB bB;rw[q1,aE];subst iF;exact⟨_,rfl,(dB.done br)⟩)|(obtain⟨q1,aE⟩:=Dw (e:=en) (x:=x) bB bB bB bB;rw[q1,aE];exact⟨_,rfl,(dB.done br)⟩))
   ·by_cases ay:x.1=4
    ·refine bO gL [] (ah a8 (ah a8 (ah a8 (ah bD bc)))) bd ?_ ai
     obtain⟨sV,iF⟩:=jk (fS en);refine nJ (Y:=dh) (bx:=λbZ=>(cl en iA x)) aA [0] (λbZ=>[eO iA (bZ) sV]) (λ_=>[]) BE Gu (ht mc 10) (jw:=λw hw dI av=>by rw[iF];exact YT _ av er.kt er.Dr) (rest:= ?_);intro lV BJ dB gd w ai;replace dB:=dB.zv;letI:=du ai;refine gP (gQ pZ) [] [] bc bd ?_ ai;exact bT akq λw2 br=>(by first|(obtain⟨q1,aE⟩:=Ds (e:=en) (x:=x) bB;rw[q1,aE];subst iF;exact⟨_,rfl,(dB.done br)⟩)|(obtain⟨q1,aE⟩:=Dt (e:=en) (x:=x) bB bB;rw[q1,aE];subst iF;exact⟨_,rfl,(dB.done br)⟩)|(obtain⟨q1,aE⟩:=Du (e:=en) (x:=x) bB bB bB;rw[q1,aE];subst iF;exact⟨_,rfl,(dB.done br)⟩)|(obtain⟨q1,aE⟩:=Dv (e:=en) (x:=x) bB bB bB bB;rw[q1,aE];subst iF;exact⟨_,rfl,(dB.done br)⟩)|(obtain⟨q1,aE⟩:=Dw (e:=en) (x:=x) bB bB bB bB;rw[q1,aE];exact⟨_,rfl,(dB.done br)⟩))
    ·refine bO iz [] (ah a8 (ah a8 (ah a8 (ah a8 bc)))) bd ?_ ai
     exact bT Qz λw2 br=>(by first|(obtain⟨q1,aE⟩:=Ds (e:=en) (x:=x) bB;rw[q1,aE];subst iF;exact⟨_,rfl,((aA.pick [0] rfl).done br)⟩)|(obtain⟨q1,aE⟩:=Dt (e:=en) (x:=x) bB bB;rw[q1,aE];subst iF;exact⟨_,rfl,((aA.pick [0] rfl).done br)⟩)|(obtain⟨q1,aE⟩:=Du (e:=en) (x:=x) bB bB bB;rw[q1,aE];subst iF;exact⟨_,rfl,((aA.pick [0] rfl).done br)⟩)|(obtain⟨q1,aE⟩:=Dv (e:=en) (x:=x) bB bB bB bB;rw[q1,aE];subst iF;exact⟨_,rfl,((aA.pick [0] rfl).done br)⟩)|(obtain⟨q1,aE⟩:=Dw (e:=en) (x:=x) bB bB bB bB;rw[q1,aE];exact⟨_,rfl,((aA.pick [0] rfl).done br)⟩))
end Rf
end AE
namespace AE
def Ke (N R:Nat):Nat:=361*N+(365*N+2)*(R-1)
structure vr (b:bF) (N:Nat) (e:bN) (dQ R i:Nat):Prop where
 ok:e4 e
 reqs:e.u.reqs.length<=i
 cS:1<=R
 dL:R<=i+1
 box:e.b=b
 w:dQ+vo e<=Ke N R
variable {b:bF} {N dQ R i:Nat} {e:bN}
theorem vr.zp (h:vr b N e dQ R i) (n:Int):vr b N (lX e n) (dQ+yo e n) R (i+1)/\yo e n<=n.toNat/\(yo e n<n.toNat->pn (lX e n))/\dQ+yo e n<=Ke N R:=by
 obtain⟨q1,aE,b9,ey,hv⟩:=h.ok.zp n;have ae:=h.w;have ay:=h.reqs;have bE:=h.dL;exact⟨⟨q1,ao,h.cS,ao,h.box,ao⟩,aE,b9,ao⟩
theorem vr.set (h:vr b N e dQ R i):vr b N (fS e) (dQ+vp e) R (i+1)/\pn (fS e)/\dQ+vp e<=Ke N R:=by
 obtain⟨q1,aE,ey,hv⟩:=h.ok.set;have ae:=h.w;have ay:=h.reqs;have bE:=h.dL;exact⟨⟨q1,ao,h.cS,ao,h.box,ao⟩,aE,ao⟩
theorem vr.skip (h:vr b N e dQ R i):vr b N e dQ R (i+1):=by
 have ay:=h.reqs;have bE:=h.dL;exact⟨h.ok,ao,h.cS,ao,h.box,h.w⟩
theorem vr.begin {cells:List Int} {table:List cr} {known:List Bool} {most:Int} (h:nh b cells table known most) (aq:cells.length<=10000):vr b cells.length (jI b cells table known most) 0 1 0:=by
 obtain⟨q1,aE⟩:=GG h aq;refine⟨q1,bY _,bY _,bY _,rfl,?_⟩;unfold Ke;omega
end AE
namespace AE
theorem ZC {e e':bN} (h:e4 e) (eW:e4 e') (s:pn e) (e6:pn e') (ad:e'.b=e.b) (aI:e'.table=e.table) (al:e'.cells=e.cells) (ag:e'.known=e.known):e'.u.ar=e.u.ar:=by
 obtain⟨f,_,_⟩:=h.full s;obtain⟨iC,_,_⟩:=eW.full e6;rw[ad,aI,al,ag] at iC;have hl:e.u.ar.length=(fQ e.b).N:=h.kt.Bw.trans h.kt.N.symm;have fa:e'.u.ar.length=(fQ e.b).N:=by rw[<-ad];exact eW.kt.Bw.trans eW.kt.N.symm
 apply List.ext_getElem (fa.trans hl.symm);intro i h1 ae;apply bA.ext';intro c akr;have:=iC.unique f i c (hl▸ae) akr;unfold cU at this;rw[dr,dr,fP h1,fP ae] at this;exact this
theorem ZD {e:bN} {p:dU} {c:Int} (h1:p2 c) (ae:cO p e.b) (ay:((e.u.reqs.length:Nat):Int)<e.most):k4 e.b e.most p e.u.reqs c=0:=by
 unfold k4 jz;rw[aN h1,aN ae,aO ao]
theorem ZE {e:bN} {p:dU} (ae:cO p e.b) (ay:((e.u.reqs.length:Nat):Int)<e.most):jz e.b e.most p e.u.reqs=0:=by
 unfold jz;rw[aN ae,aO ao]
theorem aks {e:bN} {p:dU} {c:Int} (h:k4 e.b e.most p e.u.reqs c=0):(i_ e p c).cells=e.cells.set (cc e.b p) c:=by
 rw[(J8 h).2.2.2]
theorem akt {e:bN} {p:dU} {k:Bool} (h:jz e.b e.most p e.u.reqs=0):(jX e p k).known=e.known.set (cc e.b p) k:=by
 rw[(Q3 h).2.2]
def aku (e:bN) (p:dU) (c c2 n:Int):bN:=fS (i_ (lX (i_ e p c) n) p c2)
structure akv (e e':bN):Prop where
 ok:e4 e'
 st:pn e'
 b:e'.b=e.b
 most:e'.most=e.most
 table:e'.table=e.table
 cells:e'.cells=e.cells
 known:e'.known=e.known
 ar:e'.u.ar=e.u.ar
def qS (b:bF) (cells:List Int) (table:List cr) (known:List Bool):bN:=fS (jI b cells table known 10)
structure akw (b:bF) (cells:List Int) (e:bN):Prop where
 ok:e4 e
 st:pn e
 b:e.b=b
 most:e.most=10
 al0:e.known.length=cells.length
 akx:e.u.ar.length=cells.length
 cells:e.cells=cells
theorem ZF {b:bF} {cells:List Int} {table:List cr} {known:List Bool} {most:Int} (h:nh b cells table known most) (aq:cells.length<=10000):okB b/\cells.length=(dZ b).toNat:=by
 obtain⟨_,⟨ae,_⟩,_⟩:=J1 h.1;have h1:=(GG (most:=most) h aq).1.BL;exact⟨ae,h1⟩
theorem ZG:∀{l:List Int},oS l<0->∀i,i<l.length->mL (l.getD i default)
 |[],_,i,af=>absurd af (Nat.not_lt_zero i)
 |c::r,h,i,af=>by
  unfold oS at h;split at h
  ·rename_i al
   split at h
   ·rename_i hr
    cases i with
    |zero=>exact al
    |succ i=>exact ZG hr i (Nat.lt_of_succ_lt_succ af)
   ·omega
  ·cases h
def sY (b:bF) (cells:List Int) (table:List cr) (known:List Bool) (p:dU) (cell n:Int):bN:=aku (qS b cells table known) p cell (cells.getD (cc b p) default) n
structure al1 (b:bF) (cells:List Int) (table:List cr) (known:List Bool) (p:dU) (cell n:Int):Prop where
 box:okB b
 ZH:e4 (jI b cells table known 10)
 dQ:akw b cells (qS b cells table known)
 lt:cc b p<cells.length
 mw:cc b p<(qS b cells table known).known.length
 ib:e4 (i_ (qS b cells table known) p cell)
 kz:e4 (lX (i_ (qS b cells table known) p cell) n)
 ud:e4 (i_ (lX (i_ (qS b cells table known) p cell) n) p (cells.getD (cc b p) default))
 dD:k4 (qS b cells table known).b (qS b cells table known).most p (qS b cells table known).u.reqs cell=0
 ej:k4 (lX (i_ (qS b cells table known) p cell) n).b (lX (i_ (qS b cells table known) p cell) n).most p (lX (i_ (qS b cells table known) p cell) n).u.reqs (cells.getD (cc b p) default)=0
 kb:akv (qS b cells table known) (sY b cells table known p cell n)
 akx:(sY b cells table known p cell n).u.ar.length=cells.length
 dc:cells.length<=120
 K:∀k df,df=(qS b cells table known).known.getD (cc b p) default->
  e4 (jX (sY b cells table known p cell n) p k)/\e4 (lX (jX (sY b cells table known p cell n) p k) n)/\e4 (jX (lX (jX (sY b cells table known p cell n) p k) n) p df)/\
  jz (sY b cells table known p cell n).b (sY b cells table known p cell n).most p (sY b cells table known p cell n).u.reqs=0/\
  jz (lX (jX (sY b cells table known p cell n) p k) n).b (lX (jX (sY b cells table known p cell n) p k) n).most p (lX (jX (sY b cells table known p cell n) p k) n).u.reqs=0/\
  (fS (jX (lX (jX (sY b cells table known p cell n) p k) n) p df)).u.ar=(qS b cells table known).u.ar/\(fS (jX (lX (jX (sY b cells table known p cell n) p k) n) p df)).u.ar.length=cells.length
end AE
namespace AE
theorem ZI {X:Int} {a b c d:Int} (ha:0<=a) (aky:a<X) (al:0<=c) (akz:c<X) (h:b*X+a=d*X+c):b=d/\a=c:=by
 have iU:X≠0:=by omega
 have h1:(b*X+a)/X=b:=by
  rw[Int.add_comm,Int.add_mul_ediv_right _ _ iU,Int.ediv_eq_zero_of_lt ha aky,Int.zero_add]
 have ae:(d*X+c)/X=d:=by
  rw[Int.add_comm,Int.add_mul_ediv_right _ _ iU,Int.ediv_eq_zero_of_lt al akz,Int.zero_add]
 have ad:b=d:=by rw[<-h1,<-ae,h]
 subst ad;exact⟨rfl,ao⟩
theorem ZJ {b:bF} (ad:okB b) {p q:dU} (hp:cO p b) (a1:cO q b) (h:cc b p=cc b q):p=q:=by
 have h1:=By ad hp;have ae:=By ad a1;rw[h] at h1;have ay:wm b p=wm b q:=h1.trans ae.symm;unfold wm at ay;rw[aN hp,aN a1] at ay;have aP:hG b:=by
  unfold cO at hp;unfold hG;omega
 have av:bu b=(b.2.2.2.1-b.1,b.2.2.2.2.1-b.2.1,b.2.2.2.2.2-b.2.2.1):=aN aP;rw[av] at ay;unfold cO at hp a1;obtain⟨e1,e2⟩:=ZI ao (by show _<b.2.2.2.1-b.1;omega) ao (by show _<b.2.2.2.1-b.1;omega) ay;obtain⟨dH,jD⟩:=ZI ao (by show _<b.2.2.2.2.1-b.2.1;omega) ao (by show _<b.2.2.2.2.1-b.2.1;omega) e1;obtain⟨hi,gi,q'⟩:=p;obtain⟨q1,aE,b9⟩:=q;simp only at e2 dH jD;have g1:hi=q1:=by omega
 have g2:gi=aE:=by omega
 have g3:q'=b9:=by omega
 rw[g1,g2,g3]
section
variable {α:Type} (ok:gT->Prop) [DecidablePred ok] (eA:gT->Nat) (GK:gT->α)
def oj (l:List α) (x:gT):List α:=if ok x then l.set (eA x) (GK x) else l
theorem Rg {i:Nat} {v:α}:∀(r:List gT) (l:List α),(∀y∈r,ok y->eA y≠i)->r.foldl (oj ok eA GK) (l.set i v)=(r.foldl (oj ok eA GK) l).set i v
 |[],_,_=>rfl
 |y::r,l,h=>by
  rw[List.foldl_cons,List.foldl_cons];have e1:oj ok eA GK (l.set i v) y=(oj ok eA GK l y).set i v:=by
   unfold oj;by_cases ho:ok y
   ·rw[aN ho,aN ho,List.set_comm _ _ (Ne.symm (h y List.mem_cons_self ho))]
   ·rw[aO ho,aO ho]
  rw[e1];exact Rg r _ λz bG=>h z (List.mem_cons_of_mem _ bG)
end
def yq (b:bF) (x:gT):Prop:=x.1=1/\p2 x.2.1/\cO (lk x) b
def wI (b:bF) (x:gT):Prop:=x.1=2/\cO (lk x) b
instance (b:bF) (x:gT):Decidable (yq b x):=by unfold yq;infer_instance
instance (b:bF) (x:gT):Decidable (wI b x):=by unfold wI;infer_instance
def zQ (b:bF) (x:gT):Prop:=(x.1=1->p2 x.2.1/\cO (lk x) b)/\(x.1=2->cO (lk x) b)
instance (b:bF) (x:gT):Decidable (zQ b x):=by unfold zQ;infer_instance
def DB (b:bF) (x:gT):Nat:=cc b (lk x)
abbrev ZK (b:bF) (l:List gT) (c:List Int):List Int:=l.foldl (oj (yq b) (DB b) (λx=>x.2.1)) c
abbrev ZL (b:bF) (l:List gT) (c:List Bool):List Bool:=l.foldl (oj (wI b) (DB b) (λx=>x.2.2.2.2.2)) c
abbrev Kf (x:gT):Int×dU:=(x.1,lk x)
theorem Kg {e:bN} {x:gT} (hm:((e.u.reqs.length:Nat):Int)<e.most):(jB e x).cells=oj (yq e.b) (DB e.b) (λx=>x.2.1) e.cells x/\(jB e x).known=oj (wI e.b) (DB e.b) (λx=>x.2.2.2.2.2) e.known x/\(x.1<3->(ni e x=0↔zQ e.b x)):=by
 by_cases h1:x.1=1
 ·obtain⟨q1,aE⟩:=Ds (e:=e) (x:=x) h1
  have ag:¬wI e.b x:=λh=>by have:=h.1;omega
  have al:ni e x=0↔p2 x.2.1/\cO (lk x) e.b:=by
   rw[aE];exact⟨λh=>⟨(J8 h).1,(J8 h).2.1⟩,λh=>ZD h.1 h.2 hm⟩
  unfold oj;rw[aO ag,q1];refine⟨?_,rfl,λ_=>al.trans ⟨λh=>⟨λ_=>h,λae=>by omega⟩,λh=>h.1 h1⟩⟩;by_cases ho:yq e.b x
  ·rw[aN ho]
   exact aks (ZD ho.2.1 ho.2.2 hm)
  ·rw[aO ho,J7]
   intro aJ;rw[<-aE] at aJ;exact ho ⟨h1,al.1 aJ⟩
 ·have ZM:¬yq e.b x:=λh=>h1 h.1
  by_cases ae:x.1=2
  ·obtain⟨q1,aE⟩:=Dt (e:=e) (x:=x) h1 ae
   have al:ni e x=0↔cO (lk x) e.b:=by
    rw[aE];exact⟨λh=>(Q3 (k:=false) h).1,λh=>ZE h hm⟩
   unfold oj;rw[aO ZM,q1];refine⟨rfl,?_,λ_=>al.trans ⟨λh=>⟨λae=>absurd ae h1,λ_=>h⟩,λh=>h.2 ae⟩⟩;by_cases ho:wI e.b x
   ·rw[aN ho]
    exact akt (ZE ho.2 hm)
   ·rw[aO ho,Y']
    intro aJ;rw[<-aE] at aJ;exact ho ⟨ae,al.1 aJ⟩
  ·have ig:¬wI e.b x:=λh=>ae h.1
   have a_:zQ e.b x:=⟨λh=>absurd h h1,λh=>absurd h ae⟩;unfold oj;rw[aO ZM,aO ig];by_cases ay:x.1=3
   ·obtain⟨q1,aE⟩:=Du (e:=e) (x:=x) h1 ae ay
    rw[q1,aE];exact⟨rfl,rfl,λ_=>⟨λ_=>a_,λ_=>rfl⟩⟩
   ·by_cases bE:x.1=4
    ·obtain⟨q1,aE⟩:=Dv (e:=e) (x:=x) h1 ae ay bE
     rw[q1,aE];exact⟨rfl,rfl,λ_=>⟨λ_=>a_,λ_=>rfl⟩⟩
    ·obtain⟨q1,aE⟩:=Dw (e:=e) (x:=x) h1 ae ay bE
     rw[q1,aE];exact⟨rfl,rfl,λ_=>⟨λ_=>a_,λ_=>rfl⟩⟩
structure sZ (bk e:bN) (n:Nat):Prop where
 ok:e4 e
 b:e.b=bk.b
 table:e.table=bk.table
 most:e.most=bk.most
 len:e.u.reqs.length<=n
theorem sZ.do {bk e:bN} {n:Nat} (h:sZ bk e n) (aq:n<10000) (x:gT):sZ bk (jB e x) (n+1):=by
 obtain⟨cV,df,qo⟩:=ajW e x;obtain⟨q1,aE⟩:=h.ok.do (Nat.lt_of_le_of_lt h.len aq) x
 exact⟨q1,cV.trans h.b,df.trans h.table,qo.trans h.most,Nat.le_trans aE (Nat.add_le_add_right h.len 1)⟩
theorem sZ.mono {bk e:bN} {n m:Nat} (h:sZ bk e n) (aq:n<=m):sZ bk e m:=⟨h.ok,h.b,h.table,h.most,Nat.le_trans h.len aq⟩
theorem sZ.room {bk e:bN} {n:Nat} (h:sZ bk e n) (hm:((n:Nat):Int)<bk.most):((e.u.reqs.length:Nat):Int)<e.most:=by
 have:=h.len;rw[h.most];omega
structure GL (bk e:bN) (l:List gT):Prop where
 odd:sZ bk e l.length
 cells:e.cells=ZK bk.b l bk.cells
 known:e.known=ZL bk.b l bk.known
theorem GL.zero {bk:bN} (h:e4 bk) (hr:bk.u.reqs.length=0):GL bk bk []:=⟨⟨h,rfl,rfl,rfl,by rw[hr];exact Nat.zero_le _⟩,rfl,rfl⟩
theorem GL.next {bk e:bN} {l:List gT} (h:GL bk e l) (hm:((l.length:Nat):Int)<bk.most) (aq:l.length<10000) (x:gT):GL bk (jB e x) (l++[x]):=by
 obtain⟨q1,aE,_⟩:=Kg (x:=x) (h.odd.room hm);refine⟨by rw[List.length_append];exact h.odd.do aq x,?_,?_⟩
 ·rw[q1,h.odd.b,h.cells]
  show _=List.foldl _ _ (l++[x]);rw[List.foldl_append];rfl
 ·rw[aE,h.odd.b,h.known]
  show _=List.foldl _ _ (l++[x]);rw[List.foldl_append];rfl
def BP (b:bF):List gT->List (Int×dU)
 |[]=>[]
 |x::r=>if x.1<3/\Kf x∉BP b r/\zQ b x then BP b r++[Kf x] else BP b r
theorem Rh {b:bF} {q:Int×dU}:∀r:List gT,q∈BP b r↔∃y∈r,y.1<3/\Kf y=q/\zQ b y
 |[]=>⟨λh=>absurd h List.not_mem_nil,λ⟨_,h,_⟩=>absurd h List.not_mem_nil⟩
 |x::r=>by
  have cd:=Rh (b:=b) (q:=q) r;unfold BP;constructor
  ·intro h
   split at h
   ·rename_i ak
    rcases List.mem_append.1 h with h|h
    ·obtain⟨y,bg,ae⟩:=cd.1 h
     exact⟨y,List.mem_cons_of_mem _ bg,ae⟩
    ·rw[List.mem_singleton] at h
     exact⟨x,List.mem_cons_self,ak.1,h.symm,ak.2.2⟩
   ·obtain⟨y,bg,ae⟩:=cd.1 h
    exact⟨y,List.mem_cons_of_mem _ bg,ae⟩
  ·rintro ⟨y,bg,h1,ae,ay⟩
   by_cases im:q∈BP b r
   ·split
    ·exact List.mem_append_left _ im
    ·exact im
   ·rcases List.mem_cons.1 bg with rfl|bg
    ·rw[aN ⟨h1,by rw[ae];exact im,ay⟩,ae]
     exact List.mem_append_right _ List.mem_cons_self
    ·exact absurd (cd.2 ⟨y,bg,h1,ae,ay⟩) im
structure GM (bk e:bN) (r:List gT):Prop where
 odd:sZ bk e r.length
 cells:e.cells=ZK bk.b r bk.cells
 known:e.known=ZL bk.b r bk.known
theorem GM.zero {bk:bN} (h:e4 bk) (hr:bk.u.reqs.length=0):GM bk bk []:=⟨⟨h,rfl,rfl,rfl,by rw[hr];exact Nat.zero_le _⟩,rfl,rfl⟩
theorem ZN {b:bF} {y:gT}:(yq b y->zQ b y)/\(wI b y->zQ b y):=
 ⟨λh=>⟨λ_=>h.2,λae=>by have:=h.1;omega⟩,λh=>⟨λae=>by have:=h.1;omega,λ_=>h.2⟩⟩
theorem GM.next {bk e:bN} {r:List gT} (h:GM bk e r) (ad:okB bk.b) (hm:((r.length:Nat):Int)<bk.most) (aq:r.length<10000) {x:gT} (ak:x.1<3) (ag:Kf x∉BP bk.b r):GM bk (jB e x) (x::r):=by
 obtain⟨q1,aE,_⟩:=Kg (x:=x) (h.odd.room hm);refine⟨h.odd.do aq x,?_,?_⟩
 ·rw[q1,h.odd.b,h.cells]
  show _=List.foldl _ _ (x::r);rw[List.foldl_cons];by_cases ho:yq bk.b x
  ·unfold oj
   rw[aN ho,aN ho];refine(Rg _ _ _ r _ λy bg yr he=>ag ((Rh r).2 ⟨y,bg,by have:=yr.1;omega,?_,ZN.1 yr⟩)).symm;have:=ZJ ad yr.2.2 ho.2.2 he;show (y.1,lk y)=(x.1,lk x);rw[this,yr.1,ho.1]
  ·have e1:∀l:List Int,oj (yq bk.b) (DB bk.b) (λx=>x.2.1) l x=l:=λl=>aO ho
   rw[e1,e1]
 ·rw[aE,h.odd.b,h.known]
  show _=List.foldl _ _ (x::r);rw[List.foldl_cons];by_cases ho:wI bk.b x
  ·unfold oj
   rw[aN ho,aN ho];refine(Rg _ _ _ r _ λy bg yr he=>ag ((Rh r).2 ⟨y,bg,by have:=yr.1;omega,?_,ZN.2 yr⟩)).symm;have:=ZJ ad yr.2 ho.2 he;show (y.1,lk y)=(x.1,lk x);rw[this,yr.1,ho.1]
  ·have e1:∀l:List Bool,oj (wI bk.b) (DB bk.b) (λx=>x.2.2.2.2.2) l x=l:=λl=>aO ho
   rw[e1,e1]
end AE
namespace AE
def ZO (b:bF) (x:gT):Int:=if x.1=1 then (if p2 x.2.1 then (if cO (lk x) b then 0 else 1) else 1) else if x.1=2 then (if cO (lk x) b then 0 else 1) else 0
theorem ZP {e:bN} {x:gT} (hm:((e.u.reqs.length:Nat):Int)<e.most):ni e x=ZO e.b x:=by
 have h:∀p,jz e.b e.most p e.u.reqs=if cO p e.b then 0 else 1:=λp=>by
  unfold jz;rw[aO (show ¬e.most<=((e.u.reqs.length:Nat):Int) by omega)]
 unfold ni ZO k4;rw[h]
theorem akA {l:List Int} {c:Int} (al:mL c):∀{i:Nat},(∀x∈l,mL x)->∀x∈l.set i c,mL x:=λh x ak=>by
 rcases List.mem_or_eq_of_mem_set ak with h1|h1
 ·exact h x h1
 ·rw[h1];exact al
theorem akB {l:List Int} (h:oS l<0):∀x∈l,mL x:=λx ak=>by
 obtain⟨i,af,rfl⟩:=List.mem_iff_getElem.1 ak;have:=ZG h i af;rw[dr,fP af] at this;exact this
structure rR (bk e f:bN) (n:Nat):Prop where
 tU:sZ bk e n
 of:sZ bk f n
 cells:f.cells=e.cells
 known:f.known=e.known
 Ri:∀c∈e.cells,mL c
theorem rR.zero {bk:bN} (h:e4 bk) (hr:bk.u.reqs.length=0) (hm:∀c∈bk.cells,mL c):rR bk bk bk 0:=
 have o:sZ bk bk 0:=⟨h,rfl,rfl,rfl,by rw[hr];exact bY _⟩
 ⟨o,o,rfl,rfl,hm⟩
theorem rR.next {bk e f:bN} {n:Nat} (h:rR bk e f n) (hm:((n:Nat):Int)<bk.most) (aq:n<10000) (x:gT):
  ni f x=ni e x/\rR bk (jB e x) (jB f x) (n+1)/\(¬x.1<3->rR bk (jB e x) f (n+1)):=by
 have re:=h.tU.room hm;have ZQ:=h.of.room hm;have ad:f.b=e.b:=h.of.b.trans h.tU.b.symm;obtain⟨ez,cV,_⟩:=Kg (x:=x) re;obtain⟨c2,df,_⟩:=Kg (x:=x) ZQ;have ZR:∀c∈(jB e x).cells,mL c:=by
  rw[ez];unfold oj;split
  ·rename_i ho
   exact akA ho.2.1 h.Ri
  ·exact h.Ri
 refine⟨by rw[ZP re,ZP ZQ,ad],⟨h.tU.do aq x,h.of.do aq x,by rw[ez,c2,ad,h.cells],by rw[cV,df,ad,h.known],ZR⟩,λak=>⟨h.tU.do aq x,h.of.mono (Nat.le_succ _),?_,?_,ZR⟩⟩
 ·rw[ez,h.cells]
  unfold oj;rw[aO (λq=>by have:=q.1;omega)]
 ·rw[cV,h.known]
  unfold oj;rw[aO (λq=>by have:=q.1;omega)]
theorem rR.end {b:bF} {cells:List Int} {table:List cr} {known:List Bool} {e f:bN} {n:Nat} (al:nh b cells table known 100) (aq:cells.length<=10000) (h:rR (jI b cells table known 100) e f n):
  nh b (fS e).cells table (fS e).known 1/\(fS e).b=b/\(fS e).table=table/\e4 (fS e)/\e4 (fS f)/\e4 (jI b (fS e).cells table (fS e).known 1)/\(fS e).cells.length=cells.length/\(fS e).known.length=cells.length/\(fS f).u.ar=(fS e).u.ar/\(fS (jI b (fS e).cells table (fS e).known 1)).u.ar=(fS e).u.ar/\sq (fQ b) (hQ table (fS e).cells (fS e).known) (cU (fS e).u.ar):=by
 obtain⟨ib,s1,_⟩:=h.tU.ok.set;obtain⟨kz,s2,_⟩:=h.of.ok.set;have ad:(fS e).b=b:=h.tU.b;have aI:(fS e).table=table:=h.tU.table;have Mb:(fS e).cells=e.cells:=rfl;have aC:(fS e).cells.length=(dZ b).toNat:=by rw[ib.BL,ad]
 obtain⟨q1,aE⟩:=ZF al aq;have hl:(fS e).cells.length=cells.length:=aC.trans aE.symm;have ag:(fS e).known.length=cells.length:=ib.BM.trans hl;have az:nh b (fS e).cells table (fS e).known 1:=by
  obtain⟨g1,⟨g2,g3,g4,jQ,g6⟩,g7⟩:=J1 al.1;refine⟨aN ⟨g1,⟨g2,g3,g4,by rw[hl];exact jQ,?_⟩,.inr (by rw[ag,hl])⟩,cv,cv⟩;rw[Mb,Qa h.Ri];decide
 obtain⟨ud,_⟩:=GG az (by rw[hl];exact aq);obtain⟨akC,AZ,_⟩:=ud.set;refine⟨az,ad,aI,ib,kz,ud,hl,ag,?_,?_,?_⟩
 ·exact ZC ib kz s1 s2 (h.of.b.trans h.tU.b.symm) (h.of.table.trans h.tU.table.symm) h.cells h.known
 ·refine ZC ib akC s1 AZ ad.symm aI.symm rfl ?_
  show sT (fS e).known (fS e).cells.length=(fS e).known;unfold sT;split
  ·rename_i aJ
   have:(fS e).cells.length=0:=by omega
   rw[this,List.eq_nil_of_length_eq_zero aJ];rfl
  ·rfl
 ·have:=(ib.full s1).1
  rwa [ad,aI] at this
end AE
namespace AE
theorem ZS {b:bF} {k:Nat} (ag:k<(dZ b).toNat):cO (dV b ((k:Nat):Int)) b/\cc b (dV b ((k:Nat):Int))=k:=by
 obtain⟨bq,bJ,aZ,av,zA,h1,ae,ay⟩:=JC ag;obtain⟨ez,c2,c3⟩:=CY zA;rw[Pv av zA];obtain⟨q1,aE⟩:=JD av h1 ae ay ez c2 c3;exact⟨q1,aE.trans (UY bq bJ k)⟩
def GN (F:Int) (o l:bA):bA:=pJ λc=>max (bL o c) (bL l c-F)
def pv (F:Int) (ar:List bA) (l:List (Nat×Int)) (o:bA):bA:=l.foldl (λo p=>GN F o (ar.getD p.1 default)) o
theorem Rj {F:Int} {ar:List bA} {c:Nat} (al:c<4):∀(l:List (Nat×Int)) (o:bA),bL (pv F ar l o) c=l.foldl (λa p=>max a (cU ar p.1 c-F)) (bL o c)
 |[],o=>rfl
 |p::l,o=>by
  show bL (pv F ar l (GN F o (ar.getD p.1 default))) c=_;rw[Rj al l,List.foldl_cons];congr 1;unfold GN;rw[h0 al];rfl
def oU (b:bF) (sh:List Bool) (p:dU):Bool:=if cO p b then sh.getD (cc b p) default else false
def s0 (b:bF) (ar:List bA) (sh:List Bool) (k:Nat):Int:=if b.2.2.2.2.2<=(eN b k 5).2.2 then 15 else if oU b sh (eN b k 5)=true then (ar.getD (cc b (eN b k 5)) default).2.2.2 else 0
def tV (F up:Int) (o:bA):bA:=(o.1,o.2.1,o.2.2.1,max (if up=15/\F=1 then 15 else o.2.2.2) (up-F))
def qT (m:cr):bA:=(max 0 (dj m 0),max 0 (dj m 1),max 0 (dj m 2),0)
def wJ (table:List cr) (lit:List Int) (ar:List bA) (sh:List Bool) (b:bF) (k:Nat):bA:=
 if sh.getD k default=true then tV (dz table (lit.getD k default)).2.2.2.2.1 (s0 b ar sh k) (pv (dz table (lit.getD k default)).2.2.2.2.1 ar (c7 b sh k 6) (qT (dz table (lit.getD k default)))) else z4
theorem Rk {α:Type} (f g:α->Int):∀(l:List α) (a o:Int),0<=a->0<=o->(∀p∈l,g p=max 0 (f p))->l.foldl (λa p=>max a (g p)) (max o a)=max o (l.foldl (λa p=>max a (f p)) a)
 |[],a,o,_,_,_=>rfl
 |p::l,a,o,ha,ho,h=>by
  rw[List.foldl_cons,List.foldl_cons,h p List.mem_cons_self];have:=Rk f g l (max a (f p)) o ao ho λq a1=>h q (List.mem_cons_of_mem _ a1)
  rw[<-this];congr 1;omega
theorem ZT {α:Type} (f:α->Int) (l:List α) {a B:Int} (ha:0<=a) (dI:a<=B) (h:∀p∈l,f p<=B):0<=l.foldl (λa p=>max a (f p)) a/\l.foldl (λa p=>max a (f p)) a<=B:=by
 refine⟨?_,(CR f l a B).2 ⟨dI,h⟩⟩;have:=((CR f l a _).1 (Int.le_refl _)).1;omega
theorem ZU {bq bJ aZ k:Nat}:∀j,j<=5->∀p∈uM bq bJ aZ k j,p.2<=0
 |0,_,p,h=>absurd h List.not_mem_nil
 |j+1,hj,p,h=>by
  rcases List.mem_append.1 h with h|h
  ·exact ZU j ao p h
  ·unfold su at h
   match j,hj with
   |0,_|1,_|2,_|3,_|4,_=>
    simp only at h;split at h
    ·rw[List.mem_singleton] at h
     subst h
     first|exact Int.le_refl 0|exact(by decide:(-1:Int)<=0)
    ·exact absurd h List.not_mem_nil
theorem akD {b:bF} {sh:List Bool} {k:Nat}:∀p∈c7 b sh k 5,¬0<p.2:=λp h=>by
 have:=ZU 5 (bY _) p (List.mem_filter.1 h).1;omega
theorem ZV {l F:Int} {c:Nat} {d:Bool} (h:¬(c=3/\d=true)):given l F c d=max 0 (l-F):=by
 unfold given;rw[aO λq=>h ⟨q.2.1,q.1⟩]
theorem akE {table:List cr} {lit:List Int} {ar:List bA} {sh:List Bool} {b:bF} {k:Nat} (ad:okB b) (ag:k<sh.length) (hl:sh.length=(dZ b).toNat) (er:∀c,c<3->0<=dj (dz table (lit.getD k default)) c) (cF:1<=(dz table (lit.getD k default)).2.2.2.2.1) (hL:∀n,cU ar n 3<=15):
  wJ table lit ar sh b k=sK table lit ar sh b k:=by
 unfold wJ sK;split
 ·rename_i av
  obtain⟨m,hm⟩:∃m,m=dz table (lit.getD k default):=⟨_,rfl⟩;rw[<-hm] at er cF ⊢;obtain⟨F,DC⟩:∃F,F=m.2.2.2.2.1:=⟨_,rfl⟩;rw[<-DC] at cF ⊢;refine bA.ext' λc al=> ?_
  rw[PC al];by_cases ay:c=3
  ·subst ay
   have iQ:∀p∈c7 b sh k 5,given (cU ar p.1 3) F 3 (decide (0<p.2))=max 0 (cU ar p.1 3-F):=λp hp=>ZV λq=>akD p hp (of_decide_eq_true q.2)
   obtain⟨A,j3⟩:∃A,A=(c7 b sh k 5).foldl (λa p=>max a (cU ar p.1 3-F)) 0:=⟨_,rfl⟩;obtain⟨a0,akF⟩:=ZT (λp:Nat×Int=>cU ar p.1 3-F) (c7 b sh k 5) (a:=0) (B:=15) (Int.le_refl 0) cv (λp _=>by have:=hL p.1;omega);rw[<-j3] at a0 akF;obtain⟨O,cm⟩:∃O,O=bL (Dh m (sJ b k)) 3:=⟨_,rfl⟩;have oD:O=if sJ b k then given 15 m.2.2.2.2.1 3 true else 0:=cm
   rw[<-DC] at oD;have ph:0<=O:=by
    rw[oD];split
    ·exact UC _ _ _ _
    ·exact Int.le_refl _
   have hx:(c7 b sh k 5).foldl (λa p=>max a (given (cU ar p.1 3) F 3 (decide (0<p.2)))) O=max O A:=by
    rw[j3,<-Rk (λp:Nat×Int=>cU ar p.1 3-F) (λp=>given (cU ar p.1 3) F 3 (decide (0<p.2))) _ 0 O (Int.le_refl 0) ph iQ];congr 1;omega
   have akG:bL (qT m) 3=0:=rfl;rw[<-cm];show max (if s0 b ar sh k=15/\F=1 then 15 else bL (pv F ar (c7 b sh k 6) (qT m)) 3) (s0 b ar sh k-F)=_;rw[Rj al,akG];have bG:(eN b k 5).2.2=(dV b ((k:Nat):Int)).2.2+1:=rfl;have r9:∀x:Int,given x F 3 true=if x=15/\F=1 then 15 else max 0 (x-F):=λx=>by
    unfold given;by_cases h:x=15/\F=1
    ·rw[aN h,aN ⟨rfl,rfl,h.1,h.2⟩]
    ·rw[aO h,aO λq=>h ⟨q.2.2.1,q.2.2.2⟩]
   have aC:0<=((k:Nat):Int)/\((k:Nat):Int)<dZ b:=Pu ag hl;have im:=(ZS (b:=b) (k:=k) ao).1;have al2:(dV b ((k:Nat):Int)).2.2<b.2.2.2.2.2:=by
    unfold cO at im;omega
   have qY:(eN b k 5).2.2=b.2.2.2.2.2-1+1\/cO (eN b k 5) b:=by
    by_cases h:(eN b k 5).2.2<b.2.2.2.2.2
    ·right
     unfold cO at im ⊢;show b.1<=(dV b ((k:Nat):Int)).1/\(dV b ((k:Nat):Int)).1<_/\_<=(dV b ((k:Nat):Int)).2.1/\(dV b ((k:Nat):Int)).2.1<_/\_<=(dV b ((k:Nat):Int)).2.2+1/\(dV b ((k:Nat):Int)).2.2+1<_;omega
    ·left
     omega
   by_cases aI:sJ b k
   ·have wU:(dV b ((k:Nat):Int)).2.2=b.2.2.2.2.2-1:=aI
    have akH:¬cO (eN b k 5) b:=λh=>by
     unfold cO at h;omega
    have pI:s0 b ar sh k=15:=aN ao;rw[PA ag hl cv akH,hx,<-j3,pI];rw[aN aI,r9] at oD;by_cases h1:F=1
    ·rw[aN ⟨rfl,h1⟩] at oD ⊢
     omega
    ·rw[aO λq=>h1 q.2] at oD ⊢
     omega
   ·have wU:¬(dV b ((k:Nat):Int)).2.2=b.2.2.2.2.2-1:=aI
    have af:cO (eN b k 5) b:=qY.resolve_left λh=>wU ao
    have ZW:¬b.2.2.2.2.2<=(eN b k 5).2.2:=by omega
    have tw:oU b sh (eN b k 5)=sh.getD (cc b (eN b k 5)) default:=aN af;rw[aO aI] at oD;by_cases Kh:sh.getD (cc b (eN b k 5)) default=true
    ·obtain⟨x,ak⟩:∃x,x=cU ar (cc b (eN b k 5)) 3:=⟨_,rfl⟩
     have al3:x<=15:=ak▸hL _;have pI:s0 b ar sh k=x:=by
      unfold s0;rw[aO ZW,aN (tw.trans Kh),ak];rfl
     rw[Py ag hl cv af Kh,List.foldl_append,List.foldl_append,hx,<-j3,pI];show max (if x=15/\F=1 then 15 else max A (cU ar (cc b (eN b k 5)) 3-F)) (x-F)=max (max O A) (given (cU ar (cc b (eN b k 5)) 3) F 3 true);rw[<-ak,r9];split
     ·omega
     ·omega
    ·have pI:s0 b ar sh k=0:=by
      unfold s0;rw[aO ZW,aO (λq=>Kh (tw▸q))]
     rw[Pz ag hl cv af Kh,hx,<-j3,pI,aO (λq=>absurd q.1 cv)];omega
  ·have Ki:c<3:=by omega
   have h1:bL (tV F (s0 b ar sh k) (pv F ar (c7 b sh k 6) (qT m))) c=bL (pv F ar (c7 b sh k 6) (qT m)) c:=by
    match c,Ki with
    |0,_|1,_|2,_=>rfl
   have ae:bL (qT m) c=max 0 (dj m c):=by
    match c,Ki with
    |0,_|1,_|2,_=>rfl
   have bE:bL (Dh m (sJ b k)) c=dj m c:=by
    match c,Ki with
    |0,_|1,_|2,_=>rfl
   have he:=er c Ki;rw[h1,Rj al,ae,bE];have:=Rk (λp:Nat×Int=>cU ar p.1 c-F) (λp=>given (cU ar p.1 c) F c (decide (0<p.2))) (c7 b sh k 6) (max 0 (dj m c)) 0 ao (Int.le_refl 0) (λp _=>ZV λq=>ay q.1);have cn:=(ZT (λp:Nat×Int=>cU ar p.1 c-F) (c7 b sh k 6) (a:=max 0 (dj m c)) (B:=max (max 0 (dj m c)) ((c7 b sh k 6).foldl (λa p=>max a (cU ar p.1 c-F)) (max 0 (dj m c)))) ao ao (λp hp=>by
    have:=((CR (λp:Nat×Int=>cU ar p.1 c-F) (c7 b sh k 6) (max 0 (dj m c)) _).1 (Int.le_refl _)).2 p hp
    omega)).1
   rw[show max 0 (max 0 (dj m c))=dj m c by omega] at this;rw[this];omega
 ·rfl
end AE
section
noncomputable section
namespace AE
namespace Kj
def t:bs:=
.c 62 [.agg ⟨[6,7,8]⟩,.agg ⟨[0,1,2,3,4,5]⟩] 9 1<|
.o (.un .not 9) 10 1 []<|
.c6 10 (
 .ret (I (-1))) (
 .c 77 [.agg ⟨[0,1,2,3,4,5]⟩] (.agg ⟨[11,12,13]⟩) 3<|
 .c 104 [.agg ⟨[6,7,8]⟩,.agg ⟨[0,1,2]⟩] (.agg ⟨[14,15,16]⟩) 3<|
 .o (.bin .mul 3 12 16) 17 1 []<|
 .o (.bin .add 3 15 17) 18 1 []<|
 .o (.bin .mul 3 11 18) 19 1 []<|
 .o (.bin .add 3 14 19) 20 1 []<|
 .ret 20)
theorem dw:fJ Tryz.prog 64 {} [.agg ⟨[0,1,2,3,4,5]⟩,.agg ⟨[6,7,8]⟩] 9=some t:=gE aw
theorem any (W:au) (b:bF) (p:dU) (ad:okB b):Calls Tryz.prog 64 #[X.val b,P.val p] W λe w'=>e= .returned (I (wm b p))/\ch W.heap.size W w':=by
 refine n8 (ro:=[]) mixed dw [I b.1,I b.2.1,I b.2.2.1,I b.2.2.2.1,I b.2.2.2.2.1,I b.2.2.2.2.2,I p.1,I p.2.1,I p.2.2] (.nil _) ?_;unfold t;refine iY (v:= .bool (decide (cO p b))) (λw _=>Ra.any w p b) ?_;refine Js rfl ?_;refine xJ rfl (λh=>e3 ?_) λh=> ?_
 ·rw[FW h]
  rfl
 ·have hp:=n' h
  have dN:=ad;unfold okB at dN;rw[akm h];obtain⟨q1,aE,b9,ey⟩:=akn ad h;refine qE [I (bu b).1,I (bu b).2.1,I (bu b).2.2] (λw _=>Kc.any w b ad) rfl ?_;refine qE [I (p.1-b.1),I (p.2.1-b.2.1),I (p.2.2-b.2.2.1)] (λw _=>Rb.any (p:=p) (q:=(b.1,b.2.1,b.2.2.1)) ao (by dsimp only;omega)) rfl ?_;refine FO J J ?_;refine O' J J ?_;refine FO J J ?_;refine O' J J ?_;exact e3 rfl
end Kj
end AE
end
end
section
noncomputable section
namespace AE
namespace ZX
def t:bs:=
.c 64 [.agg ⟨[0,1,2,3,4,5]⟩,.agg ⟨[7,8,9]⟩] 10 1<|
.o (.bin .lss 3 10 (I 0)) 11 1 []<|
.c6 11 (
 .ret (I 0)) (
 .o (.cP 26 6 10) 12 1 [0,3,1]<|
 .o (.bp 3 12) 13 1 [1]<|
 .ret 13)
theorem dw:fJ Tryz.prog 80 {} [.agg ⟨[0,1,2,3,4,5,6]⟩,.agg ⟨[7,8,9]⟩] 10=some t:=gE aw
theorem any {W:au} {b:bF} {a:Option Addr} {n c:Nat} {cells:List Int} (hl:b7 (aG W) 1 ih (.slice a n c) cells) (p:dU) (ad:okB b) (hp:cO p b) (b8:cc b p<cells.length):qF cw 80 [jW b (.slice a n c),P.val p] W (I (cells.getD (cc b p) default)):=by
 refine n8 (ro:=[⟨eT,.slice a n c,cells⟩]) mixed dw [I b.1,I b.2.1,I b.2.2.1,I b.2.2.2.1,I b.2.2.2.2.1,I b.2.2.2.2.2,.slice a n c,I p.1,I p.2.1,I p.2.2] (.cons hl (.nil _)) ?_;unfold t;refine iY (v:=I (cc b p:Nat)) (λw _=>by rw[<-By ad hp];exact Kj.any w b p ad) ?_;refine bK ?_;refine fV rfl (λh=>absurd h ao) λ_=> ?_
 refine bK ?_;exact e3 rfl
end ZX
end AE
end
end
section
noncomputable section
namespace AE
abbrev ZY:aH:=23
abbrev DE:aH:=64
theorem akI:u2 cw ZY 3 24=true:=aw
abbrev nj:hP cw:=xO (α:=dU) default ZY 3 24 xQ akI
namespace Rl
def t:bs:=
.o (.bin .lss 3 1 (I 0)) 2 1 []<|
.c6 2 (
 .ret (.agg ⟨[cp [],.bool false,.bool false,.bool false,I 16,I 0,I 0,I 0]⟩)) (
 .o (.len #[29] 3 0) 3 1 [0,66]<|
 .o (.bin .geq 3 1 3) 4 1 []<|
 .c6 4 (
  .ret (.agg ⟨[cp [],.bool false,.bool false,.bool false,I 16,I 0,I 0,I 0]⟩)) (
  .o (.cP 29 0 1) 5 1 [0,66,8]<|
  .o (.bp 66 5) (.agg ⟨h5 8 6⟩) 8 [8]<|
  .ret (.agg ⟨[6,7,8,9,10,11,12,13]⟩)))
theorem dw:fJ Tryz.prog 111 {} [0,1] 2=some t:=gE aw
theorem any {W:au} {a:Option Addr} {n c:Nat} {table:List cr} (hl:b7 (aG W) 8 hA (.slice a n c) table) (aq:n=table.length) (x:Int):qF cw 111 [.slice a n c,I x] W (M.val (dz table x)):=by
 subst aq;refine n8 (ro:=[⟨mo,.slice a table.length c,table⟩]) mixed dw [.slice a table.length c,I x] (.cons hl (.nil _)) ?_;unfold t;refine bK ?_;refine fV rfl (λh=>e3 ?_) λh=> ?_
 ·rw[CQ (λq=>by omega)]
  rfl
 ·obtain⟨j,rfl⟩:=Int.eq_ofNat_of_zero_le (show 0<=x by omega)
  refine bK ?_;refine fV rfl (λae=>e3 ?_) λae=> ?_
  ·rw[CQ (λq=>by omega)]
   rfl
  ·have hj:j<table.length:=by omega
   refine mI (K:=mo) (l:=table) (j:=j) J J ?_;refine qB (K:=mo) (l:=table) (j:=j) (o:=0) (c:=hA (table.getD j default)) J J J ik ?_;refine e3 ?_;rw[Ny ao ao];rfl
end Rl
namespace ZZ
def t:bs:=
.c 111 [0,1] (.agg ⟨[2,3,4,5,6,7,8,9]⟩) 8<|
.ret 6
theorem dw:fJ Tryz.prog 81 {} [0,1] 2=some t:=gE aw
theorem any {W:au} {a:Option Addr} {n c:Nat} {table:List cr} (hl:b7 (aG W) 8 hA (.slice a n c) table) (aq:n=table.length) (x:Int):qF cw 81 [.slice a n c,I x] W (I (dz table x).2.2.2.2.1):=by
 refine n8 (ro:=[⟨mo,.slice a n c,table⟩]) mixed dw [.slice a n c,I x] (.cons hl (.nil _)) ?_;unfold t;refine qE (hA (dz table x)) (λw hw=>Rl.any (hw.ro 0 _ rfl) aq x) rfl ?_;exact e3 rfl
end ZZ
namespace Z0
def t:bs:=
.c 111 [0,1] (.agg ⟨[2,3,4,5,6,7,8,9]⟩) 8<|
.ret (.agg ⟨[7,8,9]⟩)
theorem dw:fJ Tryz.prog 82 {} [0,1] 2=some t:=gE aw
theorem any {W:au} {a:Option Addr} {n c:Nat} {table:List cr} (hl:b7 (aG W) 8 hA (.slice a n c) table) (aq:n=table.length) (x:Int):qF cw 82 [.slice a n c,I x] W (.agg ⟨[I (dj (dz table x) 0),I (dj (dz table x) 1),I (dj (dz table x) 2)]⟩):=by
 refine n8 (ro:=[⟨mo,.slice a n c,table⟩]) mixed dw [.slice a n c,I x] (.cons hl (.nil _)) ?_;unfold t;refine qE (hA (dz table x)) (λw hw=>Rl.any (hw.ro 0 _ rfl) aq x) rfl ?_;exact e3 rfl
end Z0
namespace Z1
def t:bs:=
.c 62 [.agg ⟨[8,9,10]⟩,.agg ⟨[0,1,2,3,4,5]⟩] 11 1<|
.o (.un .not 11) 12 1 []<|
.c6 12 (
 .ret (.bool false)) (
 .o (.len #[30] 3 7) 13 1 [0,4]<|
 .o (.bin .eql 3 13 (I 0)) 14 1 []<|
 .c6 14 (
  .ret (.bool true)) (
  .c 64 [.agg ⟨[0,1,2,3,4,5]⟩,.agg ⟨[8,9,10]⟩] 15 1<|
  .o (.cP 30 7 15) 16 1 [0,4,1]<|
  .o (.bp 4 16) 17 1 [1]<|
  .ret 17))
theorem dw:fJ Tryz.prog 79 {} [.agg ⟨[0,1,2,3,4,5,6]⟩,7,.agg ⟨[8,9,10]⟩] 11=some t:=gE aw
theorem any {W:au} {b:bF} {a0:Option Addr} {dt dc:Nat} {a:Option Addr} {n c:Nat} {sh:List Bool} (hl:b7 (aG W) 1 hO (.slice a n c) sh) (aq:n=sh.length) (ad:okB b) (aC:sh.length=(dZ b).toNat) (p:dU):qF cw 79 [jW b (.slice a0 dt dc),.slice a n c,P.val p] W (.bool (oU b sh p)):=by
 subst aq;refine n8 (ro:=[⟨h7,.slice a sh.length c,sh⟩]) mixed dw [I b.1,I b.2.1,I b.2.2.1,I b.2.2.2.1,I b.2.2.2.2.1,I b.2.2.2.2.2,.slice a0 dt dc,.slice a sh.length c,I p.1,I p.2.1,I p.2.2] (.cons hl (.nil _)) ?_;unfold t;refine iY (v:= .bool (decide (cO p b))) (λw _=>Ra.any w p b) ?_;refine Js rfl ?_;refine xJ rfl (λh=>e3 ?_) λh=> ?_
 ·unfold oU
  rw[aO h];rfl
 ·have b8:cc b p<sh.length:=by rw[aC];exact wE h
  refine bK ?_;refine fV rfl (λaJ=>absurd aJ ao) λ_=> ?_
  refine iY (v:=I (cc b p:Nat)) (λw _=>by rw[<-By ad h];exact Kj.any w b p ad) ?_;refine mI (K:=h7) (l:=sh) (j:=cc b p) J J ?_;refine sF (K:=h7) (l:=sh) (j:=cc b p) (o:=0) (u:= .bool (sh.getD (cc b p) default)) J J ?_;refine e3 ?_;unfold oU;rw[aN h];rfl
end Z1
def jb (p:dU):List dU:=[(p.1-1,p.2.1,p.2.2),(p.1+1,p.2.1,p.2.2),(p.1,p.2.1-1,p.2.2),(p.1,p.2.1+1,p.2.2),(p.1,p.2.1,p.2.2-1),(p.1,p.2.1,p.2.2+1)]
theorem Z2 {b:bF} {k i:Nat} (h:i<6):(jb (dV b ((k:Nat):Int))).getD i default=eN b k i:=by
 match i,h with
 |0,_|1,_|2,_|3,_|4,_|5,_=>rfl
namespace Z3
def t:bs:=
.o (.bin .sub 3 0 (I 1)) 3 1 []<|
.o (.bin .add 3 0 (I 1)) 4 1 []<|
.o (.bin .sub 3 1 (I 1)) 5 1 []<|
.o (.bin .add 3 1 (I 1)) 6 1 []<|
.o (.bin .sub 3 2 (I 1)) 7 1 []<|
.o (.bin .add 3 2 (I 1)) 8 1 []<|
.oL 130 [.agg ⟨[3,1,2]⟩,.agg ⟨[4,1,2]⟩,.agg ⟨[0,5,2]⟩,.agg ⟨[0,6,2]⟩,.agg ⟨[0,1,7]⟩,.agg ⟨[0,1,8]⟩]<|
.ret 9
theorem dw:fJ Tryz.prog 83 {marks:=[130]} [.agg ⟨[0,1,2]⟩] 3=some t:=gE aw
theorem any {W:au} (aA:b_ (aG W) (b3 ([]:List (aF cw)))) (p:dU) (hp: -1048575<=p.1/\p.1<=1048575/\ -1048575<=p.2.1/\p.2.1<=1048575/\ -1048575<=p.2.2/\p.2.2<=1048575):
  gY cw 83 [P.val p] W [] c_ (λy=> .slice y.1 (jb p).length y.2) (λy=>[aF.arr nj (.slice y.1 (jb p).length y.2) (jb p)]):=by
 refine kG (ro:=[]) mixed dw [I p.1,I p.2.1,I p.2.2] aA fB.none ?_;unfold t;refine bK ?_;refine zs (K:=nj) (jb p) J J (λa c=>j7) (λa c=> ?_) ⟨.agg ⟨xQ (0,0,0)⟩,aw⟩;exact e3 ⟨(a,c),rfl,rfl⟩
end Z3
end AE
end
end
end Go.Proofs.YtepcfjbfkedlpaaGreatDoor
