/- Parts of the proof. -/
import Derived.Test.YtepcfjbfkedlpaaDoorOr3
set_option maxRecDepth 100000
set_option maxHeartbeats 4000000
noncomputable section
namespace Go.Proofs.YtepcfjbfkedlpaaDoor
open Go Go.Proofs Go.RowKit
namespace AE
variable {P:aR}
def vT.{u} {α:Type u}:List α->List Nat->List α->List α
 |L,i::is,R::i_=>vT (L.set i R) is i_
 |L,_,_=>L
theorem Yz:∀(is:List Nat) (L i_:List (a1 P)),ct (vT L is i_)=lj (ct L) is (ct i_)
 |[],L,i_=>by unfold vT lj;cases i_<;>rfl
 |i::is,L,[]=>by unfold vT lj;rfl
 |i::is,L,R::i_=>by
  unfold vT;rw[Yz is];show lj (ct (L.set i R)) is (ct i_)=lj ((ct L).set i R.res) is (ct i_);rw[show ct (L.set i R)=(ct L).set i R.res from List.map_set]
structure py (W:ax) (az:List b0) (ro:List (iO P)) (L:List (a1 P)) (w:ax):Prop where
 own:cv (aF w) (ct L)
 ro:gB ro (aF w)
 ext:p6 (aF W) az (aF w)
abbrev fe (P:aR):=List J->List (a1 P)->Prop
def pz (B:Nat) (W:ax) (az:List b0) (L L':List (a1 P)):Prop:=∀M,bH B (aF W) az M (ct L)->bH B (aF W) az M (ct L')
theorem pz.refl {B:Nat} {W:ax} {az:List b0} (L:List (a1 P)):pz B W az L L:=λ_ h=>h
inductive di (B:Nat) (W:ax) (az:List b0) (ro:List (iO P)) (post:J->List (a1 P)->Prop):Nat->List J->List (a1 P)->List (fe P)->bL->Prop
 |o {n:Nat} {env:List J} {L:List (a1 P)} {aP:List (fe P)} {f:fW} {r:J} {m:Nat} {ah:List Nat} {k:bL} (vs:List J) (hm:vs.length=m) (ad:fP vs)
   (aO:∀M,bH B (aF W) az M (ct L)->gB ro M-> @aT (cM M (vs.reverse++env)) P (f,r)) (h:di B W az ro post (n+m) (vs.reverse++env) L aP k):di B W az ro post n env L aP (.o f r m ah k)
 |s {n:Nat} {env:List J} {L:List (a1 P)} {aP:List (fe P)} {f:fW} {ah:List Nat} {db dr:bL} (b:Bool) (aO:∀M,bH B (aF W) az M (ct L)->gB ro M-> @aT (cM M env) P (f,.bool b))
   (ad:b=true->di B W az ro post n env L aP db) (af:b=false->di B W az ro post n env L aP dr):di B W az ro post n env L aP (.s f ah db dr)
 |c {n:Nat} {env:List J} {L:List (a1 P)} {aP:List (fe P)} {f:FuncId} {args:List J} {r:J} {m:Nat} {k:bL} (vs:List J) (hm:vs.length=m) (ad:fP vs)
   (aq:∀w,py W az ro L w->Calls P f ⟨hF env n args⟩ w λe w'=>e= .returned (ex (vs.reverse++env) (n+m) r)/\cb w.heap.size w w') (h:di B W az ro post (n+m) (vs.reverse++env) L aP k):di B W az ro post n env L aP (.c f args r m k)
 |cs {n:Nat} {env:List J} {L:List (a1 P)} {aP:List (fe P)} {f:FuncId} {args:List J} {db dr:bL} (b:Bool) (aq:∀w,py W az ro L w->Calls P f ⟨hF env n args⟩ w λe w'=>e= .returned (.bool b)/\cb w.heap.size w w')
   (ad:b=true->di B W az ro post n env L aP db) (af:b=false->di B W az ro post n env L aP dr):di B W az ro post n env L aP (.cs f args db dr)
 |eO {n:Nat} {env:List J} {L:List (a1 P)} {aP:List (fe P)} {x:J} {db dr:bL} (b:Bool) (ak:ex env n x= .bool b)
   (ad:b=true->di B W az ro post n env L aP db) (af:b=false->di B W az ro post n env L aP dr):di B W az ro post n env L aP (.eO x db dr)
 |vN {n:Nat} {env:List J} {L:List (a1 P)} {aP:List (fe P)} {x:J} {db dr:bL} {m:Nat} {k:bL} (b:Bool) (ak:ex env n x= .bool b) (eN:Type) (bp:eN->List J) (b1:eN->List (a1 P)) (gj:eN->Prop) (hm:∀u,(bp u).length=m) (ho:∀u,fP (bp u))
   (ad:b=true->di B W az ro post n env L ((λcF L'=>∃u',gj u'/\cF=bp u'/\pz B W az L' (b1 u'))::aP) db) (af:b=false->di B W az ro post n env L ((λcF L'=>∃u',gj u'/\cF=bp u'/\pz B W az L' (b1 u'))::aP) dr)
   (h:∀u,gj u->di B W az ro post (n+m) ((bp u).reverse++env) (b1 u) aP k):di B W az ro post n env L aP (.vN x db dr m k)
 |ret {n:Nat} {env:List J} {L:List (a1 P)} {aP:List (fe P)} {v:J} (L':List (a1 P)) (hL:pz B W az L L') (h:post (ex env n v) L'):di B W az ro post n env L aP (.ret v)
 |back {n:Nat} {env:List J} {L:List (a1 P)} {xk:fe P} {aP:List (fe P)} {vs:List J} (h:xk (hF env n vs) L):di B W az ro post n env L (xk::aP) (.back vs)
 |fT {n:Nat} {env:List J} {L:List (a1 P)} {xk:fe P} {aP:List (fe P)} {k:bL} (h:di B W az ro post n env L aP k):di B W az ro post n env L (xk::aP) (.fT k)
 |loop {n:Nat} {env:List J} {L:List (a1 P)} {aP:List (fe P)} {vs:List J} {m:Nat} {k:bL} (eN:Type) (bp:eN->List J) (b1:eN->List (a1 P)) (gj:eN->Prop) (iD:eN->Nat) (lW:eN)
   (hm:∀u,(bp u).length=m) (ad:∀u,fP (bp u)) (aM:hF env n vs=bp lW) (hL:pz B W az L (b1 lW)) (bg:gj lW)
   (h:∀u,gj u->di B W az ro post (n+m) ((bp u).reverse++env) (b1 u) ((λcF L'=>∃u',gj u'/\iD u'<iD u/\cF=bp u'/\pz B W az L' (b1 u'))::aP) k):di B W az ro post n env L aP (.loop vs m k)
 |Qi {n:Nat} {env:List J} {L:List (a1 P)} {aP:List (fe P)} {t:aJ} {p x:J} {k:bL} (i:Nat) {g:Nat} {ty:aJ} {cs:List J} {j:Nat} {u:J} (hL:L[i]? =some (.box g ty cs)) (hp:ex env n p= .pointer (some ⟨g,j,none⟩)) (ak:ex env n x=u) (hj:j<cs.length)
   (hu:u.cells= #[u]) (ad:u.oneCell'=true) (cl:bd P (sizeOf t)=some 1) (h:di B W az ro post n env (L.set i (.box g ty (cs.set j u))) aP k):di B W az ro post n env L aP (.st t p x k)
 |YA {n:Nat} {env:List J} {L:List (a1 P)} {aP:List (fe P)} {t:aJ} {p x:J} {k:bL} (i:Nat) {g:Nat} {ty:aJ} {cs:List J} {j m:Nat} {us:List J} (hL:L[i]? =some (.box g ty cs)) (hp:ex env n p= .pointer (some ⟨g,j,none⟩)) (ak:ex env n x= .agg ⟨us⟩) (hj:j+m<=cs.length)
   (hu:us.length=m) (ad:∀u∈us,u.oneCell'=true) (cl:bd P (sizeOf t)=some m) (h:di B W az ro post n env (L.set i (.box g ty (cs.take j++us++cs.drop (j+m)))) aP k):di B W az ro post n env L aP (.st t p x k)
 |YB {n:Nat} {env:List J} {L:List (a1 P)} {aP:List (fe P)} {t:aJ} {p x:J} {k:bL} (d:Nat) {K:iR P} {v:J} {l:List K.α} (i j:Nat) (y:K.α) {u:J} (hL:L[d]? =some (.arr K v l)) (hp:ex env n p=hW v (i*K.k+j)) (ag:i<l.length) (ak:ex env n x=u) (hj:j<K.k)
   (hu:u.cells= #[u]) (ad:u.oneCell'=true) (bq:∀z,l[i]? =some z->K.enc y=(K.enc z).set j u) (cl:bd P (sizeOf t)=some 1) (h:di B W az ro post n env (L.set d (.arr K v (l.set i y))) aP k):di B W az ro post n env L aP (.st t p x k)
 |aiw {n:Nat} {env:List J} {L:List (a1 P)} {aP:List (fe P)} {t:aJ} {p x:J} {k:bL} (d:Nat) {K:iR P} {v:J} {l:List K.α} (i:Nat) (y:K.α) (hL:L[d]? =some (.arr K v l)) (hp:ex env n p=hW v (i*K.k)) (ag:i<l.length) (ak:ex env n x= .agg ⟨K.enc y⟩)
   (cl:bd P (sizeOf t)=some K.k) (h:di B W az ro post n env (L.set d (.arr K v (l.set i y))) aP k):di B W az ro post n env L aP (.st t p x k)
 |YC {n:Nat} {env:List J} {L:List (a1 P)} {aP:List (fe P)} {t:aJ} {s:J} {c:List J} {k:bL} (d:Nat) {K:iR P} {v:J} {l:List K.α} (lx:List K.α) (hL:L[d]? =some (.arr K v l)) (aw:ex env n s=v) (ak:hF env n c=lx.flatMap K.enc) (aK:P.underlying t=some (.slice K.e))
   (iE:l.length+lx.length<=maxLen) (ae:(l.length+lx.length)*K.bytes<=140737488355328) (h:∀a c,di B W az ro post (n+1) (.slice a (l++lx).length c::env) (L.set d (.arr K (.slice a (l++lx).length c) (l++lx))) aP k):di B W az ro post n env L aP (.yN t s c k)
 |aix {n:Nat} {env:List J} {L:List (a1 P)} {aP:List (fe P)} {t:aJ} {s:J} {c:List J} {k:bL} (d:Nat) {K:iR P} {v:J} {l:List K.α} (lx:List K.α) (hL:L[d]? =some (.jq K v l)) (aw:ex env n s=v) (ak:hF env n c=lx.flatMap K.enc) (aK:P.underlying t=some (.slice K.e))
   (iE:l.length+lx.length<=maxLen) (ae:(l.length+lx.length)*K.bytes<=140737488355328) (h:∀a c,di B W az ro post (n+1) (.slice a (l++lx).length c::env) (L.set d (.jq K (.slice a (l++lx).length c) (l++lx))) aP k):di B W az ro post n env L aP (.yN t s c k)
 |aiy {n:Nat} {env:List J} {L:List (a1 P)} {aP:List (fe P)} {t:aJ} {s x:J} {k:bL} (d:Nat) {K:iR P} {v:J} {l:List K.α} (jt:J) (lx:List K.α) (hL:L[d]? =some (.arr K v l)) (aw:ex env n s=v) (ak:ex env n x=jt) (aK:P.underlying t=some (.slice K.e))
   (iY:∀M,bH B (aF W) az M (ct L)->gB ro M->cu M K.k K.enc jt lx)
   (iE:l.length+lx.length<=maxLen) (ae:(l.length+lx.length)*K.bytes<=140737488355328) (h:∀a c,di B W az ro post (n+1) (.slice a (l++lx).length c::env) (L.set d (.arr K (.slice a (l++lx).length c) (l++lx))) aP k):di B W az ro post n env L aP (.vO t s x k)
 |YD {n:Nat} {env:List J} {L:List (a1 P)} {aP:List (fe P)} {t:aJ} {s x:J} {k:bL} (d:Nat) {K:iR P} {v:J} {l:List K.α} (jt:J) (lx:List K.α) (hL:L[d]? =some (.jq K v l)) (aw:ex env n s=v) (ak:ex env n x=jt) (aK:P.underlying t=some (.slice K.e))
   (iY:∀M,bH B (aF W) az M (ct L)->gB ro M->cu M K.k K.enc jt lx)
   (iE:l.length+lx.length<=maxLen) (ae:(l.length+lx.length)*K.bytes<=140737488355328) (h:∀a c,di B W az ro post (n+1) (.slice a (l++lx).length c::env) (L.set d (.jq K (.slice a (l++lx).length c) (l++lx))) aP k):di B W az ro post n env L aP (.vO t s x k)
 |mk {n:Nat} {env:List J} {L:List (a1 P)} {aP:List (fe P)} {t:aJ} {x:J} {k:bL} (K:iR P) (z:K.α) (m:Nat) (aK:P.underlying t=some (.slice K.e)) (bI:∃i v,P.info? K.e=some i/\i.zero=some v/\i.size=K.k/\i.bytes=K.bytes/\v.cells.toList=K.enc z) (ak:ex env n x= .int .i64 (m:Nat)) (iE:m<=1000000) (ae:m*K.bytes<=140737488355328) (aq:m*K.k<=16777216)
   (h:∀a c,di B W az ro post (n+1) (.slice a (List.replicate m z).length c::env) (L++[.arr K (.slice a (List.replicate m z).length c) (List.replicate m z)]) aP k):di B W az ro post n env L aP (.mk t x k)
 |lt {n:Nat} {env:List J} {L:List (a1 P)} {aP:List (fe P)} {t:aJ} {x:J} {k:bL} (K:iR P) (y:K.α) {u:J} (aK:P.underlying t=some (.slice K.e)) (bI:∃z,bd P (zeroValue K.e)=some z) (aj:K.k<=1000) (ak:ex env n x=u) (hu:u.cells=⟨K.enc y⟩)
   (h:∀a c,di B W az ro post (n+1) (.slice a [y].length c::env) (L++[.arr K (.slice a [y].length c) [y]]) aP k):di B W az ro post n env L aP (.lt t x k)
 |Ae {n:Nat} {env:List J} {L:List (a1 P)} {aP:List (fe P)} {t:aJ} {xs:List J} {k:bL} (K:iR P) (l:List K.α) {us:List J} (aK:P.underlying t=some (.slice K.e)) (bI:∃z,bd P (zeroValue K.e)=some z) (aj:K.k<=1000) (ak:hF env n xs=us) (hu:us.map Value.cells=l.map λy=>⟨K.enc y⟩)
   (h:∀a c,di B W az ro post (n+1) (.slice a l.length c::env) (L++[.arr K (.slice a l.length c) l]) aP k):di B W az ro post n env L aP (.Ae t xs k)
 |alt {n:Nat} {env:List J} {L:List (a1 P)} {aP:List (fe P)} {db dr:bL} (ad:di B W az ro post n env L aP db) (af:di B W az ro post n env L aP dr):di B W az ro post n env L aP (.alt db dr)
 |tk {n:Nat} {env:List J} {L:List (a1 P)} {aP:List (fe P)} {t:aJ} {x:J} (i:Nat) {g:Nat} {ty:aJ} {cs:List J} (hL:L[i]? =some (.box g ty cs)) (ak:ex env n x= .pointer (some ⟨g,0,none⟩)) (ha:bd P (isAgg t)=some true) (aw:bd P (sizeOf t)=some cs.length)
   (aC:aL (.agg ⟨cs⟩)=true) (ag:∀f',@aI f' (.agg ⟨cs⟩)= .agg ⟨cs⟩) (L':List (a1 P)) (d_:pz B W az L L') (h:post (.agg ⟨cs⟩) L'):di B W az ro post n env L aP (.tk t x)
 |sa {n:Nat} {env:List J} {L:List (a1 P)} {aP:List (fe P)} {t:aJ} {s:J} {c:List J} {k:bL} (i:Nat) {g:Nat} {ty e:aJ} {cs us:List J} {j m wM:Nat} (hL:L[i]? =some (.box g ty cs)) (aw:ex env n s= .slice (some ⟨g,j,none⟩) m wM) (ak:hF env n c=us) (aK:P.underlying t=some (.slice e)) (bI:(P.info? e).map (·.size)=some 1)
   (aM:0<us.length) (hm:us.length<=m) (ad:∀u∈us,u.oneCell'=true) (hj:j+us.length<=cs.length) (h:di B W az ro post n env (L.set i (.box g ty (cs.take j++us++cs.drop (j+us.length)))) aP k):di B W az ro post n env L aP (.sa t s c k)
 |tj {n:Nat} {env:List J} {L:List (a1 P)} {aP:List (fe P)} {c:List J} {m cap:Nat} {k:bL} (K:iR P) (xs:List K.α) (ak:hF env n c=xs.flatMap K.enc) (hm:xs.length=m)
   (h:∀g,di B W az ro post (n+1) (.slice (some ⟨g,0,none⟩) m cap::env) (L++[.red K (.slice (some ⟨g,0,none⟩) m cap) xs]) aP k):di B W az ro post n env L aP (.tj c m cap k)
 |p7 {n:Nat} {env:List J} {L:List (a1 P)} {aP:List (fe P)} {t:aJ} {x:J} {k:bL} {u:J} {cs:List J} (ak:ex env n x=u) (hu:u.cells=⟨cs⟩) (h:∀g,di B W az ro post (n+1) (.pointer (some ⟨g,0,none⟩)::env) (L++[.box g t cs]) aP k):di B W az ro post n env L aP (.p7 t x k)
 |qF {n:Nat} {env:List J} {L:List (a1 P)} {aP:List (fe P)} {t:aJ} {k:bL} {z:J} {cs:List J} (bI:bd P (zeroValue t)=some z) (hu:z.cells=⟨cs⟩) (h:∀g,di B W az ro post (n+1) (.pointer (some ⟨g,0,none⟩)::env) (L++[.box g t cs]) aP k):di B W az ro post n env L aP (.qF t k)
 |vP {n:Nat} {env:List J} {L:List (a1 P)} {aP:List (fe P)} {t:aJ} {k:bL} (h:∀g,di B W az ro post (n+1) (.map (some g)::env) (L++[.any (js g [])]) aP k):di B W az ro post n env L aP (.vP t k)
 |vQ {n:Nat} {env:List J} {L:List (a1 P)} {aP:List (fe P)} {t eC pn:aJ} {m i x xl jC:J} {k:bL} (d:Nat) {g:Nat} {es:List (J×J)} {K:J->Prop} (bS:xj P eC K) (aK:bd P (underlying t)=some (.map eC pn)) (hL:L[d]? =some (.any (js g es)))
   (hm:ex env n m= .map (some g)) (ag:ex env n i=xl) (ak:ex env n x=jC) (aj:K xl) (aO:yK K es xl) (h:di B W az ro post n env (L.set d (.any (js g (es++[(xl,jC)])))) aP k):di B W az ro post n env L aP (.vQ t m i x k)
 |call {n:Nat} {env:List J} {L:List (a1 P)} {aP:List (fe P)} {f:FuncId} {args:List J} {r:J} {m:Nat} {k:bL} (Y:Type) (is:List Nat) (h3:jK L.length is=true) (vs:Y->List J) (jE vU:Y->List (a1 P)) (hl:∀y,(jE y).length=is.length) (hm:∀y,(vs y).length=m) (ad:∀y,fP (vs y))
   (aq:∀w,py W az ro L w->B<=w.heap.size->cv (aF w) (pick (ct L) is)->Calls P f ⟨hF env n args⟩ w λe w'=>(∃y,e= .returned (ex ((vs y).reverse++env) (n+m) r)/\c5 (aF w) (pick (ct L) is) (aF w') (ct (jE y++vU y)))/\cb 0 w w')
   (h:∀y,di B W az ro post (n+m) ((vs y).reverse++env) (vT L is (jE y)++vU y) aP k):di B W az ro post n env L aP (.call f args r m k)
theorem YE {n:Nat} {s1 s2:a7} (ha:nR n s1 s2) {p:J×J} (h:(fN p.1 p.2&&kA n p.1)=true): @aI s1 p.1= @aI s2 p.2:=by
 simp only [cV] at h;rw[<-gW _ _ h.1];exact kB ha _ h.2
theorem aiz {n:Nat} {bG:eg} (h:PF n bG=true):oj n bG:=λp hp=>by
 have:=List.all_eq_true.1 h p hp;simp only [cV] at this;exact⟨gW _ _ this.1,this.2⟩
theorem Ej {n:Nat} {s1 s2:a7} (ha:nR n s1 s2) {bG:eg} (h:oj n bG):fj s1 s2 bG:=λp hp=>by
 obtain⟨ad,af⟩:=h p hp;rw[<-ad];exact kB ha _ af
theorem oj.nil (n:Nat):oj n []:=λ_ h=>by cases h
theorem qH {n:Nat} {a b:Option eg} (ha:∃o,a=some o/\oj n o) (ae:∃o,b=some o/\oj n o):∃o,both a b=some o/\oj n o:=by
 obtain⟨x,rfl,ak⟩:=ha;obtain⟨y,rfl,bq⟩:=ae;exact⟨x++y,rfl,λp hp=>(List.mem_append.1 hp).elim (ak p) (bq p)⟩
theorem aiA {m:Nat} {v:J} (h:(yk v||(aL v&&kA m v))=true):∃o,DB v v=some o/\oj m o:=by
 unfold DB;cases hp:yk v with
 |true=>exact⟨[],rfl,.nil m⟩
 |false=>
  rw[hp,Bool.false_or,cV] at h;rw[ek,h.1,Bool.and_self,bx];cases (fN v v&&plain v) with
  |true=>exact⟨[],rfl,.nil m⟩
  |false=>exact⟨[(v,v)],rfl,λp hp=>by rw[List.mem_singleton] at hp;subst hp;exact⟨rfl,h.2⟩⟩
mutual
theorem Qj {n m:Nat}:∀v:J,okV n m v=true->∃o,vr n v v=some o/\oj m o:=by
 intro v h;unfold okV at h;split at h
 ·exact⟨[],by unfold vr;rw[h,Nat.beq_refl,Nat.beq_refl];rfl,.nil m⟩
 ·exact⟨[],by unfold vr;rw[h];simp only [Nat.beq_refl];rfl,.nil m⟩
 ·exact G_ _ h
 ·rename_i f l k
  simp only [cV] at h;obtain⟨o,ad,af⟩:=qH (G_ _ h.1) (G_ _ h.2);exact⟨o,by unfold vr;rw[Nat.beq_refl,bx];exact ad,af⟩
 ·exact⟨[],by unfold vr;rw[h,Nat.beq_refl];rfl,.nil m⟩
 ·rename_i ad af ay bD cD
  have e:vr n v v=DB v v:=by
   unfold vr;split
   ·exact(ad _ _ rfl).elim
   ·exact(af _ _ _ _ rfl).elim
   ·exact(ay _ rfl).elim
   ·exact(bD _ _ _ rfl).elim
   ·exact(cD _ rfl).elim
   ·rfl
  rw[e];exact aiA h
theorem G_ {n m:Nat}:∀l:List J,BZ n m l=true->∃o,yl n l l=some o/\oj m o
 |[],_=>⟨[],rfl,.nil m⟩
 |v::r,h=>by
  unfold BZ at h;rw[cV] at h;unfold yl;exact qH (Qj v h.1) (G_ r h.2)
end
theorem B3 {n m:Nat}:∀t:bR J,(∃o,sX n t (mV n m t)=some o/\oj m o)/\(∃o,sX n (mV n m t) (mV n m t)=some o/\oj m o)
 | .nil=>⟨⟨[],rfl,.nil m⟩,⟨[],rfl,.nil m⟩⟩
 | .node none l r=>by
   obtain⟨ev,fR⟩:=B3 (n:=n) (m:=m) l;obtain⟨j3,kq⟩:=B3 (n:=n) (m:=m) r;unfold mV sX;exact⟨qH ⟨[],rfl,.nil m⟩ (qH ev j3),qH ⟨[],rfl,.nil m⟩ (qH fR kq)⟩
 | .node (some v) l r=>by
   obtain⟨ev,fR⟩:=B3 (n:=n) (m:=m) l;obtain⟨j3,kq⟩:=B3 (n:=n) (m:=m) r;unfold mV;cases aC:okV n m v with
   |true=>
    rw[bx];unfold sX;exact⟨qH (Qj v aC) (qH ev j3),qH (Qj v aC) (qH fR kq)⟩
   |false=>
    rw[ek];unfold sX;exact⟨qH ⟨[],rfl,.nil m⟩ (qH ev j3),qH ⟨[],rfl,.nil m⟩ (qH fR kq)⟩
theorem aiB {n m:Nat} {o:qT} (h:PG n m o=true):∃x,Bq n o o=some x/\oj m x:=by
 unfold PG at h;split at h
 ·exact G_ _ h
 ·exact⟨[],rfl,.nil m⟩
 ·exact⟨[],rfl,.nil m⟩
 ·cases h
theorem YF {n m:Nat}:∀{l:List bw},Ee n m l=true->rh l=true
 |[],_=>rfl
 |x::r,h=>by
  unfold Ee at h;rw[cV] at h;unfold rh;rw[cV];refine⟨?_,YF h.2⟩;have ad:=h.1;split
  ·rename_i fO ak
   rw[ak] at ad;cases ad
  ·rfl
theorem Qk {n m:Nat} {A:a'}:∀(l:List bw) (i:Nat),Ee n m l=true->(∀j x,l[j]? =some x->∃k,A.bl.get (i+j)=some k/\k.cN=i+j/\k.ro=false/\k.eF=x.eF/\k.ty=x.ty/\k.obj=x.obj)->∃o,zJ n A l i=some o/\oj m o
 |[],i,_,_=>⟨[],rfl,.nil m⟩
 |x::r,i,h,aj=>by
  unfold Ee at h;rw[cV] at h;obtain⟨k,q1,aE,ca,ey,hh,kT⟩:=aj 0 x rfl;rw[Nat.add_zero] at q1 aE;unfold zJ;rw[q1];dsimp only;rw[aE,ca,ey,hh,kT];simp only [Nat.beq_refl,Bool.not_false,Bool.and_self,bx];exact qH (aiB h.1) (Qk r (i+1) h.2 λj y hj=>by
   obtain⟨k,gV,gO⟩:=aj (j+1) y (by simpa using hj);rw[show i+(j+1)=i+1+j by omega] at gV gO
   exact⟨k,gV,gO⟩)
theorem YG {m:Nat} {aV:List bw} (h:sk m aV=true):∃o,zJ aV.length (dd aV) aV 0=some o/\oj m o:=by
 unfold sk at h;rw[cV] at h;refine Qk aV 0 h.2 λj x hj=> ?_
 have b8:=(List.getElem?_eq_some_iff.1 hj).1;have:=List.all_eq_true.1 h.1 j (by simpa using b8);rw[cV] at this;have af:=this.2;cases aA:(DG aV 0 .nil).get j with
 |none=>rw[aA] at af;cases af
 |some k=>
  obtain⟨y,q1,aE⟩:=zI (l:=aV) (b:=j) (k:=k) aA;rw[hj,cE] at q1;subst q1;subst aE;rw[Nat.zero_add];exact⟨_,aA,rfl,rfl,rfl,rfl,rfl⟩
theorem YH {A:a'}:∀(m i:Nat) {j:Nat} {x:bw},(tl A m i)[j]? =some x->∃k,A.bl.get (i+j)=some k/\k.eF=x.eF/\k.ty=x.ty/\k.obj=x.obj
 |0,i,j,x,h=>by simp [tl] at h
 |m+1,i,j,x,h=>by
  unfold tl at h;split at h
  ·rename_i b ae
   cases j with
   |zero=>
    simp only [List.getElem?_cons_zero,cE] at h;subst h;unfold Yg at ae;split at ae
    ·rename_i k aj
     cases ae;exact⟨k,aj,rfl,rfl,rfl⟩
    ·cases ae
   |succ j=>
    obtain⟨k,q1,aE⟩:=YH m (i+1) (j:=j) (by simpa using h);exact⟨k,by rw[show i+(j+1)=i+1+j by omega];exact q1,aE⟩
  ·simp at h
theorem YI {A:a'}:∀(l:List bw) (i:Nat),KP A l i=true->∀j x,l[j]? =some x->∃k,A.bl.get (i+j)=some k/\k.cN=i+j/\k.ro=false
 |[],i,_,j,x,h=>by simp at h
 |y::r,i,aO,j,x,h=>by
  unfold KP at aO;rw[cV] at aO;cases j with
  |zero=>
   have ad:=aO.1;split at ad
   ·rename_i k aj
    simp only [cV,Bool.not_eq_true'] at ad;exact⟨k,aj,cA ad.1,ad.2⟩
   ·cases ad
  |succ j=>
   obtain⟨k,q1,aE⟩:=YI r (i+1) aO.2 j x (by simpa using h);rw[show i+(j+1)=i+1+j by omega];exact⟨k,q1,aE⟩
theorem Ql {m:Nat} {s:b6} {sl:aG} {aV:List bw} (vv:s.ms=[]) (ae:sk m aV=true) (ad:∃o,sX aV.length s.sl sl=some o/\oj m o) (af:∃o,zJ aV.length s.A aV 0=some o/\oj m o):Ai m s sl aV:=by
 obtain⟨o,e,ho⟩:=qH ad af;have dR:=ae;unfold sk at dR;rw[cV] at dR;refine⟨o,?_,ho,YF dR.2⟩;unfold cq;rw[vv];dsimp only;rw[dR.1,bx];exact e
theorem YJ {m:Nat} {sl:aG} {aV:List bw} (ae:sk m aV=true):Ai m (b7 sl aV) (mV aV.length m sl) aV:=Ql rfl ae (B3 sl).1 (YG ae)
theorem aiC {m:Nat} {sl:aG} {aV:List bw} (ae:sk m aV=true):Ai m (b7 (mV aV.length m sl) aV) (mV aV.length m sl) aV:=Ql rfl ae (B3 sl).2 (YG ae)
theorem Qm {m:Nat} {s:b6} (aw:Ah s=true) (ae:sk m (Af s)=true):Ai m s (mV (Af s).length m s.sl) (Af s):=by
 unfold Ah at aw;rw[cV] at aw;have vv:s.ms=[]:=by
  have ad:=aw.1;split at ad
  ·assumption
  ·cases ad
 refine Ql vv ae (B3 s.sl).1 (Qk _ 0 (by unfold sk at ae;rw[cV] at ae;exact ae.2) λj x hj=> ?_);obtain⟨k,q1,aE,ca⟩:=YI _ 0 aw.2 j x hj;obtain⟨k',gV,gO,pc,q7⟩:=YH _ 0 hj;rw[q1,cE] at gV;subst gV;exact⟨k,q1,aE,ca,gO,pc,q7⟩
theorem aiD {n:Nat} {s1 s2:a7} (ha:nR n s1 s2) {v u:J} (aC: @aI s1 v= @aI s2 u) {bG:eg} (h:Yh n v u bG=true):fj s1 s2 bG:=λp hp=>by
 have:=List.all_eq_true.1 h p hp;rw[Bool.or_eq_true] at this;rcases this with h|h
 ·exact YE ha h
 ·simp only [cV] at h
  rw[gW _ _ h.1,gW _ _ h.2];exact aC
theorem Qn {n:Nat} {M M':Mem} {nx n2 qI us vs:List J} {bG:eg} (he:nx=n2++qI) (av:qI.length=n) (ho:fP nx) (hu:fP us) (J_:us=hF nx nx.length vs) (h:Ef n vs bG=true):fj (cM M nx) (cM M' (us.reverse++qI)) bG:=by
 have ha:nR n (cM M nx) (cM M' (us.reverse++qI)):=by
  subst he;have q1:=uJ M M (c4:=n2) av;have aE:=uJ M M' (c4:=us.reverse) av;exact λk aj=>(q1 k aj).symm.trans (aE k aj)
 intro p hp;have:=List.all_eq_true.1 h p hp;unfold Yk at this;rw[Bool.or_eq_true] at this;rcases this with h|h
 ·exact YE ha h
 ·obtain⟨gV,gO⟩:=p
  simp only at h ⊢;split at h
  ·rename_i k
   simp only [cV] at h;obtain⟨ad,af,ay⟩:=h;have aj:=Nat.ble_eq.mp ad;split at ay
   ·rename_i v aC
    rw[<-gW _ _ ay,lJ M ho rfl];have hlen:(us.reverse++qI).length=us.length+n:=by simp [av]
    have aiE:fP qI:=by
     subst he;exact KK λv aC=>Eb ho v (List.mem_append_right _ aC)
    rw[show (Value.complex .f64 k 0)=al k from rfl,lJ M' (tf (p5 hu) aiE) rfl];show _=bif Nat.beq 0 0 then (bif Nat.blt k eQ then look (us.reverse++qI) (us.reverse++qI).length k else .pointer (some ⟨k-eQ,0,none⟩)) else .complex .f64 k 0
    rw[show Nat.beq 0 0=true from rfl,bx,af,bx,KL _ _ _ rfl,List.reverse_append,List.reverse_reverse,dh,List.getElem?_append_right (by simpa [av] using aj)];have aiF:us[k-n]? =some (ex nx nx.length v):=by
     rw[J_];clear J_;have:∀(l:List J) (i:Nat) (v:J),l[i]? =some v->(hF nx nx.length l)[i]? =some (ex nx nx.length v):=by
      intro l
      induction l with
      |nil=>intro i v h;simp at h
      |cons x r ck=>
       intro i v h;unfold hF;cases i with
       |zero=>simp only [List.getElem?_cons_zero,cE] at h ⊢;rw[h]
       |succ i=>simp only [List.getElem?_cons_succ] at h ⊢;exact ck i v h
     exact this _ _ _ aC
    rw[show qI.reverse.length=n by simpa using av,aiF];rfl
   ·cases ay
  ·cases h
end AE
namespace AE
variable {P:aR}
theorem Qo {n:Nat} {s1 s2:a7} (ha:nR n s1 s2):∀o:Option J,sj.Ed n o=true->o.map (@aI s1)=o.map (@aI s2)
 |none,_=>rfl
 |some v,h=>congrArg some (kB ha v h)
theorem aiG {n:Nat} {s1 s2:a7} (ha:nR n s1 s2) (f:fW) (h:sj.vR n f=true): @x5 s1 f= @x5 s2 f:=by
 cases f<;>simp only [sj.vR,cV] at h<;>unfold x5<;>dsimp only
 case bin=>rw[kB ha _ h.1,kB ha _ h.2]
 case un=>rw[kB ha _ h]
 case conv=>rw[kB ha _ h]
 case lV=>rw[kB ha _ h.1,Qo ha _ h.2.1,Qo ha _ h.2.2.1,Qo ha _ h.2.2.2]
 case dC=>rw[kB ha _ h.1,kB ha _ h.2]
 case eD=>rw[kB ha _ h.1,kB ha _ h.2]
 case bF=>rw[kB ha _ h]
 case cG=>rw[kB ha _ h]
 case dQ=>rw[kB ha _ h]
 case len=>rw[kB ha _ h]
 case eR=>rw[kB ha _ h.1,kB ha _ h.2]
 case lz=>rw[kB ha _ h.1,kB ha _ h.2]
 case ez=>rw[kB ha _ h]
 case kX=>rw[kB ha _ h.1,kB ha _ h.2]
theorem Qp {n m:Nat} (hle:n<=m):∀o:Option J,sj.Ed n o=true->sj.Ed m o=true
 |none,_=>rfl
 |some v,h=>mU hle v h
theorem aiH {n m:Nat} (hle:n<=m) {f:fW} (h:sj.vR n f=true):sj.vR m f=true:=by
 cases f<;>simp only [sj.vR,cV] at h ⊢
 case bin=>exact⟨mU hle _ h.1,mU hle _ h.2⟩
 case un=>exact mU hle _ h
 case conv=>exact mU hle _ h
 case lV=>exact⟨mU hle _ h.1,Qp hle _ h.2.1,Qp hle _ h.2.2.1,Qp hle _ h.2.2.2⟩
 case dC=>exact⟨mU hle _ h.1,mU hle _ h.2⟩
 case eD=>exact⟨mU hle _ h.1,mU hle _ h.2⟩
 case bF=>exact mU hle _ h
 case cG=>exact mU hle _ h
 case dQ=>exact mU hle _ h
 case len=>exact mU hle _ h
 case eR=>exact⟨mU hle _ h.1,mU hle _ h.2⟩
 case lz=>exact⟨mU hle _ h.1,mU hle _ h.2⟩
 case ez=>exact mU hle _ h
 case kX=>exact⟨mU hle _ h.1,mU hle _ h.2⟩
theorem aiI {n:Nat} {M:Mem} {e1 e2:List J} (ha:nR n (cM M e1) (cM M e2)) {f:fW} {r:J} (aO:sj.vR n f=true) (ao:kA n r=true) (h: @aT (cM M e1) P (f,r)): @aT (cM M e2) P (f,r):=by
 obtain⟨ad,af,ay⟩:=h;refine⟨ad,af,?_⟩;simp only at ay ⊢;rw[<-aiG ha f aO,<-kB ha r ao];exact ay
theorem aiJ {n:Nat} {M:Mem} {e1 e2:List J} (ha:nR n (cM M e1) (cM M e2)) {f:FuncId} {args:List J} {r:J} (aO:oT n args=true) (ao:kA n r=true) (h: @jA (cM M e1) P (f,args,r)): @jA (cM M e2) P (f,args,r):=by
 obtain⟨ad,af,ay⟩:=h;refine⟨ad,af,?_⟩;simp only at ay ⊢;rw[<-BX ha args aO,<-kB ha r ao];exact ay
theorem nR.mono {n m:Nat} {s1 s2:a7} (h:nR n s1 s2) (hm:m<=n):nR m s1 s2:=λk aj=>h k ar
theorem nR.trans {n:Nat} {s1 s2 r3:a7} (h:nR n s1 s2) (af:nR n s2 r3):nR n s1 r3:=λk aj=>(h k aj).trans (af k aj)
section
variable {B:Nat} {W:ax} {az:List b0} {ro:List (iO P)}
def nS (B:Nat) (W:ax) (az:List b0) (L:List (a1 P)) (env:List J) (F:jM):Prop:=∀M,bH B (aF W) az M (ct L)->∀ext,@s5 (cM M (ext++env)) P F
def nT (B:Nat) (W:ax) (az:List b0) (L:List (a1 P)) (env:List J) (T:jX):Prop:=∀M,bH B (aF W) az M (ct L)->∀ext,∀p∈T,@jA (cM M (ext++env)) P p
theorem nS.ext {L:List (a1 P)} {env:List J} {F:jM} (h:nS B W az L env F) (vs:List J):nS B W az L (vs++env) F:=λM bn ext=>by
 have:=h M bn (ext++vs)
 rwa [List.append_assoc] at this
theorem nT.ext {L:List (a1 P)} {env:List J} {T:jX} (h:nT B W az L env T) (vs:List J):nT B W az L (vs++env) T:=λM bn ext=>by
 have:=h M bn (ext++vs)
 rwa [List.append_assoc] at this
theorem nS.snoc {L:List (a1 P)} {env:List J} {n:Nat} {F:jM} (av:env.length=n) (h:nS B W az L env F) {f:fW} {r:J} (aO:∀M,bH B (aF W) az M (ct L)-> @aT (cM M env) P (f,r)) (ad:sj.vR n f=true) (af:kA n r=true):nS B W az L env (F++[(f,r)]):=λM bn ext p hp=>by
 rcases List.mem_append.1 hp with hp|hp
 ·exact h M bn ext p hp
 ·rw[List.mem_singleton] at hp
  subst hp;exact aiI (uJ M M av) ad af (aO M bn)
theorem nT.snoc {L:List (a1 P)} {env:List J} {n:Nat} {T:jX} (av:env.length=n) (h:nT B W az L env T) {f:FuncId} {args:List J} {r:J} (aO:∀M,bH B (aF W) az M (ct L)-> @jA (cM M env) P (f,args,r)) (ad:oT n args=true) (af:kA n r=true):nT B W az L env (T++[(f,args,r)]):=λM bn ext p hp=>by
 rcases List.mem_append.1 hp with hp|hp
 ·exact h M bn ext p hp
 ·rw[List.mem_singleton] at hp
  subst hp;exact aiJ (uJ M M av) ad af (aO M bn)
theorem nS.marks (L:List (a1 P)) (env:List J) (l:List aJ):nS B W az L env (GX l):=λM _ ext p hp=>by
 obtain⟨t,_,rfl⟩:=List.mem_map.1 hp;cases Nat.beq t 1000000
 ·exact @jg (cM M (ext++env)) P (t:Int)
 ·exact @F2 (cM M (ext++env)) P (.ez (.bool true)) (.bool true) U U U λ_ _ _=>rfl
theorem nT.nil (L:List (a1 P)) (env:List J):nT B W az L env []:=λ_ _ _ _ h=>by cases h
theorem YK {L:List (a1 P)} (dE:∀M,p6 (aF W) az M->gB ro M) {M:Mem} (cn:bH B (aF W) az M (ct L)) {w:ax} (hw:∀i o,M i=some o->w.heap[i]? =some o):py W az ro L w:=by
 have he:p6 (aF W) az (aF w):=λi o ad af=>hw i o (GR cn i o ad af)
 exact⟨cn.sp.mono λb o _ ho=>hw b o ho,dE _ he,he⟩
theorem YL {L:List (a1 P)} (dE:∀M,p6 (aF W) az M->gB ro M) {n m:Nat} {env vs:List J} {f:FuncId} {args:List J} {r:J} (av:env.length=n) (ad:fP (vs.reverse++env)) (aM:fP env) (hm:vs.length=m) (ha:oT n args=true) (hp:dP args=true) (ao:aL r=true)
  (aq:∀w,py W az ro L w->Calls P f ⟨hF env n args⟩ w λe w'=>e= .returned (ex (vs.reverse++env) (n+m) r)/\cb w.heap.size w w') (M:Mem) (cn:bH B (aF W) az M (ct L)): @jA (cM M (vs.reverse++env)) P (f,args,r):=by
 refine⟨hp,ao,λw hw=> ?_⟩;have gy: @ew (cM M (vs.reverse++env)) args=hF env n args:=by
  rw[<-BX (uJ M M av) args ha];exact ti M aM av args
 have kr: @aI (cM M (vs.reverse++env)) r=ex (vs.reverse++env) (n+m) r:=lJ M ad (by simp [av,hm,Nat.add_comm]) r;simp only;rw[gy,kr];exact aq w (YK dE cn hw)
end
theorem iZ.aiK [a7] [cH] [Lib P] {F:jM} {T:jX} {N d B:Nat} {w0 w:ax} {a:Act} {s:b6} {Q:Exit->Act->ax->Prop} (aZ:ob Q) (cK:P.follows .mixedOrders=true) (c0:s5 P F) (d_:r6 P T) (dL:iZ) (h:e_ P N B w0 Q (dL.run P F T N d s)) (ah:Here N s B w0 a w):dL.k3 P Q a w:=by
 cases dL with
 |k x ks=>
  obtain⟨st,ad,af⟩:=h;letI:dS P:=⟨F⟩;letI:sV P:=⟨T⟩;have aq:=zG (gl:= .nil) (bm:=1000) cK c0 d_ d;exact pQ cK aq ks x s st Q a w aZ ad af ah
 |ops r os ks=>
  haveI:mP Q:=⟨aZ⟩
  exact FX cK c0 d_ h ah
 |any bm os listed ks=>
  obtain⟨st,ad,_⟩:=h;cases ad
section
variable [Lib P] (cf:iq) (B:Nat) (W:ax) (az:List b0) (post:J->List (a1 P)->Prop)
def K0 (e:Ending) (w:ax):Prop:=∃v L',e= .returned v/\post v L'/\c5 (aF W) az (aF w) (ct L')
abbrev l5 (M:Mem) (env:List J) (s:b6) (a:Act) (w:ax):Prop:= @Here (cM M env) fG cf.N s B W a w
inductive mW:List iS->List (fe P)->(Exit->Act->ax->Prop)->List J->Prop
 |nil (env:List J):mW [] [] (@rf fG P cf.fn cf.N B W λe w=>K0 W az post e w/\cb B W w) env
 |cons {c:iS} {cs:List iS} {xk:fe P} {aP:List (fe P)} {Q:Exit->Act->ax->Prop} {env c4 qI:List J} {R:Act->ax->Prop} (eV:env=c4++qI) (av:qI.length=c.n) (h:mW cs aP Q env)
   (iB:∀M nx L vs bG s a w,bH B (aF W) az M (ct L)->(∃n2,nx=n2++qI)->fP nx->xk (hF nx nx.length vs) L->cq s c.sl c.aV=some bG->Ef c.n vs bG=true->rh c.aV=true->l5 cf B W M nx s a w->R a w):mW (c::cs) (xk::aP) (Exit.then R (dK P c.ks Q)) env
variable {cf B W az post}
omit [Lib P] in
theorem mW.ext {cs:List iS} {aP:List (fe P)} {Q:Exit->Act->ax->Prop} {env:List J} (h:mW cf B W az post cs aP Q env) (c4:List J):mW cf B W az post cs aP Q (c4++env):=by
 induction h with
 |nil env=>exact .nil _
 |cons eV av _ iB ck=>exact .cons (c4:=c4++_) (by rw[eV,List.append_assoc]) av ck iB
omit [Lib P] in
theorem mW.calm {cs:List iS} {aP:List (fe P)} {Q:Exit->Act->ax->Prop} {env:List J} (h:mW cf B W az post cs aP Q env):ob Q:=by
 induction h with
 |nil env=>exact(inferInstance:mP _).calm
 |cons eV av _ iB ck=>exact(ck.vx _).then _
def pA (cf:iq) (B:Nat) (W:ax) (az:List b0) (ro:List (iO P)) (post:J->List (a1 P)->Prop) (G:ji):Prop:=
 ∀n cs dL dV sl aV F T o t,G n cs dL dV sl aV F T o=some t->Ai dV (b7 sl aV) sl aV->∀hG c4 L aP Q,di B W az ro post n (c4++hG) L aP t->(c4++hG).length=n->hG.length=dV->fP (c4++hG)->mW cf B W az post cs aP Q hG->
  nS B W az L (c4++hG) F->nT B W az L (c4++hG) T->∀M,bH B (aF W) az M (ct L)->∀a w,l5 cf B W M hG (b7 sl aV) a w->dL.k3 P Q a w
theorem Ha (n:Nat) (s:a7):nR n s s:=λ_ _=>rfl
theorem Ek {M:Mem} {n:Nat} {e1 e2:List J} {s:b6} {sl:aG} {aV:List bw} {a:Act} {w:ax} (ha:nR n (cM M e1) (cM M e2)) (h:Ai n s sl aV) (ah:l5 cf B W M e1 s a w):l5 cf B W M e2 (b7 sl aV) a w:=by
 obtain⟨bG,ho,ad,af⟩:=h;exact @Here.move fG (cM M e1) (cM M e2) _ _ _ _ _ _ _ _ _ ho (Ej ha ad) (λ_ _ h=>h) (Nat.zero_le _) (gn af) ah
omit [Lib P] in
theorem K1 {ro:List (iO P)} {G:ji} (ff:pA cf B W az ro post G) {n:Nat} {cs:List iS} {dL:iZ} {F:jM} {T:jX} {sl:aG} {aV:List bw} {go:iZ->aG->List bw->Option bO} {t:bL} (h:G3 G n cs dL F T sl aV go=some t) {env:List J} {L:List (a1 P)} {aP:List (fe P)} {Q:Exit->Act->ax->Prop} (hw:di B W az ro post n env L aP t) (av:env.length=n) (ho:fP env)
  (aq:mW cf B W az post cs aP Q env) (c0:nS B W az L env F) (d_:nT B W az L env T) {M:Mem} (bn:bH B (aF W) az M (ct L)) {a:Act} {w:ax} (ah:sk n aV=true->l5 cf B W M env (b7 (mV aV.length n sl) aV) a w):dL.k3 P Q a w:=by
 rw[air] at h;cases ae:sk n aV with
 |false=>rw[ae] at h;cases h
 |true=>
  rw[ae,bx] at h;exact ff n cs dL n _ aV _ _ _ t h (aiC ae) env [] L aP Q hw av av ho aq c0 d_ M bn a w (ah ae)
theorem uL {ro:List (iO P)} {G:ji} (ff:pA cf B W az ro post G) {n:Nat} {cs:List iS} {dL:iZ} {sl:aG} {aV:List bw} {t:bL} (h:rq P cf G n cs dL sl aV=some t) {env:List J} {L:List (a1 P)} {aP:List (fe P)} {Q:Exit->Act->ax->Prop} (hw:di B W az ro post n env L aP t) (av:env.length=n) (ho:fP env)
  (aq:mW cf B W az post cs aP Q env) {M:Mem} (bn:bH B (aF W) az M (ct L)) {a:Act} {w:ax} (ah:l5 cf B W M env (b7 sl aV) a w):dL.k3 P Q a w:=
 K1 ff h hw av ho aq (nS.marks _ _ _) (nT.nil _ _) bn λae=>Ek (Ha n _) (YJ ae) ah
theorem YM {ro:List (iO P)} {G:ji} (ff:pA cf B W az ro post G) {n:Nat} {cs:List iS} {dL:iZ} {s:b6} {t:bL} (h:KW P cf G n cs dL s=some t) {env:List J} {L:List (a1 P)} {aP:List (fe P)} {Q:Exit->Act->ax->Prop} (hw:di B W az ro post n env L aP t) (av:env.length=n) (ho:fP env)
  (aq:mW cf B W az post cs aP Q env) {M:Mem} (bn:bH B (aF W) az M (ct L)) {a:Act} {w:ax} (ah:l5 cf B W M env s a w):dL.k3 P Q a w:=by
 unfold KW at h;cases aw:Ah s with
 |false=>rw[aw] at h;cases h
 |true=>
  rw[aw,bx] at h;exact K1 ff h hw av ho aq (nS.marks _ _ _) (nT.nil _ _) bn λae=>Ek (Ha n _) (Qm aw ae) ah
theorem Qq {a b:Option bL} {f:bL->bL->bL} {t:bL} (h:two a b f=some t):∃x y,a=some x/\b=some y/\t=f x y:=by
 unfold two at h;split at h
 ·split at h
  ·cases h;exact⟨_,_,rfl,rfl,rfl⟩
  ·cases h
 ·cases h
omit [Lib P] in
theorem Qr {ro:List (iO P)} (dE:∀M,p6 (aF W) az M->gB ro M) {G:ji} (ff:pA cf B W az ro post G) {n:Nat} {cs:List iS} {dL:iZ} {dV:Nat} {sl:aG} {aV:List bw} {F:jM} {T:jX} {go:jM->Option bO} {x:fW×J×Nat×Bool} {t:bL} (h:G4 P G n cs dL dV sl aV F T go x=some t) (nm:Ai dV (b7 sl aV) sl aV)
  {hG c4:List J} {L:List (a1 P)} {aP:List (fe P)} {Q:Exit->Act->ax->Prop} (hw:di B W az ro post n (c4++hG) L aP t) (av:(c4++hG).length=n) (fq:hG.length=dV) (ho:fP (c4++hG)) (aq:mW cf B W az post cs aP Q hG) (c0:nS B W az L (c4++hG) F) (d_:nT B W az L (c4++hG) T)
  (M:Mem) (bn:bH B (aF W) az M (ct L)) (a:Act) (w:ax) (ah:l5 cf B W M hG (b7 sl aV) a w):dL.k3 P Q a w:=by
 obtain⟨f,r,m,b⟩:=x;unfold G4 at h;simp only at h;cases hu:sj.vR n f with
 |false=>rw[hu] at h;cases h
 |true=>
  rw[hu,bx] at h;cases b with
  |true=>
   rw[bx] at h;obtain⟨db,dr,e1,e2,rfl⟩:=Qq h;cases hw with
   |s b aO ad af=>
    have n8:∀M,bH B (aF W) az M (ct L)-> @aT (cM M (c4++hG)) P (f,.bool b):=λM bn=>aO M bn (dE M (GR bn))
    cases b with
    |true=>exact ff n cs dL dV sl aV _ T _ db e1 nm hG c4 L aP Q (ad rfl) av fq ho aq (c0.snoc av n8 hu rfl) d_ M bn a w ah
    |false=>exact ff n cs dL dV sl aV _ T _ dr e2 nm hG c4 L aP Q (af rfl) av fq ho aq (c0.snoc av n8 hu rfl) d_ M bn a w ah
  |false=>
   rw[ek] at h;cases ao:kA (n+m) r with
   |false=>rw[ao] at h;cases h
   |true=>
    rw[ao,bx] at h;obtain⟨k,e,rfl⟩:=Option.map_eq_some_iff.1 h;cases hw with
    |o vs hm ad aO aj=>
     have hl:(vs.reverse++(c4++hG)).length=n+m:=by simp only [List.length_append,List.length_reverse] at av ⊢;omega
     rw[<-List.append_assoc] at aj hl;have aiL:sj.vR (n+m) f=true:=aiH (Nat.le_add_right n m) hu;refine ff (n+m) cs dL dV sl aV _ T _ k e nm hG (vs.reverse++c4) L aP Q aj hl fq ?_ aq ?_ ?_ M bn a w ah
     ·rw[List.append_assoc];exact tf (p5 ad) ho
     ·refine nS.snoc hl ?_ (λM bn=> ?_) aiL ao
      ·rw[List.append_assoc];exact c0.ext _
      ·rw[List.append_assoc];exact aO M bn (dE M (GR bn))
     ·rw[List.append_assoc];exact d_.ext _
omit [Lib P] in
theorem Qs {ro:List (iO P)} (dE:∀M,p6 (aF W) az M->gB ro M) {G:ji} (ff:pA cf B W az ro post G) {n:Nat} {cs:List iS} {dL:iZ} {dV:Nat} {sl:aG} {aV:List bw} {F:jM} {T:jX} {go:jX->Option bO} {x:FuncId×List J×J×Nat×Bool} {t:bL} (h:G5 G n cs dL dV sl aV F T go x=some t) (nm:Ai dV (b7 sl aV) sl aV)
  {hG c4:List J} {L:List (a1 P)} {aP:List (fe P)} {Q:Exit->Act->ax->Prop} (hw:di B W az ro post n (c4++hG) L aP t) (av:(c4++hG).length=n) (fq:hG.length=dV) (ho:fP (c4++hG)) (aq:mW cf B W az post cs aP Q hG) (c0:nS B W az L (c4++hG) F) (d_:nT B W az L (c4++hG) T)
  (M:Mem) (bn:bH B (aF W) az M (ct L)) (a:Act) (w:ax) (ah:l5 cf B W M hG (b7 sl aV) a w):dL.k3 P Q a w:=by
 obtain⟨f,args,r,m,b⟩:=x;unfold G5 at h;simp only at h;cases hu:oT n args&&dP args with
 |false=>rw[hu] at h;cases h
 |true=>
  rw[hu,bx] at h;simp only [cV] at hu;obtain⟨hu,hp⟩:=hu;cases b with
  |true=>
   rw[bx] at h;obtain⟨db,dr,e1,e2,rfl⟩:=Qq h;cases hw with
   |cs b Bn ad af=>
    have n8:∀M,bH B (aF W) az M (ct L)-> @jA (cM M (c4++hG)) P (f,args,.bool b):=λM bn=>YL (vs:=[]) (m:=0) dE av ho ho rfl hu hp rfl Bn M bn
    cases b with
    |true=>exact ff n cs dL dV sl aV F _ _ db e1 nm hG c4 L aP Q (ad rfl) av fq ho aq c0 (d_.snoc av n8 hu rfl) M bn a w ah
    |false=>exact ff n cs dL dV sl aV F _ _ dr e2 nm hG c4 L aP Q (af rfl) av fq ho aq c0 (d_.snoc av n8 hu rfl) M bn a w ah
  |false=>
   rw[ek] at h;cases ao:kA (n+m) r&&aL r with
   |false=>rw[ao] at h;cases h
   |true=>
    rw[ao,bx] at h;simp only [cV] at ao;obtain⟨ao,A9⟩:=ao;obtain⟨k,e,rfl⟩:=Option.map_eq_some_iff.1 h;cases hw with
    |c vs hm ad Bn aj=>
     have hl:(vs.reverse++(c4++hG)).length=n+m:=by simp only [List.length_append,List.length_reverse] at av ⊢;omega
     have lR:fP (vs.reverse++(c4++hG)):=tf (p5 ad) ho;rw[<-List.append_assoc] at aj hl;refine ff (n+m) cs dL dV sl aV F _ _ k e nm hG (vs.reverse++c4) L aP Q aj hl fq ?_ aq ?_ ?_ M bn a w ah
     ·rw[List.append_assoc];exact lR
     ·rw[List.append_assoc];exact c0.ext _
     ·refine nT.snoc hl ?_ (λM bn=> ?_) (Ec (Nat.le_add_right n m) _ hu) ao
      ·rw[List.append_assoc];exact d_.ext _
      ·rw[List.append_assoc];exact YL dE av lR ho hm hu hp A9 Bn M bn
theorem aiM {ro:List (iO P)} {G:ji} (ff:pA cf B W az ro post G) {n:Nat} {cs:List iS} {x:k0} {s:b6} {t:bL} (h:P4 P cf G n cs x s=some t) {env:List J} {L:List (a1 P)} {aP:List (fe P)} {Q:Exit->Act->ax->Prop} (hw:di B W az ro post n env L aP t) (av:env.length=n) (ho:fP env)
  (aq:mW cf B W az post cs aP Q env) {M:Mem} (bn:bH B (aF W) az M (ct L)) {a:Act} {w:ax} (ah:l5 cf B W M env s a w):Q x.exit' a w:=by
 unfold P4 at h;split at h
 ·split at h
  ·rename_i v aC
   cases h;cases aq;cases hw with
   |ret L' hL hp=>
    letI:=cM M env;letI:=fG;refine V8 aC (λw2 hl ag=> ?_) a w ah;refine⟨⟨_,L',?_,hp,(hL M bn).done ag⟩,hl⟩;rw[lJ M ho av v]
  ·split at h
   ·rename_i t x A4
    cases hp:aL x with
    |false=>rw[hp] at h;cases h
    |true=>
     rw[hp,bx,cE] at h;subst h;cases aq;cases hw with
     |tk i hL ak ha aw aC ag L' d_ aiN=>
      letI:=cM M env;letI:=fG;obtain⟨st,e,cP⟩:=OU (R:=λe w=>K0 W az post e w/\cb B W w) A4 hp ((lJ M ho av x).trans ak) (bn.box i (ll hL)) ha aw aC (ag _) (λw2 hl D9=>⟨⟨_,L',rfl,aiN,(d_ M bn).done D9⟩,hl⟩);cases e;exact cP a w ah
   ·cases h
 ·rename_i c cs'
  cases aq with
  | @cons _ _ xk apN apO _ c4 qI R eV h9 A8 iB=>
    split at h
    ·split at h
     ·rename_i bG ht
      cases ae:Ef c.n (KR bG c.m c.n) bG&&rh c.aV with
      |false=>rw[ae] at h;cases h
      |true=>
       rw[ae,bx,cE] at h;subst h;simp only [cV] at ae;cases hw with
       |back Hb=>exact iB M env L _ bG s a w bn ⟨c4,eV⟩ ho (by rw[av];exact Hb) ht ae.1 ae.2 ah
     ·cases h
    ·rename_i ak
     obtain⟨k,e,rfl⟩:=Option.map_eq_some_iff.1 h;cases hw with
     |fT aj=>
      have:=YM ff e aj av ho A8 bn ah;exact JC (P:=P) (y:= .skip) (λh=>ak h) this _
theorem aiO {ro:List (iO P)} {G:ji} (ff:pA cf B W az ro post G) {n:Nat} {cs:List iS} {body:Code} {s:b6} {ks:List fc} {t:bL} (h:P5 P cf G n cs body s ks=some t) {env:List J} {L:List (a1 P)} {aP:List (fe P)} {Q:Exit->Act->ax->Prop} (hw:di B W az ro post n env L aP t) (av:env.length=n) (ho:fP env)
  (aq:mW cf B W az post cs aP Q env) {M:Mem} (bn:bH B (aF W) az M (ct L)) {a:Act} {w:ax} (ah:l5 cf B W M env s a w):(Code.loop body).wpIn (Fr none) 0 P (dK P ks Q) a w:=by
 unfold P5 at h;split at h
 ·rename_i m hm
  exact wpIn_loop_rounds m (YM ff h hw av ho aq bn ah)
 split at h
 ·rename_i p8 oU vs sU
  split at h
  ·rename_i bG ht
   cases ae:Ef n vs bG&&rh oU with
   |false=>rw[ae] at h;cases h
   |true=>
    rw[ae,bx] at h;simp only [cV] at ae;obtain⟨k,e,rfl⟩:=Option.map_eq_some_iff.1 h;cases hw with
    |loop eN bp b1 gj iD lW hm ad aM hL bg aj=>
     letI:=fG;refine VX (N:=cf.N) (B:=B) (w0:=W) (X:=Mem×eN) (λx=>cM x.1 ((bp x.2).reverse++env)) (b7 p8 oU) (λx=>bH B (aF W) az x.1 (ct (b1 x.2))/\gj x.2) (λx=>iD x.2) (λx ak ev w1 lD=> ?_) (M,lW) ⟨hL M bn,bg⟩ ?_
     ·obtain⟨pv,u⟩:=x
      obtain⟨sd,ih⟩:=ak;refine uL (dL:= .k .normal [.mO body]) (cs:=⟨p8,oU,n,vs.length,ks⟩::cs) (Q:=Exit.then (λaW w'=>∃x':Mem×eN,(bH B (aF W) az x'.1 (ct (b1 x'.2))/\gj x'.2)/\iD x'.2<iD u/\l5 cf B W x'.1 ((bp x'.2).reverse++env) (b7 p8 oU) aW w') (dK P ks Q)) ff e (aj u ih) (by simp [av,hm,Nat.add_comm]) (tf (p5 (ad u)) ho) ?_ sd lD;refine .cons (c4:=(bp u).reverse) (qI:=env) rfl av (aq.ext _) ?_;intro oR nx jE YN aiP s2 fR w2 Qt B4 A1 Hb cR Qu ie gZ;obtain⟨n2,B4⟩:=B4;obtain⟨u',Qv,BM,mh,d_⟩:=Hb;exact⟨(oR,u'),⟨d_ oR Qt,Qv⟩,BM,@Here.move fG (cM oR nx) (cM oR ((bp u').reverse++env)) _ _ _ _ _ _ _ _ _ cR (Qn B4 av A1 (ad u') mh.symm Qu) (λ_ _ h=>h) (Nat.zero_le _) (gn ie) gZ⟩
     ·exact @Here.move fG (cM M env) (cM M ((bp lW).reverse++env)) _ _ _ _ _ _ _ _ _ ht (Qn (n2:=[]) rfl av ho (ad lW) (by rw[av];exact aM.symm) ae.1) (λ_ _ h=>h) (Nat.zero_le _) (gn ae.2) ah
  ·cases h
 ·cases h
theorem Hc {M:Mem} {n:Nat} {env:List J} {v u:J} {s:b6} {sl:aG} {aV:List bw} {a:Act} {w:ax} (aC: @aI (cM M env) v= @aI (cM M env) u) (h:uK n v u s sl aV=true) (ah:l5 cf B W M env s a w):l5 cf B W M env (b7 sl aV) a w:=by
 unfold uK at h;simp only [cV] at h;obtain⟨ad,af⟩:=h;split at ad
 ·rename_i bG ho
  exact @Here.move fG (cM M env) (cM M env) _ _ _ _ _ _ _ _ _ ho (aiD (Ha n _) aC ad) (λ_ _ h=>h) (Nat.zero_le _) (gn af) ah
 ·cases ad
theorem Qw {ro:List (iO P)} {G:ji} (ff:pA cf B W az ro post G) {n:Nat} {cs:List iS} {v:J} {s:b6} {ki kj:iZ} {t:bL} (h:G9 P cf G n cs v s ki kj=some t) {env:List J} {L:List (a1 P)} {aP:List (fe P)} {Q:Exit->Act->ax->Prop} (hw:di B W az ro post n env L aP t) (av:env.length=n) (ho:fP env)
  (aq:mW cf B W az post cs aP Q env) {M:Mem} (bn:bH B (aF W) az M (ct L)) {a:Act} {w:ax} (ah:l5 cf B W M env s a w):∃b,@aI (cM M env) v= .bool b/\(bif b then ki else kj).k3 P Q a w:=by
 unfold G9 at h;split at h
 ·rename_i b hd
  cases ae:uK n v (.bool b) s (kh n v (.bool b) s).1 (kh n v (.bool b) s).2 with
  |false=>rw[ae] at h;cases h
  |true=>
   rw[ae,bx] at h;obtain⟨k,e,rfl⟩:=Option.map_eq_some_iff.1 h;have key:∀b',ex env n v= .bool b'->b'=b->di B W az ro post n env L aP k->∃b,@aI (cM M env) v= .bool b/\(bif b then ki else kj).k3 P Q a w:=λb' ak dR aj=>by
    subst dR;have ag: @aI (cM M env) v= .bool b':=(lJ M ho av v).trans ak;exact⟨b',ag,uL ff e aj av ho aq bn (Hc (by rw[ag];rfl) ae ah)⟩
   cases b with
   |true=>
    rw[bx] at hw;cases hw with
    |eO b ak ad af=>
     cases b with
     |true=>exact key _ ak rfl (ad rfl)
     |false=>cases af rfl
   |false=>
    rw[ek] at hw;cases hw with
    |eO b ak ad af=>
     cases b with
     |true=>cases ad rfl
     |false=>exact key _ ak rfl (af rfl)
 cases ae:uK n v (.bool true) s (kh n v (.bool true) s).1 (kh n v (.bool true) s).2&&uK n v (.bool false) s (kh n v (.bool false) s).1 (kh n v (.bool false) s).2 with
 |false=>rw[ae] at h;cases h
 |true=>
  rw[ae,bx] at h;simp only [cV] at ae;obtain⟨db,dr,e1,e2,rfl⟩:=Qq h;cases hw with
  |eO b ak ad af=>
   have ag: @aI (cM M env) v= .bool b:=(lJ M ho av v).trans ak;refine⟨b,ag,?_⟩;cases b with
   |true=>exact uL ff e1 (ad rfl) av ho aq bn (Hc (by rw[ag];rfl) ae.1 ah)
   |false=>exact uL ff e2 (af rfl) av ho aq bn (Hc (by rw[ag];rfl) ae.2 ah)
theorem aiQ {ro:List (iO P)} {G:ji} (ff:pA cf B W az ro post G) {n:Nat} {cs:List iS} {v:J} {s:b6} {x y:Code} {ks:List fc} {p8:aG} {oU:List bw} {m:Nat} {t:bL} (h:P' P cf G n cs v s x y ks p8 oU m=some t) {env:List J} {L:List (a1 P)} {aP:List (fe P)} {Q:Exit->Act->ax->Prop} (hw:di B W az ro post n env L aP t) (av:env.length=n) (ho:fP env)
  (aq:mW cf B W az post cs aP Q env) {M:Mem} (bn:bH B (aF W) az M (ct L)) {a:Act} {w:ax} (ah:l5 cf B W M env s a w):∃b,@aI (cM M env) v= .bool b/\(if b then x else y).wpIn (Fr none) 0 P (dK P ks Q) a w:=by
 unfold P' at h;cases ae:uK n v (.bool true) s (kh n v (.bool true) s).1 (kh n v (.bool true) s).2&&uK n v (.bool false) s (kh n v (.bool false) s).1 (kh n v (.bool false) s).2 with
 |false=>rw[ae] at h;cases h
 |true=>
  rw[ae,bx] at h;simp only [cV] at ae;split at h
  ·rename_i db e1
   split at h
   ·rename_i dr e2
    obtain⟨k,dn,rfl⟩:=Option.map_eq_some_iff.1 h;cases hw with
    |vN b ak eN bp b1 gj hm IM ad af aj=>
     have ag: @aI (cM M env) v= .bool b:=(lJ M ho av v).trans ak;refine⟨b,ag,?_⟩
     let R:Act->ax->Prop:=λaW w'=>∃x':Mem×eN,(bH B (aF W) az x'.1 (ct (b1 x'.2))/\gj x'.2)/\l5 cf B W x'.1 ((bp x'.2).reverse++env) (b7 p8 oU) aW w'
     have YO:mW cf B W az post (⟨p8,oU,n,m,ks⟩::cs) ((λcF L'=>∃u',gj u'/\cF=bp u'/\pz B W az L' (b1 u'))::aP) (Exit.then R (dK P ks Q)) env:=by
      refine .cons (c4:=[]) (qI:=env) rfl av aq ?_;intro oR nx jE YN aiP s2 fR w2 Qt B4 A1 Hb cR Qu ie gZ;obtain⟨n2,B4⟩:=B4;obtain⟨u',Qv,mh,d_⟩:=Hb;exact⟨(oR,u'),⟨d_ oR Qt,Qv⟩,@Here.move fG (cM oR nx) (cM oR ((bp u').reverse++env)) _ _ _ _ _ _ _ _ _ cR (Qn B4 av A1 (IM u') mh.symm Qu) (λ_ _ h=>h) (Nat.zero_le _) (gn ie) gZ⟩
     have fM:∀e aW w',Exit.then R (dK P ks Q) e aW w'->dK P ks Q e aW w':=λe aW w' hp=>by
      cases e with
      |normal=>
       obtain⟨⟨pv,u⟩,⟨sd,ih⟩,lD⟩:=hp;exact uL (dL:= .k .normal ks) ff dn (aj u ih) (by simp [av,hm,Nat.add_comm]) (tf (p5 (IM u)) ho) (aq.ext _) sd lD
      |_=>exact hp
     cases b with
     |true=>exact wpIn_mono (uL (dL:= .k .normal [.mO x]) ff e1 (ad rfl) av ho YO bn (Hc (by rw[ag];rfl) ae.1 ah)) fM
     |false=>exact wpIn_mono (uL (dL:= .k .normal [.mO y]) ff e2 (af rfl) av ho YO bn (Hc (by rw[ag];rfl) ae.2 ah)) fM
   ·cases h
  ·cases h
theorem YP {M:Mem} {env:List J} {s:b6} {a:Act} {w:ax} {c:Operand} (hp:aL (dB .nil s.sl c)=true) (ah:l5 cf B W M env s a w):a.eval c= @aI (cM M env) (dB .nil s.sl c):=by
 letI:=cM M env;obtain⟨⟨φ,ds,ad,af,ay,bD,_⟩,cD,cI⟩:=ah;exact aD.ig _ hp (gq (hT φ) af.get c)
end
end AE
namespace AE
variable {P:aR} [Lib P] {cf:iq} {B:Nat} {W:ax} {az:List b0} {post:J->List (a1 P)->Prop} {ro:List (iO P)}
omit [Lib P] in
theorem uM {N n:Nat} {s:b6} {dst:Option Tmp} {r:J} {q:aG×List bw} (h:sm N n s dst r=some q):∃du bG,cq s du q.2=some bG/\oj n bG/\rh q.2=true/\gX N du dst r=some q.1/\Nat.blt n eQ=true:=by
 unfold sm at h;dsimp only at h;cases ae:Nat.blt n eQ&&(Ah s&&sk n (Ag n s).2) with
 |false=>rw[ae] at h;cases h
 |true=>
  rw[ae,bx] at h;simp only [cV] at ae;obtain⟨aA,aw,ae⟩:=ae;obtain⟨bG,ho,ad,af⟩:=Qm aw ae;split at h
  ·rename_i sl hp
   cases h;exact⟨_,bG,ho,ad,af,hp,aA⟩
  ·cases h
theorem Qx (M M':Mem) {env:List J} {n:Nat} (av:env.length=n):nR n (cM M env) (cM M' env):=uJ M M' (c4:=[]) av
theorem tp {M:Mem} {n:Nat} {env:List J} {v:J} (aA:Nat.blt n eQ=true) (av:env.length=n) (ho:fP env) (ad:oc v=v): @aI (cM M (v::env)) (al n)=v:=by
 rw[lJ M (env:=v::env) (n:=n+1) ⟨ad,ho⟩ (by simp [av])];show (bif Nat.beq 0 0 then (bif Nat.blt n eQ then look (v::env) (n+1) n else .pointer (some ⟨n-eQ,0,none⟩)) else .complex .f64 n 0)=v;rw[show Nat.beq 0 0=true from rfl,bx,aA,bx];unfold look;rw[show Nat.beq (n+1-1) n=true by rw[Nat.add_sub_cancel];exact Nat.beq_refl n,bx]
omit [Lib P] in
theorem uN (L:List (a1 P)) (i:Nat) (r:a1 P):ct (L.set i r)=(ct L).set i r.res:=List.map_set
structure oV (cf:iq) (B:Nat) (W:ax) (az:List b0) (ro:List (iO P)) (post:J->List (a1 P)->Prop) (NX:Nat->aG->List bw->Option bL) (o:Option bO) (n:Nat) (env:List J) (L:List (a1 P)) (aP:List (fe P)) (Q:Exit->Act->ax->Prop) (M:Mem):Prop where
 dE:∀M,p6 (aF W) az M->gB ro M
 av:env.length=n
 ho:fP env
 bn:bH B (aF W) az M (ct L)
 cont:∀{m:Nat} {sl:aG} {aV:List bw} {k:bL} {c4:List J} {L':List (a1 P)} {M':Mem} {a:Act} {w:ax},NX (n+m) sl aV=some k->di B W az ro post (n+m) (c4++env) L' aP k->c4.length=m->fP c4->bH B (aF W) az M' (ct L')->l5 cf B W M' (c4++env) (b7 sl aV) a w->wpListIn (Fr none) 0 P (j7 o) (dK P (f_ o) Q) (j6 o) a w
section
variable {NX:Nat->aG->List bw->Option bL} {n:Nat} {env:List J} {L:List (a1 P)} {aP:List (fe P)} {Q:Exit->Act->ax->Prop} {M:Mem} {o:Option bO}
omit [Lib P] in
theorem oV.rest (H:oV cf B W az ro post NX o n env L aP Q M) {m:Nat} {sl:aG} {aV:List bw} {k:bL} (h:NX (n+m) sl aV=some k) {c4:List J} {L':List (a1 P)} (hw:di B W az ro post (n+m) (c4++env) L' aP k) (hm:c4.length=m) (ad:fP c4) {M':Mem} (qB:bH B (aF W) az M' (ct L')) {a:Act} {w:ax} (ah:l5 cf B W M' (c4++env) (b7 sl aV) a w):
 wpListIn (Fr none) 0 P (j7 o) (dK P (f_ o) Q) (j6 o) a w:=H.cont h hw hm ad qB ah
omit [Lib P] in
theorem aiR (H:oV cf B W az ro post NX o n env L aP Q M) {e:jY} (he:PK cf n o=some e) {k:bL} (h:NX (n+e.2.2.2) e.2.1 e.2.2.1=some k) (hw:di B W az ro post n env L aP (e.1 k)): @e_ (cM M env) fG P cf.N B W Q o:=by
 unfold PK at he;split at he
 ·rename_i t p x cP
  cases ae:aL p&&aL x with
  |false=>rw[ae] at he;cases he
  |true=>
   rw[ae,bx] at he;simp only [cV] at ae;obtain⟨hp,ak⟩:=ae;obtain⟨q,aZ,rfl⟩:=Option.map_eq_some_iff.1 he;obtain⟨du,bG,cR,ht,ie,dU,_⟩:=uM aZ;letI:=fG;have hm:∀M',fj (cM M env) (cM M' env) bG:=λM'=>Ej (Qx M M' H.av) ht
   have gp:=λv=>lJ M H.ho H.av v
   cases hw with
   |Qi i hL B5 B6 hj hu ad cl aj=>
    refine WK (bh:=env.reverse) rfl cP cl cR dU hp ak ((gp p).trans B5) ((gp x).trans B6) hu ad (H.bn.box i (ll hL)) hj hm (λM' jW bS aW w ah=> ?_) (Nat.zero_le _) (gn ie);refine H.rest (m:=0) (c4:=[]) h aj rfl trivial (M':=M') ?_ ah;rw[uN];exact H.bn.mQ i (ll hL) (xb jW bS)
   |YA i hL B5 B6 hj hu ad cl aj=>
    refine OM (bh:=env.reverse) rfl cP cl cR dU hp ak ((gp p).trans B5) ((gp x).trans B6) hu ad (H.bn.box i (ll hL)) hj hm (λM' jW bS aW w ah=> ?_) (Nat.zero_le _) (gn ie);refine H.rest (m:=0) (c4:=[]) h aj rfl trivial (M':=M') ?_ ah;rw[uN];exact H.bn.mQ i (ll hL) (xb jW bS)
   | @YB _ _ _ _ _ _ _ _ d K v l i j y u hL B5 ag B6 hj hu ad bq cl aj=>
     refine WT (bh:=env.reverse) rfl cP cl K.len hj bq cR dU hp ak ((gp p).trans B5) ((gp x).trans B6) hu ad (H.bn.arr d (ll hL)) ag hm (λM' jW bS aW w ah=> ?_) (Nat.zero_le _) (gn ie);refine H.rest (m:=0) (c4:=[]) h aj rfl trivial (M':=M') ?_ ah;rw[uN];exact H.bn.mQ d (ll hL) (Gd jW bS)
   | @aiw _ _ _ _ _ _ _ _ d K v l i y hL B5 ag B6 cl aj=>
     refine afV (bh:=env.reverse) rfl cP cl K.len K.one cR dU hp ak ((gp p).trans B5) ((gp x).trans B6) (H.bn.arr d (ll hL)) ag hm (λM' jW bS aW w ah=> ?_) (Nat.zero_le _) (gn ie);refine H.rest (m:=0) (c4:=[]) h aj rfl trivial (M':=M') ?_ ah;rw[uN];exact H.bn.mQ d (ll hL) (Gd jW bS)
 ·cases he
omit [Lib P] in
theorem vV (H:oV cf B W az ro post NX o n env L aP Q M) {bG:eg} (ht:oj n bG) (M':Mem) (v:J):fj (cM M env) (cM M' (v::env)) bG:=Ej (uJ M M' (c4:=[v]) H.av) ht
omit [Lib P] in
theorem aiS (H:oV cf B W az ro post NX o n env L aP Q M) {e:jY} (he:PM P cf n o=some e) {k:bL} (h:NX (n+e.2.2.2) e.2.1 e.2.2.1=some k) (hw:di B W az ro post n env L aP (e.1 k)): @e_ (cM M env) fG P cf.N B W Q o:=by
 unfold PM at he;split at he
 ·rename_i vs x tY
  cases hp:aL vs with
  |false=>rw[hp] at he;cases he
  |true=>
   rw[hp,bx] at he;split at he
   ·rename_i c fZ
    cases zD:dP c with
    |false=>rw[zD] at he;cases he
    |true=>
     rw[zD,bx] at he;obtain⟨q,aZ,rfl⟩:=Option.map_eq_some_iff.1 he;obtain⟨du,bG,cR,ht,ie,dU,aA⟩:=uM aZ;letI:=fG;have gp:=λv=>lJ M H.ho H.av v
     have K2:=λv=>ti M H.ho H.av v
     have cl:∀K:iR P,P.underlying (yP o)=some (.slice K.e)->PL P (yP o)=K.k:=λK aK=>by
      unfold PL elemOf;rw[aK];simp only;rw[K.size]
     cases hw with
     | @YC _ _ _ _ _ _ _ _ d K v l lx hL aw ak aK iE ae aj=>
       obtain⟨K3,z,ag,bI,vW,jB,lY⟩:=K.info;refine Wk (l':=l++lx) (bh:=λa c=>(.slice a (l++lx).length c::env).reverse) (ea:=al n) rfl tY aK ag bI vW jB lY K.pos K.len K.one cR dU rfl (eL v)
        (F1 hp ((gp vs).trans aw) (H.bn.arr d (ll hL))) (DN (by rw[cl K aK] at fZ;exact fZ) K.len K.pos ((K2 c).trans ak)) iE ae (λM' a c=>vV H ht M' _) (λM' a c=>tp aA H.av H.ho rfl)
        (λM' a c jW bS d_ aO aW w ah=> ?_) (Nat.zero_le _) (gn ie)
       refine H.rest (m:=1) (c4:=[.slice a (l++lx).length c]) h (aj a c) rfl ⟨rfl,trivial⟩ (M':=M') ?_ ah;rw[uN];exact H.bn.mQ d (ll hL) (OL jW bS aO)
     | @aix _ _ _ _ _ _ _ _ d K v l lx hL aw ak aK iE ae aj=>
       obtain⟨K3,z,ag,bI,vW,jB,lY⟩:=K.info;refine ON (l':=l++lx) (bh:=λa c=>(.slice a (l++lx).length c::env).reverse) (ea:=al n) rfl tY aK ag bI vW jB lY K.pos K.len K.one cR dU rfl (eL v)
        (OP hp ((gp vs).trans aw) (H.bn.jq d (ll hL))) (DN (by rw[cl K aK] at fZ;exact fZ) K.len K.pos ((K2 c).trans ak)) iE ae (λM' a c=>vV H ht M' _) (λM' a c=>tp aA H.av H.ho rfl)
        (λM' a c jW bS aO aW w ah=> ?_) (Nat.zero_le _) (gn ie)
       refine H.rest (m:=1) (c4:=[.slice a (l++lx).length c]) h (aj a c) rfl ⟨rfl,trivial⟩ (M':=M') ?_ ah;rw[uN];exact H.bn.mQ d (ll hL) (J5 jW bS aO)
   ·cases he
 ·cases he
omit [Lib P] in
theorem aiT (H:oV cf B W az ro post NX o n env L aP Q M) {e:jY} (he:PN cf n o=some e) {k:bL} (h:NX (n+e.2.2.2) e.2.1 e.2.2.1=some k) (hw:di B W az ro post n env L aP (e.1 k)): @e_ (cM M env) fG P cf.N B W Q o:=by
 unfold PN at he;split at he
 ·rename_i vs x tY
  cases ae:aL vs&&aL x with
  |false=>rw[ae] at he;cases he
  |true=>
   rw[ae,bx] at he;simp only [cV] at ae;obtain⟨hp,k2⟩:=ae;obtain⟨q,aZ,rfl⟩:=Option.map_eq_some_iff.1 he;obtain⟨du,bG,cR,ht,ie,dU,aA⟩:=uM aZ;letI:=fG;have gp:=λv=>lJ M H.ho H.av v
   cases hw with
   | @aiy _ _ _ _ _ _ _ _ d K v l jt lx hL aw ak aK iY iE ae aj=>
     obtain⟨K3,z,ag,bI,vW,jB,lY⟩:=K.info;refine Wk (l':=l++lx) (bh:=λa c=>(.slice a (l++lx).length c::env).reverse) (ea:=al n) rfl tY aK ag bI vW jB lY K.pos K.len K.one cR dU rfl (eL v)
      (F1 hp ((gp vs).trans aw) (H.bn.arr d (ll hL))) (Bw k2 ((gp x).trans ak) λw hw=>(iY M H.bn (H.dE M (GR H.bn))).reads K.len hw) iE ae (λM' a c=>vV H ht M' _) (λM' a c=>tp aA H.av H.ho rfl)
      (λM' a c jW bS d_ aO aW w ah=> ?_) (Nat.zero_le _) (gn ie)
     refine H.rest (m:=1) (c4:=[.slice a (l++lx).length c]) h (aj a c) rfl ⟨rfl,trivial⟩ (M':=M') ?_ ah;rw[uN];exact H.bn.mQ d (ll hL) (OL jW bS aO)
   | @YD _ _ _ _ _ _ _ _ d K v l jt lx hL aw ak aK iY iE ae aj=>
     obtain⟨K3,z,ag,bI,vW,jB,lY⟩:=K.info;refine ON (l':=l++lx) (bh:=λa c=>(.slice a (l++lx).length c::env).reverse) (ea:=al n) rfl tY aK ag bI vW jB lY K.pos K.len K.one cR dU rfl (eL v)
      (OP hp ((gp vs).trans aw) (H.bn.jq d (ll hL))) (Bw k2 ((gp x).trans ak) λw hw=>(iY M H.bn (H.dE M (GR H.bn))).reads K.len hw) iE ae (λM' a c=>vV H ht M' _) (λM' a c=>tp aA H.av H.ho rfl)
      (λM' a c jW bS aO aW w ah=> ?_) (Nat.zero_le _) (gn ie)
     refine H.rest (m:=1) (c4:=[.slice a (l++lx).length c]) h (aj a c) rfl ⟨rfl,trivial⟩ (M':=M') ?_ ah;rw[uN];exact H.bn.mQ d (ll hL) (J5 jW bS aO)
 ·cases he
omit [Lib P] in
theorem B7 (L:List (a1 P)) (r:a1 P):ct (L++[r])=ct L++[r.res]:=List.map_append
omit [Lib P] in
theorem aiU (H:oV cf B W az ro post NX o n env L aP Q M) {e:jY} (he:PO cf n o=some e) {k:bL} (h:NX (n+e.2.2.2) e.2.1 e.2.2.1=some k) (hw:di B W az ro post n env L aP (e.1 k)): @e_ (cM M env) fG P cf.N B W Q o:=by
 unfold PO at he;split at he
 ·rename_i t x cP
  cases k2:aL x with
  |false=>rw[k2] at he;cases he
  |true=>
   rw[k2,bx] at he;obtain⟨q,aZ,rfl⟩:=Option.map_eq_some_iff.1 he;obtain⟨du,bG,cR,ht,ie,dU,aA⟩:=uM aZ;letI:=fG;have gp:=λv=>lJ M H.ho H.av v
   cases hw with
   | @mk _ _ _ _ _ _ _ K z m aK bI ak iE ae aq aj=>
     obtain⟨K3,YQ,ag,bI,vW,jB,qn⟩:=bI;refine WY (l':=List.replicate m z) (bh:=λa c=>(.slice a (List.replicate m z).length c::env).reverse) (ea:=al n) rfl cP aK ag bI vW jB qn K.len cR dU rfl k2 ((gp x).trans ak) iE ae aq (λM' a c=>vV H ht M' _) (λM' a c=>tp aA H.av H.ho rfl)
      (λM' a c jW bS aO aW w ah=> ?_) (Nat.zero_le _) (gn ie)
     refine H.rest (m:=1) (c4:=[.slice a (List.replicate m z).length c]) h (aj a c) rfl ⟨rfl,trivial⟩ (M':=M') ?_ ah;rw[B7];exact H.bn.new (J6 jW bS aO)
 ·cases he
omit [Lib P] in
theorem aiV (H:oV cf B W az ro post NX o n env L aP Q M) {e:jY} (he:PQ cf n o=some e) {k:bL} (h:NX (n+e.2.2.2) e.2.1 e.2.2.1=some k) (hw:di B W az ro post n env L aP (e.1 k)): @e_ (cM M env) fG P cf.N B W Q o:=by
 unfold PQ at he;split at he
 ·rename_i t x cP
  cases k2:aL x with
  |false=>rw[k2] at he;cases he
  |true=>
   rw[k2,bx] at he;obtain⟨q,aZ,rfl⟩:=Option.map_eq_some_iff.1 he;obtain⟨du,bG,cR,ht,ie,dU,aA⟩:=uM aZ;letI:=fG;have gp:=λv=>lJ M H.ho H.av v
   cases hw with
   | @lt _ _ _ _ _ _ _ K y u aK bI n3 ak hu aj=>
     obtain⟨YQ,bI⟩:=bI;refine agL (l':=[y]) (bh:=λa c=>(.slice a [y].length c::env).reverse) (ea:=al n) rfl cP aK K.size bI K.pos n3 K.len cR dU rfl k2 ((gp x).trans ak) hu (λM' a c=>vV H ht M' _) (λM' a c=>tp aA H.av H.ho rfl)
      (λM' a c jW bS aO aW w ah=> ?_) (Nat.zero_le _) (gn ie)
     refine H.rest (m:=1) (c4:=[.slice a [y].length c]) h (aj a c) rfl ⟨rfl,trivial⟩ (M':=M') ?_ ah;rw[B7];exact H.bn.new (J6 jW bS aO)
 ·cases he
omit [Lib P] in
theorem aiW (H:oV cf B W az ro post NX o n env L aP Q M) {e:jY} (he:PR cf n o=some e) {k:bL} (h:NX (n+e.2.2.2) e.2.1 e.2.2.1=some k) (hw:di B W az ro post n env L aP (e.1 k)): @e_ (cM M env) fG P cf.N B W Q o:=by
 unfold PR at he;split at he
 ·rename_i t xs cP
  cases k2:dP xs with
  |false=>rw[k2] at he;cases he
  |true=>
   rw[k2,bx] at he;obtain⟨q,aZ,rfl⟩:=Option.map_eq_some_iff.1 he;obtain⟨du,bG,cR,ht,ie,dU,aA⟩:=uM aZ;letI:=fG;cases hw with
   | @Ae _ _ _ _ _ _ _ K l us aK bI n3 ak hu aj=>
     obtain⟨YQ,bI⟩:=bI;refine aia (bh:=λa c=>(.slice a l.length c::env).reverse) (ea:=al n) cP aK K.size bI K.pos n3 K.len cR dU rfl k2 ((ti M H.ho H.av xs).trans ak) hu (λM' a c=>vV H ht M' _) (λM' a c=>tp aA H.av H.ho rfl)
      (λM' a c jW bS aO aW w ah=> ?_) (Nat.zero_le _) (gn ie)
     refine H.rest (m:=1) (c4:=[.slice a l.length c]) h (aj a c) rfl ⟨rfl,trivial⟩ (M':=M') ?_ ah;rw[B7];exact H.bn.new (J6 jW bS aO)
 ·cases he
omit [Lib P] in
theorem aiX (H:oV cf B W az ro post NX o n env L aP Q M) {e:jY} (he:PS cf n o=some e) {k:bL} (h:NX (n+e.2.2.2) e.2.1 e.2.2.1=some k) (hw:di B W az ro post n env L aP (e.1 k)): @e_ (cM M env) fG P cf.N B W Q o:=by
 unfold PS at he;split at he
 ·rename_i vs x tY
  cases hp:aL vs with
  |false=>rw[hp] at he;cases he
  |true=>
   rw[hp,bx] at he;split at he
   ·rename_i c fZ
    cases zD:dP c with
    |false=>rw[zD] at he;cases he
    |true=>
     rw[zD,bx] at he;obtain⟨q,aZ,rfl⟩:=Option.map_eq_some_iff.1 he;obtain⟨du,bG,cR,ht,ie,dU,_⟩:=uM aZ;letI:=fG;have hm:∀M',fj (cM M env) (cM M' env) bG:=λM'=>Ej (Qx M M' H.av) ht
     have gp:=λv=>lJ M H.ho H.av v
     have K2:=λv=>ti M H.ho H.av v
     cases hw with
     | @sa _ _ _ _ _ _ _ _ i g ty e cs us j m wM hL aw ak aK bI aM sH ad hj aj=>
       have hlen:us.length=c.length:=by rw[<-ak,X_]
       refine agR (bh:=env.reverse) (n:=us.length) rfl tY aK bI cR (by rw[hlen];exact dU) hp ((gp vs).trans aw) (DN (enc:=λu:J=>[u]) fZ (λ_=>rfl) cz ((K2 c).trans (ak.trans (by simp)))) rfl aM sH ad (H.bn.box i (ll hL)) hj hm (λM' jW bS aW w ah=> ?_) (Nat.zero_le _) (gn ie);refine H.rest (m:=0) (c4:=[]) h aj rfl trivial (M':=M') ?_ ah;rw[uN];exact H.bn.mQ i (ll hL) (xb jW bS)
   ·cases he
 ·cases he
omit [Lib P] in
theorem aiY (H:oV cf B W az ro post NX o n env L aP Q M) {e:jY} (he:PT cf n o=some e) {k:bL} (h:NX (n+e.2.2.2) e.2.1 e.2.2.1=some k) (hw:di B W az ro post n env L aP (e.1 k)): @e_ (cM M env) fG P cf.N B W Q o:=by
 unfold PT at he;split at he
 ·rename_i t x cP
  cases k2:aL x with
  |false=>rw[k2] at he;cases he
  |true=>
   rw[k2,bx] at he;obtain⟨q,aZ,rfl⟩:=Option.map_eq_some_iff.1 he;obtain⟨du,bG,cR,ht,ie,dU,aA⟩:=uM aZ;letI:=fG;have gp:=λv=>lJ M H.ho H.av v
   cases hw with
   | @p7 _ _ _ _ _ _ _ u cs ak hu aj=>
     refine DW (bh:=λg=>(.pointer (some ⟨g,0,none⟩)::env).reverse) (ea:=al n) cP k2 ((gp x).trans ak) hu cR dU rfl (λM' g=>vV H ht M' _) (λM' g=>tp aA H.av H.ho rfl)
      (λM' g yL jW bS aW w ah=> ?_) (Nat.zero_le _) (gn ie)
     refine H.rest (m:=1) (c4:=[.pointer (some ⟨g,0,none⟩)]) h (aj g) rfl ⟨rfl,trivial⟩ (M':=M') ?_ ah;rw[B7];exact H.bn.new (yy jW yL bS)
 ·cases he
omit [Lib P] in
theorem aiZ (H:oV cf B W az ro post NX o n env L aP Q M) {e:jY} (he:PU cf n o=some e) {k:bL} (h:NX (n+e.2.2.2) e.2.1 e.2.2.1=some k) (hw:di B W az ro post n env L aP (e.1 k)): @e_ (cM M env) fG P cf.N B W Q o:=by
 unfold PU at he;split at he
 ·rename_i t cP
  obtain⟨q,aZ,rfl⟩:=Option.map_eq_some_iff.1 he;obtain⟨du,bG,cR,ht,ie,dU,aA⟩:=uM aZ;letI:=fG;cases hw with
  | @qF _ _ _ _ _ _ z cs bI hu aj=>
    refine OF (bh:=λg=>(.pointer (some ⟨g,0,none⟩)::env).reverse) (ea:=al n) cP bI cR dU rfl (λM' g=>vV H ht M' _) (λM' g=>tp aA H.av H.ho rfl)
     (λM' g w8 yL ai0 bS aW w ah=> ?_) (Nat.zero_le _) (gn ie)
    refine H.rest (m:=1) (c4:=[.pointer (some ⟨g,0,none⟩)]) h (aj g) rfl ⟨rfl,trivial⟩ (M':=M') ?_ ah;rw[B7];exact H.bn.new (yy (B:=B) (i'.mk' w8 (by rw[ai0,hu])) yL bS)
 ·cases he
omit [Lib P] in
theorem ai1 (H:oV cf B W az ro post NX o n env L aP Q M) {e:jY} (he:PV cf n o=some e) {k:bL} (h:NX (n+e.2.2.2) e.2.1 e.2.2.1=some k) (hw:di B W az ro post n env L aP (e.1 k)): @e_ (cM M env) fG P cf.N B W Q o:=by
 unfold PV at he;split at he
 ·rename_i t cP
  obtain⟨q,aZ,rfl⟩:=Option.map_eq_some_iff.1 he;obtain⟨du,bG,cR,ht,ie,dU,aA⟩:=uM aZ;letI:=fG;cases hw with
  | @vP _ _ _ _ _ _ aj=>
    refine ah7 (bh:=λg=>(.map (some g)::env).reverse) (ea:=al n) cP cR dU rfl (λM' g=>vV H ht M' _) (λM' g=>tp aA H.av H.ho rfl)
     (λM' g yL w8 jW bS aW w ah=> ?_) (Nat.zero_le _) (gn ie)
    refine H.rest (m:=1) (c4:=[.map (some g)]) h (aj g) rfl ⟨rfl,trivial⟩ (M':=M') ?_ ah;rw[B7];exact H.bn.new (ah' jW yL bS)
 ·cases he
omit [Lib P] in
theorem ai2 (H:oV cf B W az ro post NX o n env L aP Q M) {e:jY} (he:PW cf n o=some e) {k:bL} (h:NX (n+e.2.2.2) e.2.1 e.2.2.1=some k) (hw:di B W az ro post n env L aP (e.1 k)): @e_ (cM M env) fG P cf.N B W Q o:=by
 unfold PW at he;split at he
 ·rename_i t m i x cP
  cases ae:aL m&&(aL i&&aL x) with
  |false=>rw[ae] at he;cases he
  |true=>
   rw[ae,bx] at he;simp only [cV] at ae;obtain⟨hN,iC,lH⟩:=ae;obtain⟨q,aZ,rfl⟩:=Option.map_eq_some_iff.1 he;obtain⟨du,bG,cR,ht,ie,dU,aA⟩:=uM aZ;letI:=fG;have hm:∀M',fj (cM M env) (cM M' env) bG:=λM'=>Ej (Qx M M' H.av) ht
   have gp:=λv=>lJ M H.ho H.av v
   cases hw with
   | @vQ _ _ _ _ _ eC pn _ _ _ xl jC _ d g es K bS aK hL uD ag ak aj aO aq=>
     have iB:=ll hL;refine ah8 (bh:=env.reverse) (g:=g) (es:=es) bS cP aK cR dU hN iC lH ((gp m).trans uD) ((gp i).trans ag) ((gp x).trans ak) (H.bn.sp.ok d _ iB) (H.bn.low g ⟨d,_,iB,rfl⟩) aj aO hm (λM' jW ai3 aW w ah=> ?_) (Nat.zero_le _) (gn ie);refine H.rest (m:=0) (c4:=[]) h aq rfl trivial (M':=M') ?_ ah;rw[uN];exact H.bn.mQ d iB (ah9 jW ai3)
 ·cases he
theorem ai4 (H:oV cf B W az ro post NX o n env L aP Q M) {e:jY} (he:PX P cf n o=some e) {k:bL} (h:NX (n+e.2.2.2) e.2.1 e.2.2.1=some k) (hw:di B W az ro post n env L aP (e.1 k)): @e_ (cM M env) fG P cf.N B W Q o:=by
 unfold PX at he;split at he
 ·rename_i f args r m qk
  cases ae:aL r&&(oT n args&&dP args) with
  |false=>rw[ae] at he;cases he
  |true=>
   rw[ae,bx] at he;simp only [cV] at ae;obtain⟨A9,apP,Qy⟩:=ae;obtain⟨q,aZ,rfl⟩:=Option.map_eq_some_iff.1 he;obtain⟨du,bG,cR,ht,ie,dU,aA⟩:=uM aZ;letI:=fG;have zu:∃bB,vy P o=some (f,args,bB):=by
    unfold PE at qk;split at qk
    ·rename_i hv gi bB zu
     cases ae:dP gi&&oT n gi with
     |false=>rw[ae] at qk;cases qk
     |true=>
      rw[ae,bx] at qk;split at qk
      ·cases qk;exact⟨bB,zu⟩
      ·cases qk
    ·cases qk
   obtain⟨bB,zu⟩:=zu;have J9:r9 P o=(f,args,bB):=by unfold r9;rw[zu];rfl
   cases hw with
   | @call _ _ _ _ _ _ _ _ _ Y is h3 vs jE vU hl hm ad Bn aj=>
     refine WZ (bh:=λy=>((vs y).reverse++env).reverse) (r:=λy=>ex ((vs y).reverse++env) (n+m) r) (xd:=λy=>ct (jE y++vU y)) H.bn is (λy=>ct (jE y)) (λy=>ct (vU y)) (by rw[zu];rfl) (by rw[J9]) (by rw[J9]) cR dU (by rw[List.length_map];exact h3)
      (λM' y=>lJ M' (tf (p5 (ad y)) H.ho) (by have:=H.av;simp only [List.length_append,List.length_reverse,hm];omega) r) (λy=>List.map_append) (λw hw cC aN=> ?_) (λy M'=>Ej (uJ M M' H.av) ht) (λM' y cn aW w ah=> ?_) (λy=>by rw[List.length_map];exact hl y) Qy A9 (Nat.zero_le _) (gn ie)
     ·rw[ti M H.ho H.av args]
      exact Bn w (YK H.dE H.bn hw) cC aN
     ·refine H.rest (m:=m) (c4:=(vs y).reverse) h (aj y) (by rw[List.length_reverse,hm]) (p5 (ad y)) (M':=M') ?_ ah
      rw[show ct (vT L is (jE y)++vU y)=ct (vT L is (jE y))++ct (vU y) from List.map_append,Yz];exact cn
 ·cases he
theorem ai5 {G:ji} {cs:List iS} (H:oV cf B W az ro post NX o n env L aP Q M) (ff:pA cf B W az ro post G) (aq:mW cf B W az post cs aP Q env) {op:Oper} {r:List Oper} {os:Array Oper} {s:b6} {ks:List fc} {e:jY} (he:PY n (some (.oper op r os s ks))=some e) {k:bL} (h:rq P cf G (n+e.2.2.2) cs (.ops (op::r) os ks) e.2.1 e.2.2.1=some k) (hw:di B W az ro post n env L aP (e.1 k)): @e_ (cM M env) fG P cf.N B W Q (some (.oper op r os s ks)):=by
 unfold PY at he;split at he
 ·rename_i t b N0
  split at he
  ·rename_i c m cap Qy
   split at he
   ·rename_i bG ht
    cases ae:PF n bG&&(rh (tl (b4 (some (.oper op r os s ks))).A b 0)&&(dP c&&(Nat.blt n eQ&&(Nat.ble (tl (b4 (some (.oper op r os s ks))).A b 0).length b&&(Nat.blt 0 m&&Nat.ble m cap))))) with
    |false=>rw[ae] at he;cases he
    |true=>
     rw[ae,bx] at he;simp only [cV] at ae;obtain⟨j3,kq,tW,wF,L6,L7,L8⟩:=ae;obtain⟨sl,e9,rfl⟩:=Option.map_eq_some_iff.1 he;letI:=fG;cases hw with
     | @tj _ _ _ _ _ _ _ _ K xs ak hm aj=>
       refine xc (q:=n) (bh:=λg=>(.slice (some ⟨g,0,none⟩) m cap::env).reverse) Qy K.len hm (Nat.blt_eq.mp L7) (Nat.ble_eq.mp L8) tW ((ti M H.ho H.av c).trans ak) (Nat.ble_eq.mp L6) ht (λM' g=>vV H (aiz j3) M' _) e9 (λg=> ?_) (λM' g lC w8 yL bS J4=> ?_) (Nat.zero_le _) (gn kq)
       ·exact(@I7 (cM M (.slice (some ⟨g,0,none⟩) m cap::env)) n).symm.trans (tp wF H.av H.ho rfl)
       ·refine⟨_,rfl,λa w ah=> ?_⟩
        refine uL ff h (aj g) (by simp [H.av]) ⟨rfl,H.ho⟩ (aq.ext [_]) (M:=M') ?_ ah;rw[B7];exact H.bn.new (uC lC yL bS J4)
   ·cases he
  ·cases he
 ·cases he
omit [Lib P] in
theorem vX {a b:Option jY} {e:jY} (h:tm a b=some e):a=some e\/b=some e:=by
 unfold tm at h;split at h
 ·exact .inl h
 ·exact .inr h
theorem YR (H:oV cf B W az ro post NX o n env L aP Q M) {e:jY} (he:KS P cf n o=some e) {k:bL} (h:NX (n+e.2.2.2) e.2.1 e.2.2.1=some k) (hw:di B W az ro post n env L aP (e.1 k)): @e_ (cM M env) fG P cf.N B W Q o:=by
 unfold KS at he;rcases vX he with he|he
 ·exact aiR H he h hw
 rcases vX he with he|he
 ·exact aiS H he h hw
 rcases vX he with he|he
 ·exact aiT H he h hw
 rcases vX he with he|he
 ·exact aiU H he h hw
 rcases vX he with he|he
 ·exact aiV H he h hw
 rcases vX he with he|he
 ·exact aiW H he h hw
 rcases vX he with he|he
 ·exact aiX H he h hw
 rcases vX he with he|he
 ·exact aiY H he h hw
 rcases vX he with he|he
 ·exact aiZ H he h hw
 rcases vX he with he|he
 ·exact ai1 H he h hw
 rcases vX he with he|he
 ·exact ai2 H he h hw
 ·exact ai4 H he h hw
end
section
variable {G:ji} {n:Nat} {env:List J} {L:List (a1 P)} {aP:List (fe P)} {cs:List iS} {Q:Exit->Act->ax->Prop} {M:Mem}
structure B8 (cf:iq) (B:Nat) (W:ax) (az:List b0) (ro:List (iO P)) (post:J->List (a1 P)->Prop) (G:ji) (n:Nat) (env:List J) (L:List (a1 P)) (aP:List (fe P)) (cs:List iS) (Q:Exit->Act->ax->Prop) (M:Mem):Prop where
 dE:∀M,p6 (aF W) az M->gB ro M
 ff:pA cf B W az ro post G
 av:env.length=n
 ho:fP env
 aq:mW cf B W az post cs aP Q env
 bn:bH B (aF W) az M (ct L)
theorem B8.pw (H:B8 cf B W az ro post G n env L aP cs Q M) (o:Option bO):oV cf B W az ro post (λfS sl aV=>rq P cf G fS cs (Ym o) sl aV) o n env L aP Q M where
 dE:=H.dE
 av:=H.av
 ho:=H.ho
 bn:=H.bn
 cont h hw hm ad qB ah:=uL H.ff h hw (by have:=H.av;simp only [List.length_append];omega) (tf ad H.ho) (H.aq.ext _) qB ah
theorem ai6 (H:B8 cf B W az ro post G n env L aP cs Q M) {o:Option bO} {t:bL} (h:P_ P cf G n cs o=some t) (hw:di B W az ro post n env L aP t): @e_ (cM M env) fG P cf.N B W Q o:=by
 unfold P_ at h;split at h
 ·rename_i pd sl aV m he
  obtain⟨k,aj,rfl⟩:=Option.map_eq_some_iff.1 h;exact YR (H.pw o) he aj hw
 ·cases h
end
omit [Lib P] in
theorem Qz:∀(a b:bL),jF a b=true->a=b:=by
 intro a
 induction a<;>intro b h<;>cases b<;>simp only [jF,cV,Bool.false_eq_true,P6,decide_eq_true_eq] at h
 case o.o ck _ _ _ _ _=>rw[Nd h.1,gW _ _ h.2.1,cA h.2.2.1,h.2.2.2.1,ck _ h.2.2.2.2]
 case s.s sE sF _ _ _ _=>rw[Nd h.1,h.2.1,sE _ h.2.2.1,sF _ h.2.2.2]
 case c.c ck _ _ _ _ _=>rw[cA h.1,q3 _ _ h.2.1,gW _ _ h.2.2.1,cA h.2.2.2.1,ck _ h.2.2.2.2]
 case cs.cs sE sF _ _ _ _=>rw[cA h.1,q3 _ _ h.2.1,sE _ h.2.2.1,sF _ h.2.2.2]
 case eO.eO sE sF _ _ _=>rw[gW _ _ h.1,sE _ h.2.1,sF _ h.2.2]
 case vN.vN sE sF ai7 _ _ _ _ _=>rw[gW _ _ h.1,sE _ h.2.1,sF _ h.2.2.1,cA h.2.2.2.1,ai7 _ h.2.2.2.2]
 case no.no=>rfl
 case Ae.Ae ck _ _ _=>rw[cA h.1,q3 _ _ h.2.1,ck _ h.2.2]
 case alt.alt sE sF _ _=>rw[sE _ h.1,sF _ h.2]
 case tk.tk=>rw[cA h.1,gW _ _ h.2]
 case sa.sa ck _ _ _ _=>rw[cA h.1,gW _ _ h.2.1,q3 _ _ h.2.2.1,ck _ h.2.2.2]
 case ret.ret=>rw[gW _ _ h]
 case back.back=>rw[q3 _ _ h]
 case loop.loop ck _ _ _=>rw[q3 _ _ h.1,cA h.2.1,ck _ h.2.2]
 case fT.fT ck _=>rw[ck _ h]
 case st.st ck _ _ _ _=>rw[cA h.1,gW _ _ h.2.1,gW _ _ h.2.2.1,ck _ h.2.2.2]
 case yN.yN ck _ _ _ _=>rw[cA h.1,gW _ _ h.2.1,q3 _ _ h.2.2.1,ck _ h.2.2.2]
 case vO.vO ck _ _ _ _=>rw[cA h.1,gW _ _ h.2.1,gW _ _ h.2.2.1,ck _ h.2.2.2]
 case mk.mk ck _ _ _=>rw[cA h.1,gW _ _ h.2.1,ck _ h.2.2]
 case tj.tj ck _ _ _ _=>rw[q3 _ _ h.1,cA h.2.1,cA h.2.2.1,ck _ h.2.2.2]
 case lt.lt ck _ _ _=>rw[cA h.1,gW _ _ h.2.1,ck _ h.2.2]
 case p7.p7 ck _ _ _=>rw[cA h.1,gW _ _ h.2.1,ck _ h.2.2]
 case qF.qF ck _ _=>rw[cA h.1,ck _ h.2]
 case vP.vP ck _ _=>rw[cA h.1,ck _ h.2]
 case vQ.vQ ck _ _ _ _ _=>rw[cA h.1,gW _ _ h.2.1,gW _ _ h.2.2.1,gW _ _ h.2.2.2.1,ck _ h.2.2.2.2]
 case call.call ck _ _ _ _ _=>rw[cA h.1,q3 _ _ h.2.1,gW _ _ h.2.2.1,cA h.2.2.2.1,ck _ h.2.2.2.2]
omit [Lib P] in
theorem ai8 {x:bL} {n:Nat} {env:List J} {L:List (a1 P)} {aP:List (fe P)}:∀(t:bL),G6 x t=true->di B W az ro post n env L aP t->di B W az ro post n env L aP x:=by
 intro t
 induction t with
 |alt a b _ ck=>
  intro h hw;cases hw with
  |alt ad af=>
   have h:(jF x a||G6 x b)=true:=h;rw[Bool.or_eq_true] at h;rcases h with h|h
   ·rw[Qz _ _ h];exact ad
   ·exact ck h af
 |_=>exact λh hw=>by rw[Qz _ _ h];exact hw
omit [Lib P] in
theorem QA {n:Nat} {env:List J} {L:List (a1 P)} {aP:List (fe P)}:∀{l:List (Option bL)} {t:bL},KX l=some t->di B W az ro post n env L aP t->∀x∈l,∃y,x=some y/\di B W az ro post n env L aP y
 |[],_,h,_=>by cases h
 |[a],t,h,hw=>λx ak=>by
  rw[List.mem_singleton] at ak;rw[ak];exact⟨t,h,hw⟩
 |a::b::r,t,h,hw=>by
  unfold KX at h;split at h
  ·rename_i x y ao
   cases he:G6 x y with
   |false=>
    rw[he,ek,cE] at h;subst h;cases hw with
    |alt ad af=>
     intro z bI;rcases List.mem_cons.1 bI with rfl|bI
     ·exact⟨x,rfl,ad⟩
     ·exact QA ao af z bI
   |true=>
    rw[he,bx,cE] at h;subst h;intro z bI;rcases List.mem_cons.1 bI with rfl|bI
    ·exact⟨x,rfl,ai8 _ he hw⟩
    ·exact QA ao hw z bI
  ·cases h
omit [Lib P] in
theorem ai9 {os:Array Oper} {K:Act->ax->Prop} {Q:Exit->Act->ax->Prop} {i:Nat} {o:Oper} {a:Act} {w:ax} (ho:os[i]? =some o) (h:wpListIn (Fr none) 0 P os (Exit.then K Q) [o] a w):wpOpIn (Fr none) 0 P os Q i K a w:=by
 unfold wpListIn at h;unfold wpOpIn;rw[ho];simp only;split at h
 ·rename_i iJ
  rw[aQ iJ];unfold Oper.wpIn at h ⊢;refine⟨h.1,?_⟩;have af:=h.2;generalize (o.semAt (Fr none).round a.eval).run P w=r at af;cases r with
  |ok x w'=>cases x<;>exact af
  |halt x w'=>cases x<;>exact af
 ·rename_i iJ
  rw[aU iJ];exact h
section
variable {G:ji} {n:Nat} {env:List J} {L:List (a1 P)} {aP:List (fe P)} {cs:List iS} {Q:Exit->Act->ax->Prop} {M:Mem}
omit [Lib P] in
theorem YS (ff:pA cf B W az ro post G) {dL:iZ} {F:jM} {T:jX} {sl:aG} {aV:List bw} {t:bL} (h:G7 G n cs dL F T sl aV=some t) (hw:di B W az ro post n env L aP t) (av:env.length=n) (ho:fP env) (aq:mW cf B W az post cs aP Q env) (c0:nS B W az L env F) (d_:nT B W az L env T) (bn:bH B (aF W) az M (ct L)) {a:Act} {w:ax} (ah:l5 cf B W M env (b7 sl aV) a w):dL.k3 P Q a w:=
 K1 ff h hw av ho aq c0 d_ bn λae=>Ek (Ha n _) (YJ ae) ah
omit [Lib P] in
theorem YT (ff:pA cf B W az ro post G) {dL:iZ} {F:jM} {T:jX} {s:b6} {t:bL} (h:KY G n cs dL F T s=some t) (hw:di B W az ro post n env L aP t) (av:env.length=n) (ho:fP env) (aq:mW cf B W az post cs aP Q env) (c0:nS B W az L env F) (d_:nT B W az L env T) (bn:bH B (aF W) az M (ct L)) {a:Act} {w:ax} (ah:l5 cf B W M env s a w):dL.k3 P Q a w:=by
 unfold KY at h;cases aw:Ah s with
 |false=>rw[aw] at h;cases h
 |true=>
  rw[aw,bx] at h;exact K1 ff h hw av ho aq c0 d_ bn λae=>Ek (Ha n _) (Qm aw ae) ah
omit [Lib P] in
theorem QB [dS P] {N:Nat} {os:Array Oper} {l:Array Bool} {sl:aG}:∀{rY:List Nat} {i:Nat} {eE:aG},G8 P N os l sl rY=some (i,eE)->i∈rY/\KZ P N os l sl i=some eE
 |[],i,eE,h=>by cases h
 |j::r,i,eE,h=>by
  unfold G8 at h;split at h
  ·rename_i q aZ
   cases h;exact⟨List.mem_cons_self,aZ⟩
  ·obtain⟨ad,af⟩:=QB h
   exact⟨List.mem_cons_of_mem _ ad,af⟩
omit [Lib P] in
theorem ai' [a7] {φ:bV} {ρ':Operand->J} {o:Oper} {t:Operand} {i:Nat} {x v:J} (ak:aD φ x (ρ' t)) (h:Fa x i=some v) (cm:o.op= .extract t i):∃aB,(∀w,(execOp ρ' o).run P w= .ok (.value aB) w)/\aD φ v aB:=by
 cases x with
 |tuple cs=>
  obtain⟨cs⟩:=cs;have h:cs[i]? =some v:=h;cases aZ:ρ' t with
  |tuple cs'=>
   rw[aZ] at ak;cases ak with
   |tuple _ _ ad af=>
    obtain⟨b8,_⟩:=List.getElem?_eq_some_iff.1 h;have rS:i<cs'.size:=by rw[<-ad];simpa using b8
    refine⟨cs'[i],λw=> ?_,?_⟩
    ·unfold execOp
     rw[cm];simp [aZ,Instr.extract,rS,Sem.run,pure]
    ·have:=af i (by simpa using b8)
     simp only [fb,List.getElem?_toArray,h,Option.getD_some] at this;simpa [rS] using this
  |_=>rw[aZ] at ak;cases ak
 |_=>cases h
omit [Lib P] in
theorem ai_ [a7] [dS P] (c0:q4 P) {φ:bV} {ρ ρ':Operand->J} {o:Oper} {v:J} (cU:∀x,aD φ (ρ x) (ρ' x)) (h:P8 P ρ o=some v):(∃aB,(∀w,(execOp ρ' o).run P w= .ok (.value aB) w)/\aD φ v aB)/\Eh o=true:=by
 unfold P8 at h;unfold Eh;split at h
 ·rename_i c x y cm
  split at h
  ·rename_i b aq
   cases h;have ae:=cU c;rw[aq] at ae;have dR:ρ' c= .bool b:=by
    generalize ρ' c=u at ae;cases ae;rfl
   refine⟨⟨bif b then ρ' x else ρ' y,λw=> ?_,?_⟩,by rw[cm]⟩
   ·unfold execOp
    rw[cm];simp only [dR];cases b<;>rfl
   ·cases b
    ·exact cU y
    ·exact cU x
  ·cases h
 ·rename_i t i cm
  refine⟨ai' (cU t) h cm,by rw[cm]⟩
 case h_9 c cm=>
  split at h
  ·rename_i b ae
   split at h
   ·rename_i f aO
    cases hp:Db f with
    |false=>rw[hp] at h;cases h
    |true=>
     rw[hp,bx] at h;exact⟨De c0 cU h λhv n8=>by rw[aO] at n8;cases n8;exact hp,by rw[cm];dsimp only;rw[ae]⟩
   ·cases h
  ·cases h
 case h_10 cm=>exact⟨De c0 cU h λf aO=>by unfold qq at aO;rw[cm] at aO;cases aO;rfl,by rw[cm]⟩
 all_goals first
  |(rename_i cm;refine⟨Fx c0 cU h,by rw[cm]⟩)
  |cases h
omit [Lib P] in
theorem YU [a7] {N:Nat} {ds:List Deferred} {os:Array Oper} {φ:bV} {sl:aG} {a:Act} {o:Oper} {b:Bool} (aw:fw N ds φ sl a) (h:P7 N os sl o=some b):Region.wanted o (yielded os a.tmps)=b:=by
 unfold P7 at h;unfold Region.wanted;split at h
 ·rename_i aA
  rw[aA];cases h;rfl
 ·rename_i j want aA
  rw[aA];dsimp only;split at h
  ·rename_i t aK
   cases b8:Nat.blt t N with
   |false=>rw[b8] at h;cases h
   |true=>
    rw[b8,bx] at h;split at h
    ·rename_i b' dR
     cases h;have aC:=aw.get t _ dR;have ae:a.tmps.getD t undef= .bool b':=by
      generalize a.tmps.getD t undef=u at aC;cases aC;rfl
     have Ac:t<a.tmps.size:=by rw[aw.size];exact Nat.blt_eq.mp b8
     have bq:yielded os a.tmps j=some b':=by
      unfold yielded;have bc:((os[j]?).bind (·.dst)).bind (a.tmps[·]?)=some (.bool b'):=by
       have:(os[j]?).bind (·.dst)=some t:=aK;rw[this];simp only [Option.bind_some];rw[fb,Array.getElem?_eq_getElem Ac] at ae;rw[Array.getElem?_eq_getElem Ac];exact congrArg some ae
      rw[bc]
     rw[bq];cases b'<;>cases want<;>rfl
    ·cases h
  ·cases h
omit [Lib P] in
theorem YV [a7] [dS P] (c0:q4 P) {N:Nat} {ds:List Deferred} {os:Array Oper} {Q:Exit->Act->ax->Prop} (oa:Region.noSelect os=true) (qu:∀c a w,¬Q (.panic c) a w) {φ:bV} {w:ax} {bm:Nat} {l:Array Bool} {sl eE:aG} {i:Nat} {a:Act} (aw:fw N ds φ sl a) (ag:i∈Region.ready .any os l) (h:KZ P N os l sl i=some eE)
  (aj:∀aW,fw N ds φ eE aW->wpAnyIn (Fr none) 0 P .any os Q bm (l.setIfInBounds i true) aW w):wpAnyIn (Fr none) 0 P .any os Q (bm+1) l a w:=by
 have about:∀{o:Oper},Eh o=true->∀w,o.about P w a.eval=none:=by
  intro o ho w;unfold Oper.about;unfold Eh at ho;split at ho
  ·rename_i c aq
   split at ho
   ·rename_i b ae
    unfold resolve;simp only [aq,ae];rfl
   ·cases ho
  ·rename_i av
   split
   ·rename_i c aq
    exact absurd aq (av c)
   ·rfl
 unfold KZ at h;split at h
 ·rename_i o ho
  split at h
  ·rename_i aA
   have wW:=YU aw aA;split at h
   ·rename_i v qp
    cases Be:Region.free .any os l i with
    |false=>rw[Be] at h;cases h
    |true=>
     rw[Be,bx] at h;obtain⟨⟨aB,e8,aC⟩,h9⟩:=ai_ c0 (gq (hT φ) aw.get) qp;exact wpAnyIn_take (F:=Fr none) rfl ho oa Be (List.contains_iff_mem.2 ag) (λc a w h=>absurd h (qu c _ w)) ⟨.inl ⟨wW,e8⟩,about h9⟩ (aj _ (aw.put aC h))
   ·cases h
  ·rename_i aA
   have wW:=YU aw aA;cases ae:Eh o&&Region.free .any os l i with
   |false=>rw[ae] at h;cases h
   |true=>
    rw[ae,bx] at h;rw[cV] at ae;exact wpAnyIn_take (F:=Fr none) rfl ho oa ae.2 (List.contains_iff_mem.2 ag) (λc a w h=>absurd h (qu c _ w)) ⟨.inr ⟨wW,rfl⟩,about ae.1⟩ (aj _ (aw.put (aD.zk φ) h))
  ·cases h
 ·cases h
omit [Lib P] in
theorem YW [a7] [dS P] (c0:q4 P) {N:Nat} {ds:List Deferred} {os:Array Oper} {Q:Exit->Act->ax->Prop} (oa:Region.noSelect os=true) (qu:∀c a w,¬Q (.panic c) a w) {φ:bV} {w:ax}:∀(bm:Nat) (l:Array Bool) (sl:aG) (a:Act),fw N ds φ sl a->
  (∀aW,fw N ds φ (Ei P N os bm l sl).2.2 aW->wpAnyIn (Fr none) 0 P .any os Q (Ei P N os bm l sl).1 (Ei P N os bm l sl).2.1 aW w)->wpAnyIn (Fr none) 0 P .any os Q bm l a w
 |0,l,sl,a,aw,aj=>aj a aw
 |bm+1,l,sl,a,aw,aj=>by
  unfold Ei at aj;split at aj
  ·rename_i i eE ag
   obtain⟨ad,af⟩:=QB ag;exact YV c0 oa qu aw ad af λaW pM=>YW c0 oa qu bm _ eE aW pM aj
  ·exact aj a aw
theorem aja (cK:P.follows .mixedOrders=true) (H:B8 cf B W az ro post G n env L aP cs Q M) {bm:Nat} {os:Array Oper} {listed:Array Bool} {ks:List fc} {s:b6} {F:jM} {T:jX} {i:Nat} {t:bL} (h:anyOp P cf G n cs bm os listed ks s F T i=some t) (hw:di B W az ro post n env L aP t) (c0:nS B W az L env F) (d_:nT B W az L env T) {a:Act} {w:ax} (ah:l5 cf B W M env s a w):
  wpOpIn (Fr none) 0 P os (dK P ks Q) i (wpAnyIn (Fr none) 0 P .any os (dK P ks Q) bm (listed.setIfInBounds i true)) a w:=by
 unfold anyOp at h;split at h
 ·cases h
 ·rename_i o ho
  refine ai9 ho ?_;letI:=cM M env;letI:=fG;split at h
  ·rename_i eE bB cP
   letI:dS P:=⟨F⟩;letI:sV P:=⟨T⟩;have cT:=zG (gl:= .nil) (bm:=1000) cK (c0 M H.bn []) (λp hp=>(d_ M H.bn [] p hp).N4) cf.d;exact VW (l1:=[o]) (s:=s) cT [] (by simp only [wR,cP]) ah λaW w' yj=>YT (dL:= .any bm os (listed.setIfInBounds i true) ks) H.ff h hw H.av H.ho H.aq c0 d_ H.bn yj
  ·split at h
   ·rename_i pd dH Yw m he
    obtain⟨k,aj,rfl⟩:=Option.map_eq_some_iff.1 h;have ajb:oV cf B W az ro post (λfS sl aV=>G7 G fS cs (.any bm os (listed.setIfInBounds i true) ks) (GX cf.marks) [] sl aV) (some (.oper o [] os s [])) n env L aP (Exit.then (wpAnyIn (Fr none) 0 P .any os (dK P ks Q) bm (listed.setIfInBounds i true)) (dK P ks Q)) M:=
     {dE:=H.dE,av:=H.av,ho:=H.ho,bn:=H.bn
      cont:=λh hw hm ad qB ah=>YS (dL:= .any bm os (listed.setIfInBounds i true) ks) H.ff h hw (by have:=H.av;simp only [List.length_append];omega) (tf ad H.ho) (H.aq.ext _) (nS.marks _ _ _) (nT.nil _ _) qB ah}
    obtain⟨st,cP,hs⟩:=YR ajb he aj hw;cases cP;exact hs a w ah
   ·cases h
theorem ajc (cK:P.follows .mixedOrders=true) (H:B8 cf B W az ro post G n env L aP cs Q M) {bm:Nat} {os:Array Oper} {listed:Array Bool} {ks:List fc} {sl:aG} {aV:List bw} {F:jM} {T:jX} {t:bL} (h:P9 P cf G n cs bm os listed ks sl aV F T=some t) (hw:di B W az ro post n env L aP t) (c0:nS B W az L env F) (d_:nT B W az L env T) {a:Act} {w:ax} (ah:l5 cf B W M env (b7 sl aV) a w):
  wpAnyIn (Fr none) 0 P .any os (dK P ks Q) bm listed a w:=by
 unfold P9 at h;split at h
 ·rename_i ao
  exact wpAnyIn_done ao (uL (dL:= .k .normal ks) H.ff h hw H.av H.ho H.aq H.bn ah) bm
 ·rename_i rY cO
  split at h
  ·cases h
  ·rename_i bm
   split at h
   ·rename_i i eE vW
    cases oa:Region.noSelect os with
    |false=>rw[oa] at h;cases h
    |true=>
     rw[oa,bx] at h;obtain⟨ad,af⟩:= @QB P ⟨F⟩ _ _ _ _ _ _ _ vW;obtain⟨⟨φ,ds,q1,aE,ca,ey,hh⟩,kT,oG⟩:=ah;letI:=cM M env;letI:=fG;have YX:ob (dK P ks Q):=H.aq.calm.vx ks;refine @YV P (cM M env) ⟨F⟩ (c0 M H.bn []) _ _ _ _ oa YX _ _ _ _ _ _ _ _ aE ad af λaW pM=> ?_
     refine @YW P (cM M env) ⟨F⟩ (c0 M H.bn []) _ _ _ _ oa YX _ _ bm _ _ aW pM λfR ajd=> ?_
     exact YS (dL:= .any _ os _ ks) H.ff h hw H.av H.ho H.aq c0 d_ H.bn ⟨⟨φ,ds,q1,ajd,ca,ey,hh⟩,kT,oG⟩
   ·refine wpAnyIn_all rfl cO λi ag=> ?_
    obtain⟨y,e,bq⟩:=QA h hw _ (List.mem_map.2 ⟨i,ag,rfl⟩);exact aja cK H e bq c0 d_ ah
end
theorem aje (cK:P.follows .mixedOrders=true) {G:ji} {n:Nat} {env:List J} {L:List (a1 P)} {aP:List (fe P)} {cs:List iS} {Q:Exit->Act->ax->Prop} {M:Mem} (H:B8 cf B W az ro post G n env L aP cs Q M) {Qb:Option J} {F:jM} {T:jX} {o:Option bO} {t:bL} (h:Qa P cf G n cs Qb F T o=some t) (hw:di B W az ro post n env L aP t) (c0:nS B W az L env F) (d_:nT B W az L env T): @e_ (cM M env) fG P cf.N B W Q o:=by
 letI:=fG;unfold Qa at h;split at h
 ·rename_i id os s ks
  split at h
  ·rename_i v
   refine⟨_,rfl,λa w ah=> ?_⟩;obtain⟨b,ae,aj⟩:=Qw H.ff h hw H.av H.ho H.aq H.bn ah;cases b with
   |true=>exact aj
   |false=>exact aj
  ·refine⟨_,rfl,λa w ah=>wpIn_region_any cK ?_⟩
   have aZ:l5 cf B W M env s a {w with drawn:=w.drawn+1}:= @Here.quiet (cM M env) fG _ _ _ _ _ _ _ ah ⟨⟨rfl,rfl,rfl,b2 _,λ_ _=>rfl⟩,b2 _⟩;exact YT (dL:= .any os.size os (Array.replicate os.size false) ks) H.ff h hw H.av H.ho H.aq c0 d_ H.bn aZ
 ·exact⟨_,rfl,λa w ah=>aiM H.ff h hw H.av H.ho H.aq H.bn ah⟩
 ·exact⟨_,rfl,λa w ah=>aiO H.ff h hw H.av H.ho H.aq H.bn ah⟩
 ·rename_i c x y s ks
  cases hp:aL (dB .nil s.sl c) with
  |false=>rw[hp] at h;cases h
  |true=>
   rw[hp,bx] at h;refine⟨_,rfl,λa w ah=> ?_⟩;split at h
   ·obtain⟨b,ae,aj⟩:=aiQ H.ff h hw H.av H.ho H.aq H.bn ah
    exact wpIn_cond (t:=b) ((YP hp ah).trans ae) aj
   obtain⟨b,ae,aj⟩:=Qw H.ff h hw H.av H.ho H.aq H.bn ah;refine wpIn_cond (t:=b) ((YP hp ah).trans ae) ?_;cases b with
   |true=>exact aj
   |false=>exact aj
 ·rename_i op r os s ks
  split at h
  ·rename_i v aC
   refine⟨_,rfl,λa w ah=> ?_⟩;obtain⟨b,ae,aj⟩:=Qw H.ff h hw H.av H.ho H.aq H.bn ah;cases b with
   |true=>exact aj
   |false=>exact aj
  ·split at h
   ·rename_i pd sl aV m he
    obtain⟨k,aj,rfl⟩:=Option.map_eq_some_iff.1 h;exact ai5 (H.pw (some (.oper op r os s ks))) H.ff H.aq he aj hw
   ·exact ai6 H h hw
 ·cases h
theorem ajf (cK:P.follows .mixedOrders=true) (dE:∀M,p6 (aF W) az M->gB ro M) {G:ji} (ff:pA cf B W az ro post G):pA cf B W az ro post (Qe P cf G):=by
 intro n cs dL dV sl aV F T o t h nm hG c4 L aP Q hw av fq ho aq c0 d_ M bn a w ah;unfold Qe at h;split at h
 ·exact Qr dE ff h nm hw av fq ho aq c0 d_ M bn a w ah
 ·exact Qs dE ff h nm hw av fq ho aq c0 d_ M bn a w ah
 ·split at h
  ·exact Qr dE ff h nm hw av fq ho aq c0 d_ M bn a w ah
  ·exact Qs dE ff h nm hw av fq ho aq c0 d_ M bn a w ah
  ·have H:B8 cf B W az ro post G n (c4++hG) L aP cs Q M:=⟨dE,ff,av,ho,aq.ext c4,bn⟩
   letI:=cM M (c4++hG);letI:=fG;exact iZ.aiK aq.calm cK (c0 M bn []) (λp hp=>(d_ M bn [] p hp).N4) dL (aje cK H h hw c0 d_) (Ek (e1:=hG) (e2:=c4++hG) (uJ M M fq) nm ah)
theorem ajg (cK:P.follows .mixedOrders=true) (dE:∀M,p6 (aF W) az M->gB ro M) {G:ji} (ff:pA cf B W az ro post G):pA cf B W az ro post (Qh P cf G):=by
 intro n cs dL dV sl aV F T o t h nm hG c4 L aP Q hw av fq ho aq c0 d_ M bn a w ah;unfold Qh at h;split at h
 ·rename_i bm os listed ks
  split at h
  ·exact Qr dE ff h nm hw av fq ho aq c0 d_ M bn a w ah
  ·exact Qs dE ff h nm hw av fq ho aq c0 d_ M bn a w ah
  ·exact ajc cK ⟨dE,ff,av,ho,aq.ext c4,bn⟩ h hw c0 d_ (Ek (e1:=hG) (e2:=c4++hG) (uJ M M fq) nm ah)
 ·exact ajf cK dE ff n cs dL dV sl aV F T o t h nm hG c4 L aP Q hw av fq ho aq c0 d_ M bn a w ah
theorem QC (cK:P.follows .mixedOrders=true) (dE:∀M,p6 (aF W) az M->gB ro M):∀bm,pA cf B W az ro post (gen P cf bm)
 |0=>λ_ _ _ _ _ _ _ _ _ _ h=>by cases h
 |bm+1=>ajg cK dE (QC cK dE bm)
def YY (a:Option bL) (t:bL):Bool:=match a with
 |some x=>jF x t
 |none=>false
theorem k4 {a:Option bL} {t:bL} (h:YY a t=true):a=some t:=by
 unfold YY at h;split at h
 ·rw[Qz _ _ h]
 ·cases h
theorem ajh (cK:P.follows .mixedOrders=true) {f:FuncId} {h:BY} {args vs:List J} {n:Nat} {t:bL} (aA:jj P f h args n=some t) (dE:∀M,p6 (aF W) [] M->gB ro M) (av:vs.length=n) (ho:fP vs)
  (hw:di W.heap.size W [] ro post n vs.reverse [] [] t):Calls P f ⟨hF vs.reverse n args⟩ W λe w=>K0 W [] post e w/\cb W.heap.size W w:=by
 unfold jj at aA;split at aA
 ·rename_i fn mM
  split at aA
  ·rename_i c QD
   split at aA
   ·rename_i sl gw
    dsimp only at aA;cases hp:dP args with
    |false=>rw[hp] at aA;cases aA
    |true=>
     rw[hp,bx] at aA;have hl:vs.reverse.length=n:=by simpa using av
     have lR:=p5 ho;letI:=cM (aF W) vs.reverse;rw[<-ti (aF W) lR hl args];refine V_ mM QD gw hp rfl (λi o h=>h) λa ah=> ?_
     letI:=fG;exact uL (cf:=⟨h,args.length+(fn.ntmps-args.length),fn⟩) (dL:= .k .normal [.mO c]) (QC cK dE 10000) aA hw hl lR (.nil _) (bH.qA W) ah
   ·cases aA
  ·cases aA
 ·cases aA
theorem aji (cK:P.follows .mixedOrders=true) {f:FuncId} {h:BY} {args vs:List J} {n:Nat} {t:bL} (aA:jj P f h args n=some t) (L:List (a1 P)) (aN:cv (aF W) (ct L)) (dE:∀M,p6 (aF W) (ct L) M->gB ro M) (av:vs.length=n) (ho:fP vs)
  (hw:di 0 W (ct L) ro post n vs.reverse L [] t):Calls P f ⟨hF vs.reverse n args⟩ W λe w=>K0 W (ct L) post e w/\cb 0 W w:=by
 unfold jj at aA;split at aA
 ·rename_i fn mM
  split at aA
  ·rename_i c QD
   split at aA
   ·rename_i sl gw
    dsimp only at aA;cases hp:dP args with
    |false=>rw[hp] at aA;cases aA
    |true=>
     rw[hp,bx] at aA;have hl:vs.reverse.length=n:=by simpa using av
     have lR:=p5 ho;letI:=cM (aF W) vs.reverse;rw[<-ti (aF W) lR hl args];refine Wi mM QD gw hp rfl (λi o h=>h) λa ah=> ?_
     letI:=fG;exact uL (cf:=⟨h,args.length+(fn.ntmps-args.length),fn⟩) (dL:= .k .normal [.mO c]) (QC cK dE 10000) aA hw hl lR (.nil _) (bH.start W _ aN) ah
   ·cases aA
  ·cases aA
 ·cases aA
end AE
namespace AE
variable {P:aR} {B:Nat} {W:ax} {az:List b0} {ro:List (iO P)} {post:J->List (a1 P)->Prop}
structure X (B:Nat) (W:ax) (az:List b0) (ro:List (iO P)) (post:J->List (a1 P)->Prop) (n:Nat) (env:List J) (L:List (a1 P)) (aP:List (fe P)) (t:bL):Prop where
 go:env.length=n->fP env->di B W az ro post n env L aP t
instance apQ {n:Nat} {env:List J} {L:List (a1 P)} {aP:List (fe P)} {t:bL}:CoeFun (X B W az ro post n env L aP t) λ_=>env.length=n->fP env->di B W az ro post n env L aP t:=⟨X.go⟩
inductive my.{u} {α:Type u}:List α->α->Prop
 |z {a:α} {r:List α}:my (a::r) a
 |s {x a:α} {r:List α} (h:my r a):my (x::r) a
inductive oW.{u} {α:Type u}:List α->Nat->α->α->List α->Prop
 |z {a b:α} {r:List α}:oW (a::r) 0 a b (b::r)
 |s {d:Nat} {x a b:α} {r dX:List α} (h:oW r d a b dX):oW (x::r) (d+1) a b (x::dX)
inductive xm.{u} {α:Type u}:List α->Nat->α->List α->Prop
 |z {a b:α} {r:List α}:xm (a::r) 0 b (b::r)
 |s {x b:α} {i:Nat} {r dX:List α} (h:xm r i b dX):xm (x::r) (i+1) b (x::dX)
inductive tq.{u} {α:Type u}:List α->α->List α->Prop
 |z {a:α}:tq [] a [a]
 |s {x a:α} {r dX:List α} (h:tq r a dX):tq (x::r) a (x::dX)
theorem my.get.{u} {α:Type u} {l:List α} {a:α} (h:my l a):∃i:Nat,l[i]? =some a:=by
 induction h with
 |z=>exact⟨0,rfl⟩
 |s _ ck=>obtain⟨i,ag⟩:=ck;exact⟨i+1,by simpa using ag⟩
theorem oW.get.{u} {α:Type u} {l l':List α} {d:Nat} {a b:α} (h:oW l d a b l'):l[d]? =some a/\l'=l.set d b:=by
 induction h with
 |z=>exact⟨rfl,rfl⟩
 |s _ ck=>exact⟨by simpa using ck.1,by rw[ck.2];rfl⟩
theorem xm.eq.{u} {α:Type u} {l l':List α} {i:Nat} {b:α} (h:xm l i b l'):l'=l.set i b/\i<l.length:=by
 induction h with
 |z=>exact⟨rfl,by simp⟩
 |s _ ck=>exact⟨by rw[ck.1];rfl,by simp;exact ck.2⟩
theorem tq.eq.{u} {α:Type u} {l l':List α} {a:α} (h:tq l a l'):l'=l++[a]:=by
 induction h with
 |z=>rfl
 |s _ ck=>rw[ck];rfl
inductive mX (ro:List (iO P)) (L:List (a1 P)) (K:iR P) (v:J) (l:List K.α):Prop
 |ro (h:my ro ⟨K,v,l⟩)
 |arr (h:my L (.arr K v l))
 |jq (h:my L (.jq K v l))
 |red (h:my L (.red K v l))
theorem mX.r_ {ro:List (iO P)} {L:List (a1 P)} {K:iR P} {v:J} {l:List K.α} (h:mX ro L K v l) {M:Mem} (bn:bH B (aF W) az M (ct L)) (dE:gB ro M):cu M K.k K.enc v l:=by
 cases h with
 |ro h=>obtain⟨i,ag⟩:=h.get;exact dE i _ ag
 |arr h=>obtain⟨i,ag⟩:=h.get;exact Pz bn ag rfl
 |jq h=>obtain⟨i,ag⟩:=h.get;exact Pz bn ag rfl
 |red h=>obtain⟨i,ag⟩:=h.get;exact Pz bn ag rfl
theorem mX.at {ro:List (iO P)} {L:List (a1 P)} {K:iR P} {v:J} {l:List K.α} (h:mX ro L K v l) {w:ax} (hw:py W az ro L w):cu (aF w) K.k K.enc v l:=by
 cases h with
 |ro h=>obtain⟨i,ag⟩:=h.get;exact hw.ro i _ ag
 |arr h=>obtain⟨i,ag⟩:=h.get;exact PA hw.own ag rfl
 |jq h=>obtain⟨i,ag⟩:=h.get;exact PA hw.own ag rfl
 |red h=>obtain⟨i,ag⟩:=h.get;exact PA hw.own ag rfl
theorem El {ro:List (iO P)} {L:List (a1 P)} {K:iR P} {v:J} {l:List K.α} (h:mX ro L K v l:=by first|(apply mX.ro;(repeat (first|exact my.z|apply my.s));done)|(apply mX.arr;(repeat (first|exact my.z|apply my.s));done)|(apply mX.jq;(repeat (first|exact my.z|apply my.s));done)|(apply mX.red;(repeat (first|exact my.z|apply my.s));done)):mX ro L K v l:=h
theorem has {α:Type 1} {l:List α} {a:α} (h:my l a:=by repeat (first|exact my.z|apply my.s)):my l a:=h
section
variable {n q:Nat} {ah:List Nat} {env:List J} {L:List (a1 P)} {aP:List (fe P)} {k db dr:bL}
theorem Hd {f':a7} {f:fW} {r dX:J} (h: @aT f' P (f,r)) (he: @aI f' dX= @aI f' r) (ao:aL dX=true:=by rfl): @aT f' P (f,dX):=by
 obtain⟨ad,af,ay⟩:=h;refine⟨ad,ao,?_⟩;simp only at ay ⊢;rw[he];exact ay
theorem QE:∀(m q:Nat),aL (.agg ⟨kC m q⟩)=true
 |0,_=>rfl
 |m+1,q=>by
  have:=QE m (q+1);unfold aL at this ⊢;unfold kC dP;rw[this];rfl
theorem YZ {env:List J} {n:Nat}:∀(m i:Nat) (c:List J),(∀j,j<m->ex env n (al (i+j))=c.getD j undef)->c.length=m->hF env n (kC m i)=c
 |0,i,c,_,aq=>by rw[List.length_eq_zero_iff.1 aq];rfl
 |m+1,i,[],_,aq=>by simp at aq
 |m+1,i,u::c,h,aq=>by
  unfold kC hF;have aM:=h 0 ar;rw[Nat.add_zero] at aM;rw[aM,YZ m (i+1) c (λj hj=>by have:=h (j+1) ar;rw[show i+(j+1)=i+1+j by omega] at this;simpa using this) (by simpa using aq)];rfl
theorem ajj {env c:List J} {n m:Nat} (av:env.length=n) (aq:c.length=m) (aA:n+m<eQ):hF (c.reverse++env) (n+m) (kC m n)=c:=by
 refine YZ m n c (λj hj=> ?_) aq;show (bif Nat.beq 0 0 then (bif Nat.blt (n+j) eQ then look (c.reverse++env) (n+m) (n+j) else .pointer (some ⟨n+j-eQ,0,none⟩)) else .complex .f64 (n+j) 0)=_;rw[show Nat.beq 0 0=true from rfl,bx,show Nat.blt (n+j) eQ=true from Nat.blt_eq.mpr ar,bx,KL _ _ _ (by simp [av,aq];omega),List.reverse_append,List.reverse_reverse,dh,List.getElem?_append_right (by simp [av]),show n+j-env.reverse.length=j by simp [av],dh,fA ar];rfl
theorem mY {f:fW} (v:J) (aO:∀M,bH B (aF W) az M (ct L)->gB ro M->(∀x,@aI (cM M (v::env)) x=ex (v::env) (q+1) x)-> @aI (cM M (v::env)) (al q)=v-> @aT (cM M (v::env)) P (f,al q)) (h:X B W az ro post (q+1) (v::env) L aP k) (ad:oc v=v) (aA:Nat.blt q eQ=true) (aZ:n=q):X B W az ro post n env L aP (.o f (al q) 1 ah k):=by
 subst aZ;refine⟨λav ho=> ?_⟩;have lR:fP (v::env):=⟨ad,ho⟩;have fB:(v::env).length=n+1:=by simp [av]
 exact .o [v] rfl ⟨ad,trivial⟩ (λM bn ao=>aO M bn ao (λx=>lJ M lR fB x) (tp aA av ho ad)) (h fB lR)
section
variable {t:aJ} {x y:J} {hi:IntKind} {a b:Int}
theorem yS {op:BinOp} {v:J} (cm:zL op=true) (aC:yo op hi a b=v) (ad:oc v=v) (ak:ex (v::env) (q+1) x= .int hi a) (bq:ex (v::env) (q+1) y= .int hi b) (h:X B W az ro post (q+1) (v::env) L aP k) (eZ:aL x=true) (jN:aL y=true) (aA:Nat.blt q eQ=true) (aZ:n=q):X B W az ro post n env L aP (.o (.bin op t x y) (al q) 1 ah k):=
 mY v (λM _ _ ag aw=> @aT.bi (cM M (v::env)) P op t x y (al q) hi a b eZ jN rfl cm ((ag x).trans ak) ((ag y).trans bq) (aw.trans aC.symm)) h ad aA aZ
theorem ajk (ak:ex (.bool (decide (a<b))::env) (q+1) x= .int hi a) (bq:ex (.bool (decide (a<b))::env) (q+1) y= .int hi b) (h:X B W az ro post (q+1) (.bool (decide (a<b))::env) L aP k) (eZ:aL x=true:=by rfl) (jN:aL y=true:=by rfl) (aA:Nat.blt q eQ=true:=by rfl) (aZ:n=q:=by rfl):X B W az ro post n env L aP (.o (.bin .lss t x y) (al q) 1 ah k):=yS U U U ak bq h eZ jN aA aZ
theorem ajl (ak:ex (.bool (decide (a<=b))::env) (q+1) x= .int hi a) (bq:ex (.bool (decide (a<=b))::env) (q+1) y= .int hi b) (h:X B W az ro post (q+1) (.bool (decide (a<=b))::env) L aP k) (eZ:aL x=true:=by rfl) (jN:aL y=true:=by rfl) (aA:Nat.blt q eQ=true:=by rfl) (aZ:n=q:=by rfl):X B W az ro post n env L aP (.o (.bin .leq t x y) (al q) 1 ah k):=yS U U U ak bq h eZ jN aA aZ
theorem ajm (ak:ex (.bool (decide (b<a))::env) (q+1) x= .int hi a) (bq:ex (.bool (decide (b<a))::env) (q+1) y= .int hi b) (h:X B W az ro post (q+1) (.bool (decide (b<a))::env) L aP k) (eZ:aL x=true:=by rfl) (jN:aL y=true:=by rfl) (aA:Nat.blt q eQ=true:=by rfl) (aZ:n=q:=by rfl):X B W az ro post n env L aP (.o (.bin .gtr t x y) (al q) 1 ah k):=yS U U U ak bq h eZ jN aA aZ
theorem ajn (ak:ex (.bool (decide (b<=a))::env) (q+1) x= .int hi a) (bq:ex (.bool (decide (b<=a))::env) (q+1) y= .int hi b) (h:X B W az ro post (q+1) (.bool (decide (b<=a))::env) L aP k) (eZ:aL x=true:=by rfl) (jN:aL y=true:=by rfl) (aA:Nat.blt q eQ=true:=by rfl) (aZ:n=q:=by rfl):X B W az ro post n env L aP (.o (.bin .geq t x y) (al q) 1 ah k):=yS U U U ak bq h eZ jN aA aZ
theorem QF (ak:ex (.bool (decide (a=b))::env) (q+1) x= .int hi a) (bq:ex (.bool (decide (a=b))::env) (q+1) y= .int hi b) (h:X B W az ro post (q+1) (.bool (decide (a=b))::env) L aP k) (eZ:aL x=true:=by rfl) (jN:aL y=true:=by rfl) (aA:Nat.blt q eQ=true:=by rfl) (aZ:n=q:=by rfl):X B W az ro post n env L aP (.o (.bin .eql t x y) (al q) 1 ah k):=yS U U U ak bq h eZ jN aA aZ
theorem K4 (ak:ex (.bool (decide (a≠b))::env) (q+1) x= .int hi a) (bq:ex (.bool (decide (a≠b))::env) (q+1) y= .int hi b) (h:X B W az ro post (q+1) (.bool (decide (a≠b))::env) L aP k) (eZ:aL x=true:=by rfl) (jN:aL y=true:=by rfl) (aA:Nat.blt q eQ=true:=by rfl) (aZ:n=q:=by rfl):X B W az ro post n env L aP (.o (.bin .neq t x y) (al q) 1 ah k):=yS (op:= .neq) rfl (congrArg Value.bool (by by_cases h:a=b<;>simp [h])) rfl ak bq h eZ jN aA aZ
theorem ajo (ak:ex (.int .i64 (a+b)::env) (q+1) x= .int .i64 a) (bq:ex (.int .i64 (a+b)::env) (q+1) y= .int .i64 b) (h:X B W az ro post (q+1) (.int .i64 (a+b)::env) L aP k) (sn: -9223372036854775808<=a+b:=by omega) (He:a+b<=9223372036854775807:=by omega) (eZ:aL x=true:=by rfl) (jN:aL y=true:=by rfl) (aA:Nat.blt q eQ=true:=by rfl) (aZ:n=q:=by rfl):X B W az ro post n env L aP (.o (.bin .add t x y) (al q) 1 ah k):=yS rfl (congrArg (Value.int .i64) (wrap64 sn He)) rfl ak bq h eZ jN aA aZ
theorem ajp (ak:ex (.int .i64 (a-b)::env) (q+1) x= .int .i64 a) (bq:ex (.int .i64 (a-b)::env) (q+1) y= .int .i64 b) (h:X B W az ro post (q+1) (.int .i64 (a-b)::env) L aP k) (sn: -9223372036854775808<=a-b:=by omega) (He:a-b<=9223372036854775807:=by omega) (eZ:aL x=true:=by rfl) (jN:aL y=true:=by rfl) (aA:Nat.blt q eQ=true:=by rfl) (aZ:n=q:=by rfl):X B W az ro post n env L aP (.o (.bin .sub t x y) (al q) 1 ah k):=yS rfl (congrArg (Value.int .i64) (wrap64 sn He)) rfl ak bq h eZ jN aA aZ
theorem ajq (ak:ex (.int .i64 (a*b)::env) (q+1) x= .int .i64 a) (bq:ex (.int .i64 (a*b)::env) (q+1) y= .int .i64 b) (h:X B W az ro post (q+1) (.int .i64 (a*b)::env) L aP k) (sn: -9223372036854775808<=a*b:=by omega) (He:a*b<=9223372036854775807:=by omega) (eZ:aL x=true:=by rfl) (jN:aL y=true:=by rfl) (aA:Nat.blt q eQ=true:=by rfl) (aZ:n=q:=by rfl):X B W az ro post n env L aP (.o (.bin .mul t x y) (al q) 1 ah k):=yS rfl (congrArg (Value.int .i64) (wrap64 sn He)) rfl ak bq h eZ jN aA aZ
theorem ajr (ak:ex (.int .i64 (a/b)::env) (q+1) x= .int .i64 a) (bq:ex (.int .i64 (a/b)::env) (q+1) y= .int .i64 b) (h:X B W az ro post (q+1) (.int .i64 (a/b)::env) L aP k) (aM:0<=a/\a<=9223372036854775807:=by omega) (ae:1<=b:=by omega) (eZ:aL x=true:=by rfl) (jN:aL y=true:=by rfl) (aA:Nat.blt q eQ=true:=by rfl) (aZ:n=q:=by rfl):X B W az ro post n env L aP (.o (.bin .quo t x y) (al q) 1 ah k):=
 mY _ (λM _ _ ag aw=> @aT.quo (cM M (_::env)) P t x y (al q) a b aM ae eZ jN rfl ((ag x).trans ak) ((ag y).trans bq) aw) h rfl aA aZ
theorem ajs (ak:ex (.int .i64 (a%b)::env) (q+1) x= .int .i64 a) (bq:ex (.int .i64 (a%b)::env) (q+1) y= .int .i64 b) (h:X B W az ro post (q+1) (.int .i64 (a%b)::env) L aP k) (aM:0<=a/\a<=9223372036854775807:=by omega) (ae:1<=b:=by omega) (eZ:aL x=true:=by rfl) (jN:aL y=true:=by rfl) (aA:Nat.blt q eQ=true:=by rfl) (aZ:n=q:=by rfl):X B W az ro post n env L aP (.o (.bin .rem t x y) (al q) 1 ah k):=
 mY _ (λM _ _ ag aw=> @aT.rem (cM M (_::env)) P t x y (al q) a b aM ae eZ jN rfl ((ag x).trans ak) ((ag y).trans bq) aw) h rfl aA aZ
theorem ajt {cW:Array aJ} (ak:ex (.int hi (max a b)::env) (q+1) x= .int hi a) (bq:ex (.int hi (max a b)::env) (q+1) y= .int hi b) (h:X B W az ro post (q+1) (.int hi (max a b)::env) L aP k) (eZ:aL x=true:=by rfl) (jN:aL y=true:=by rfl) (aA:Nat.blt q eQ=true:=by rfl) (aZ:n=q:=by rfl):X B W az ro post n env L aP (.o (.eR cW t x y) (al q) 1 ah k):=
 mY _ (λM _ _ ag aw=> @aT.pR (cM M (_::env)) P cW t x y (al q) hi a b eZ jN rfl ((ag x).trans ak) ((ag y).trans bq) aw) h rfl aA aZ
theorem aju {cW:Array aJ} (ak:ex (.int hi (min a b)::env) (q+1) x= .int hi a) (bq:ex (.int hi (min a b)::env) (q+1) y= .int hi b) (h:X B W az ro post (q+1) (.int hi (min a b)::env) L aP k) (eZ:aL x=true:=by rfl) (jN:aL y=true:=by rfl) (aA:Nat.blt q eQ=true:=by rfl) (aZ:n=q:=by rfl):X B W az ro post n env L aP (.o (.lz cW t x y) (al q) 1 ah k):=
 mY _ (λM _ _ ag aw=> @aT.s4 (cM M (_::env)) P cW t x y (al q) hi a b eZ jN rfl ((ag x).trans ak) ((ag y).trans bq) aw) h rfl aA aZ
end
theorem QG {x:J} {b:Bool} (ak:ex (.bool (!b)::env) (q+1) x= .bool b) (h:X B W az ro post (q+1) (.bool (!b)::env) L aP k) (eZ:aL x=true:=by rfl) (aA:Nat.blt q eQ=true:=by rfl) (aZ:n=q:=by rfl):X B W az ro post n env L aP (.o (.un .not x) (al q) 1 ah k):=
 mY _ (λM _ _ ag aw=>by
  have:= @aT.Oo (cM M (_::env)) P x b (!b) eZ ((ag x).trans ak) rfl
  exact Hd this (by rw[aw];rfl)) h rfl aA aZ
theorem ajv {t:aJ} {x y:J} {a b:Bool} (ak:ex (.bool (a==b)::env) (q+1) x= .bool a) (bq:ex (.bool (a==b)::env) (q+1) y= .bool b) (h:X B W az ro post (q+1) (.bool (a==b)::env) L aP k) (aK:P.underlying t=some .bool:=by kernel_rfl) (eZ:aL x=true:=by rfl) (jN:aL y=true:=by rfl) (aA:Nat.blt q eQ=true:=by rfl) (aZ:n=q:=by rfl):X B W az ro post n env L aP (.o (.bin .eql t x y) (al q) 1 ah k):=
 mY _ (λM _ _ ag aw=>Hd (@aT.F4 (cM M (_::env)) P t x y a b _ aK eZ jN ((ag x).trans ak) ((ag y).trans bq) rfl) (by rw[aw];rfl)) h rfl aA aZ
theorem ajw {t:aJ} {x y:J} {a b:Bool} (ak:ex (.bool (!(a==b))::env) (q+1) x= .bool a) (bq:ex (.bool (!(a==b))::env) (q+1) y= .bool b) (h:X B W az ro post (q+1) (.bool (!(a==b))::env) L aP k) (aK:P.underlying t=some .bool:=by kernel_rfl) (eZ:aL x=true:=by rfl) (jN:aL y=true:=by rfl) (aA:Nat.blt q eQ=true:=by rfl) (aZ:n=q:=by rfl):X B W az ro post n env L aP (.o (.bin .neq t x y) (al q) 1 ah k):=
 mY _ (λM _ _ ag aw=>Hd (@aT.afX (cM M (_::env)) P t x y a b _ aK eZ jN ((ag x).trans ak) ((ag y).trans bq) rfl) (by rw[aw];rfl)) h rfl aA aZ
def om (v:J) (j k o:Nat):J:=hW v (j*k+o)
def kD (c:List J):Nat->List J->List J
 |0,e=>e
 |m+1,e=>c.getD m undef::kD c m e
theorem Ak:∀(m:Nat) (c e:List J),kD c m e=((List.range m).map λi=>c.getD i undef).reverse++e
 |0,c,e=>rfl
 |m+1,c,e=>by
  unfold kD;rw[Ak m c e,List.range_succ];simp
theorem B9 (c:List J) (m:Nat) (h:c.length=m):(List.range m).map (λi=>c.getD i undef)=c:=by
 apply List.ext_getElem
 ·simp [h]
 ·intro i ad af
  simp only [List.getElem_map,List.getElem_range];rw[dh,fA af];rfl
theorem Y0 {α:Type} {l:List α} {j:Nat} (d:α) (h:j<l.length):l[j]? =some (l.getD j d):=by
 rw[dh,fA h];rfl
section
variable {t:aJ} {x y i:J} {hi:IntKind} {K:iR P} {v:J} {l:List K.α}
theorem ajx {a:Option Addr} {m c e:Nat} {ty:aJ} (ak:ex (.int .i64 (m:Nat)::env) (q+1) x= .slice a m c) (h:X B W az ro post (q+1) (.int .i64 (m:Nat)::env) L aP k) (aK:P.underlying t=some (.slice e):=by kernel_rfl) (eZ:aL x=true:=by rfl) (aA:Nat.blt q eQ=true:=by rfl) (aZ:n=q:=by rfl):X B W az ro post n env L aP (.o (.len #[t] ty x) (al q) 1 [0,e] k):=
 mY _ (λM _ _ ag aw=> @aT.len (cM M (_::env)) P t ty e x (al q) a m c eZ rfl aK ((ag x).trans ak) aw) h rfl aA aZ
theorem K5 {j e bb:Nat} (ak:ex (om v j K.k 0::env) (q+1) x=v) (ag:ex (om v j K.k 0::env) (q+1) i= .int hi (j:Nat)) (h:X B W az ro post (q+1) (om v j K.k 0::env) L aP k) (aw:mX ro L K v l:=by exact El) (hj:j<l.length:=by omega) (aK:P.underlying t=some (.slice K.e):=by kernel_rfl) (eZ:aL x=true:=by rfl) (pi:aL i=true:=by rfl) (aA:Nat.blt q eQ=true:=by rfl) (aZ:n=q:=by rfl):
  X B W az ro post n env L aP (.o (.dC t x i) (al q) 1 [0,e,bb] k):=
 mY _ (λM bn ao nU tr=> @aT.FW (cM M (_::env)) P K.α K.k K.enc v l (aw.r_ bn ao) t K.e x i (al q) j hi hj eZ pi rfl aK K.size ((nU x).trans ak) ((nU i).trans ag) tr) h rfl aA aZ
theorem ajy {a:Int} {e bb:Nat} (ak:ex (om v a.toNat K.k 0::env) (q+1) x=v) (ag:ex (om v a.toNat K.k 0::env) (q+1) i= .int hi a) (h:X B W az ro post (q+1) (om v a.toNat K.k 0::env) L aP k) (aw:mX ro L K v l:=by exact El) (aM:0<=a:=by omega) (hj:a.toNat<l.length:=by omega) (aK:P.underlying t=some (.slice K.e):=by kernel_rfl) (eZ:aL x=true:=by rfl) (pi:aL i=true:=by rfl) (aA:Nat.blt q eQ=true:=by rfl) (aZ:n=q:=by rfl):
  X B W az ro post n env L aP (.o (.dC t x i) (al q) 1 [0,e,bb] k):=
 K5 ak (by rw[ag,Int.toNat_of_nonneg aM]) h aw hj aK eZ pi aA aZ
theorem ajz {j o off ty bb f:Nat} (ak:ex (om v j K.k (o+off)::env) (q+1) x=om v j K.k o) (h:X B W az ro post (q+1) (om v j K.k (o+off)::env) L aP k) (aw:mX ro L K v l:=by exact El) (hj:j<l.length:=by omega) (aO:((P.fieldsOf t)[f]?).map (λf=>(f.type,f.offset))=some (ty,off):=by kernel_rfl) (aK:bd P (underlying t)=some (.struct (P.fieldsOf t)):=by kernel_rfl) (hm:bd P (sizeOf ty)=some bb:=by kernel_rfl) (aM:bb≠0:=by decide) (eZ:aL x=true:=by rfl) (aA:Nat.blt q eQ=true:=by rfl) (aZ:n=q:=by rfl):
  X B W az ro post n env L aP (.o (.cG t x f) (al q) 1 [off,ty,bb] k):=
 mY _ (λM bn ao nU tr=>by
  obtain⟨h7,yr,ajA⟩:=Option.map_eq_some_iff.1 aO;cases ajA
  exact @aT.V6 (cM M (om v j K.k (o+h7.offset)::env)) P t x (al q) v f (j*K.k+o) (j*K.k+(o+h7.offset)) (P.fieldsOf t) h7 bb eZ rfl aK yr hm aM (@Ou (cM M (om v j K.k (o+h7.offset)::env)) _ _ _ _ _ (aw.r_ bn ao) j hj) ar ((nU x).trans ak) tr) h rfl aA aZ
theorem ajB {j o c m e bb:Nat} (ak:ex (om v j K.k (o+c*bb)::env) (q+1) x=om v j K.k o) (ag:ex (om v j K.k (o+c*bb)::env) (q+1) i= .int hi (c:Nat)) (h:X B W az ro post (q+1) (om v j K.k (o+c*bb)::env) L aP k) (aw:mX ro L K v l:=by exact El) (hj:j<l.length:=by omega) (aq:c<m:=by omega) (aK:P.underlying t=some (.array m e):=by kernel_rfl) (bI:bd P (sizeOf e)=some bb:=by kernel_rfl) (eZ:aL x=true:=by rfl) (pi:aL i=true:=by rfl) (aA:Nat.blt q eQ=true:=by rfl) (aZ:n=q:=by rfl):
  X B W az ro post n env L aP (.o (.dC t x i) (al q) 1 [1,m,e,bb] k):=
 mY _ (λM bn ao nU tr=> @aT.afZ (cM M (om v j K.k (o+c*bb)::env)) P t e x i (al q) v m bb c (j*K.k+o) (j*K.k+(o+c*bb)) hi eZ pi rfl aK bI (@Ou (cM M (om v j K.k (o+c*bb)::env)) _ _ _ _ _ (aw.r_ bn ao) j hj) aq ar ((nU x).trans ak) ((nU i).trans ag) tr) h rfl aA aZ
theorem K6 {j o bb:Nat} {u:J} (ak:ex (u::env) (q+1) x=om v j K.k o) (hu:(K.enc (l.getD j K.KM))[o]? =some u) (h:X B W az ro post (q+1) (u::env) L aP k) (aw:mX ro L K v l:=by exact El) (hj:j<l.length:=by omega) (ad:oc u=u:=by rfl) (ha:bd P (isAgg t)=some false:=by kernel_rfl) (eZ:aL x=true:=by rfl) (aA:Nat.blt q eQ=true:=by rfl) (aZ:n=q:=by rfl):
  X B W az ro post n env L aP (.o (.bF t x) (al q) 1 [bb] k):=
 mY _ (λM bn ao nU tr=> @aT.V7 (cM M (_::env)) P K.α K.k K.enc v l (aw.r_ bn ao) t x (al q) j (j*K.k+o) o (l.getD j K.KM) u (Y0 _ hj) eZ rfl ha rfl hu ((nU x).trans ak) tr) h ad aA aZ
theorem Y1 {f:fW} {m:Nat} (c:List J) (aq:c.length=m) (ad:fP c) (aO:∀M,bH B (aF W) az M (ct L)->gB ro M->(∀x,@aI (cM M (kD c m env)) x=ex (kD c m env) (q+m) x)-> @aI (cM M (kD c m env)) (.agg ⟨kC m q⟩)= .agg ⟨c⟩-> @aT (cM M (kD c m env)) P (f,.agg ⟨kC m q⟩)) (h:X B W az ro post (q+m) (kD c m env) L aP k) (aA:Nat.blt (q+m) eQ=true) (aZ:n=q):
  X B W az ro post n env L aP (.o f (.agg ⟨kC m q⟩) m ah k):=by
 subst aZ;refine⟨λav ho=> ?_⟩;have e:kD c m env=c.reverse++env:=by rw[Ak,B9 c m aq]
 have lR:fP (c.reverse++env):=tf (p5 ad) ho;have fB:(c.reverse++env).length=n+m:=by simp [av,aq];omega
 have aj:=h;rw[e] at aj;refine .o c aq ad (λM bn ao=> ?_) (aj fB lR);have:=aO M bn ao;rw[e] at this;refine this (λx=>lJ M lR fB x) ?_;rw[lJ M lR fB];show Value.agg ⟨hF (c.reverse++env) (n+m) (kC m n)⟩= .agg ⟨c⟩;rw[ajj av aq (Nat.blt_eq.mp aA)]
theorem Em {j o bb:Nat} {c:List J} (ak:ex env n x=om v j K.k o) (hu:c=((K.enc (l.getD j K.KM)).drop o).take bb) (aq:c.length=bb) (ad:fP c) (h:X B W az ro post (q+bb) (kD c bb env) L aP k) (aw:mX ro L K v l:=by exact El) (hj:j<l.length:=by omega) (ha:bd P (isAgg t)=some true:=by kernel_rfl) (bI:bd P (sizeOf t)=some bb:=by kernel_rfl) (eZ:aL x=true:=by rfl) (QH:kA n x=true:=by rfl) (aA:Nat.blt (q+bb) eQ=true:=by rfl) (aZ:n=q:=by rfl):
  X B W az ro post n env L aP (.o (.bF t x) (.agg ⟨kC bb q⟩) bb [bb] k):=⟨λav ho=>
 Y1 c aq ad (λM bn ao nU tr=> @aT.afY (cM M (kD c bb env)) P K.α K.k K.enc v l (aw.r_ bn ao) t x _ j (j*K.k+o) o bb (l.getD j K.KM) c (Y0 _ hj) eZ (QE bb q) ha bI rfl aq (λi u ag=>by
  rw[hu,List.getElem?_take] at ag;split at ag
  ·rw[List.getElem?_drop] at ag;exact ag
  ·cases ag) (by
   have e:kD c bb env=c.reverse++env:=by rw[Ak,B9 c bb aq]
   rw[e,<-kB (uJ M M av) x QH,lJ M ho av,ak];rfl) tr) h aA aZ av ho⟩
end
section
variable {t:aJ} {x y i:J} {g ty:Nat} {cs:List J}
theorem ajC {a:Addr} (ak:ex (.pointer (some a)::env) (q+1) x= .pointer (some a)) (h:X B W az ro post (q+1) (.pointer (some a)::env) L aP k) (eZ:aL x=true:=by rfl) (aA:Nat.blt q eQ=true:=by rfl) (aZ:n=q:=by rfl):X B W az ro post n env L aP (.o (.dQ x) (al q) 1 ah k):=
 mY _ (λM _ _ ag aw=> @aT.WI (cM M (_::env)) P x (al q) a eZ rfl ((ag x).trans ak) aw) h rfl aA aZ
theorem ajD {o off f:Nat} {K7 bb:Nat} (ak:ex (.pointer (some ⟨g,o+off,none⟩)::env) (q+1) x= .pointer (some ⟨g,o,none⟩)) (h:X B W az ro post (q+1) (.pointer (some ⟨g,o+off,none⟩)::env) L aP k) (aO:((P.fieldsOf t)[f]?).map (λf=>(f.type,f.offset))=some (K7,off):=by kernel_rfl) (aK:bd P (underlying t)=some (.struct (P.fieldsOf t)):=by kernel_rfl) (hm:bd P (sizeOf K7)=some bb:=by kernel_rfl) (aM:bb≠0:=by decide) (eZ:aL x=true:=by rfl) (aA:Nat.blt q eQ=true:=by rfl) (aZ:n=q:=by rfl):
  X B W az ro post n env L aP (.o (.cG t x f) (al q) 1 [off,K7,bb] k):=
 mY _ (λM _ _ ag aw=> @aT.WJ (cM M (_::env)) P t x (al q) f g o K7 off bb aO aK hm aM eZ rfl ((ag x).trans ak) aw) h rfl aA aZ
theorem Y2 {o j m e bb:Nat} {hi:IntKind} (ak:ex (.pointer (some ⟨g,o+j*bb,none⟩)::env) (q+1) x= .pointer (some ⟨g,o,none⟩)) (ag:ex (.pointer (some ⟨g,o+j*bb,none⟩)::env) (q+1) i= .int hi (j:Nat)) (h:X B W az ro post (q+1) (.pointer (some ⟨g,o+j*bb,none⟩)::env) L aP k) (hj:j<m:=by omega) (aK:P.underlying t=some (.array m e):=by kernel_rfl) (bI:bd P (sizeOf e)=some bb:=by kernel_rfl) (eZ:aL x=true:=by rfl) (pi:aL i=true:=by rfl) (aA:Nat.blt q eQ=true:=by rfl) (aZ:n=q:=by rfl):
  X B W az ro post n env L aP (.o (.dC t x i) (al q) 1 [1,m,e,bb] k):=
 mY _ (λM _ _ nU aw=> @aT.Wn (cM M (_::env)) P t e x i (al q) g o m bb j hi eZ pi rfl aK bI ((nU x).trans ak) ((nU i).trans ag) hj aw) h rfl aA aZ
theorem B' {o bb:Nat} {u:J} (ak:ex (u::env) (q+1) x= .pointer (some ⟨g,o,none⟩)) (hL:my L (.box g ty cs)) (hu:cs[o]? =some u) (h:X B W az ro post (q+1) (u::env) L aP k) (ad:oc u=u:=by rfl) (ha:bd P (isAgg t)=some false:=by kernel_rfl) (eZ:aL x=true:=by rfl) (aA:Nat.blt q eQ=true:=by rfl) (aZ:n=q:=by rfl):
  X B W az ro post n env L aP (.o (.bF t x) (al q) 1 [bb] k):=
 mY _ (λM bn _ nU tr=> @aT.WH (cM M (_::env)) P B g o ty t cs x (al q) u (hL.get.elim λd bc=>bn.box d (ll bc)) hu eZ rfl ha ((nU x).trans ak) tr) h ad aA aZ
theorem xn {o bb:Nat} {c:List J} (ak:ex env n x= .pointer (some ⟨g,o,none⟩)) (hL:my L (.box g ty cs)) (hu:c=(cs.drop o).take bb) (aq:c.length=bb) (ad:fP c) (h:X B W az ro post (q+bb) (kD c bb env) L aP k) (ha:bd P (isAgg t)=some true:=by kernel_rfl) (bI:bd P (sizeOf t)=some bb:=by kernel_rfl) (eZ:aL x=true:=by rfl) (QH:kA n x=true:=by rfl) (aA:Nat.blt (q+bb) eQ=true:=by rfl) (aZ:n=q:=by rfl):
  X B W az ro post n env L aP (.o (.bF t x) (.agg ⟨kC bb q⟩) bb [bb] k):=⟨λav ho=>
 Y1 c aq ad (λM bn ao nU tr=> @aT.J8 (cM M (kD c bb env)) P B g o bb ty t cs c x _ (hL.get.elim λd bc=>bn.box d (ll bc)) hu eZ (QE bb q) ha bI aq (by
   have e:kD c bb env=c.reverse++env:=by rw[Ak,B9 c bb aq]
   rw[e,<-kB (uJ M M av) x QH,lJ M ho av,ak]) tr) h aA aZ av ho⟩
end
theorem kE {x:J} {p:Prop} [Decidable p] (ak:ex env n x= .bool (decide p)) (ad:p->X B W az ro post n env L aP db) (af:¬p->X B W az ro post n env L aP dr):X B W az ro post n env L aP (.eO x db dr):=⟨λav ho=>
 .eO _ ak (λh=>ad (of_decide_eq_true h) av ho) (λh=>af (of_decide_eq_false h) av ho)⟩
theorem En {x:J} {p:Prop} [Decidable p] (ak:ex env n x= .bool (!decide p)) (ad:¬p->X B W az ro post n env L aP db) (af:p->X B W az ro post n env L aP dr):X B W az ro post n env L aP (.eO x db dr):=⟨λav ho=>
 .eO _ ak (λh=>ad (by simpa using h) av ho) (λh=>af (by simpa using h) av ho)⟩
theorem Hf {x:J} (ak:ex env n x= .bool true) (h:X B W az ro post n env L aP db):X B W az ro post n env L aP (.eO x db dr):=⟨λav ho=> .eO _ ak (λ_=>h av ho) (λh=>by cases h)⟩
theorem Hg {x:J} (ak:ex env n x= .bool false) (h:X B W az ro post n env L aP dr):X B W az ro post n env L aP (.eO x db dr):=⟨λav ho=> .eO _ ak (λh=>by cases h) (λ_=>h av ho)⟩
theorem Y3 {t:aJ} {x:J} {a:Addr} (ak:ex (.bool false::env) (q+1) x= .pointer (some a)) (h:X B W az ro post (q+1) (.bool false::env) L aP k) (aK:P.underlying t=some (.pointer (P.pointee t)):=by kernel_rfl) (eZ:aL x=true:=by rfl) (aA:Nat.blt q eQ=true:=by rfl) (aZ:n=q:=by rfl):X B W az ro post n env L aP (.o (.bin .eql t x (.pointer none)) (al q) 1 ah k):=
 mY _ (λM _ _ ag aw=>Hd (@aT.X0 (cM M (_::env)) P t x a eZ aK ((ag x).trans ak)) (by rw[aw];rfl)) h rfl aA aZ
theorem Hh {x:J} {b:Bool} (ak:ex env n x= .bool b) (ad:b=true->X B W az ro post n env L aP db) (af:b=false->X B W az ro post n env L aP dr):X B W az ro post n env L aP (.eO x db dr):=⟨λav ho=>
 .eO _ ak (λh=>ad h av ho) (λh=>af h av ho)⟩
theorem oX {x:J} (h:post (ex env n x) L):X B W az ro post n env L aP (.ret x):=⟨λ_ _=> .ret L (pz.refl L) h⟩
theorem QI {xk:fe P} (h:X B W az ro post n env L aP k):X B W az ro post n env L (xk::aP) (.fT k):=⟨λav ho=> .fT (h av ho)⟩
end
end AE
namespace AE
variable {P:aR} {B:Nat} {W:ax} {az:List b0} {ro:List (iO P)} {post:J->List (a1 P)->Prop}
theorem j8.{u} {α:Type u} {l l':List α} {d:Nat} {a b:α} (h:oW l d a b l':=by repeat (first|exact oW.z|apply oW.s)):oW l d a b l':=h
theorem Hi.{u} {α:Type u} {l l':List α} {i:Nat} {b:α} (h:xm l i b l':=by repeat (first|exact xm.z|apply xm.s)):xm l i b l':=h
theorem p9.{u} {α:Type u} {l l':List α} {a:α} (h:tq l a l':=by repeat (first|exact tq.z|apply tq.s)):tq l a l':=h
theorem mz {l:List J} (h:fP l:=by repeat (first|exact trivial|refine⟨rfl,?_⟩)):fP l:=h
section
variable {n q:Nat} {env:List J} {L L':List (a1 P)} {aP:List (fe P)} {k db dr:bL}
section
variable {t:aJ} {p x:J}
theorem Hj {d g ty j:Nat} {cs cs':List J} {u:J} (hp:ex env n p= .pointer (some ⟨g,j,none⟩)) (ak:ex env n x=u) (eX:oW L d (.box g ty cs) (.box g ty cs') L') (aw:xm cs j u cs') (h:X B W az ro post n env L' aP k) (hu:u.cells= #[u]:=by rfl) (ad:u.oneCell'=true:=by rfl) (bI:bd P (sizeOf t)=some 1:=by kernel_rfl):
  X B W az ro post n env L aP (.st t p x k):=⟨λav ho=>by
 obtain⟨ag,rfl⟩:=eX.get;obtain⟨rfl,hj⟩:=aw.eq
 exact .Qi d ag hp ak hj hu ad bI (h av ho)⟩
theorem Y4 {d g ty j:Nat} {cs cs':List J} {u:J} (hp:ex env n p= .pointer (some ⟨g,j,none⟩)) (ak:ex env n x=u) (eX:oW L d (.box g ty cs) (.box g ty cs') L') (aw:cs'=cs.set j u) (h:X B W az ro post n env L' aP k) (hj:j<cs.length) (hu:u.cells= #[u]:=by rfl) (ad:u.oneCell'=true:=by rfl) (bI:bd P (sizeOf t)=some 1:=by kernel_rfl):
  X B W az ro post n env L aP (.st t p x k):=⟨λav ho=>by
 obtain⟨ag,rfl⟩:=eX.get;subst aw
 exact .Qi d ag hp ak hj hu ad bI (h av ho)⟩
theorem yT {K:iR P} {v:J} {l lU:List K.α} {d j o:Nat} {u:J} (y:K.α) (hp:ex env n p=om v j K.k o) (ak:ex env n x=u) (eX:oW L d (.arr K v l) (.arr K v lU) L') (hl:lU=l.set j y) (bq:∀z,l[j]? =some z->K.enc y=(K.enc z).set o u) (h:X B W az ro post n env L' aP k) (hj:j<l.length:=by omega) (ho:o<K.k:=by decide) (hu:u.cells= #[u]:=by rfl) (ad:u.oneCell'=true:=by rfl) (bI:bd P (sizeOf t)=some 1:=by kernel_rfl):
  X B W az ro post n env L aP (.st t p x k):=⟨λav lR=>by
 obtain⟨ag,rfl⟩:=eX.get;subst hl
 exact .YB d j o y ag hp hj ak ho hu ad bq bI (h av lR)⟩
theorem Hk {d g ty j m:Nat} {cs cs' us:List J} (hp:ex env n p= .pointer (some ⟨g,j,none⟩)) (ak:ex env n x= .agg ⟨us⟩) (eX:oW L d (.box g ty cs) (.box g ty cs') L') (aw:cs'=cs.take j++us++cs.drop (j+m)) (h:X B W az ro post n env L' aP k) (hj:j+m<=cs.length:=by exact gv rfl) (hu:us.length=m:=by rfl) (ad:∀u∈us,u.oneCell'=true:=by repeat (first|exact Gj|refine pX rfl ?_)) (bI:bd P (sizeOf t)=some m:=by kernel_rfl):
  X B W az ro post n env L aP (.st t p x k):=⟨λav ho=>by
 obtain⟨ag,rfl⟩:=eX.get;subst aw
 exact .YA d ag hp ak hj hu ad bI (h av ho)⟩
end
theorem ajE {t:aJ} {s:J} {c us cs cs':List J} {d g ty j m wM e:Nat} (aw:ex env n s= .slice (some ⟨g,j,none⟩) m wM) (ak:hF env n c=us) (eX:oW L d (.box g ty cs) (.box g ty cs') L') (he:cs'=cs.take j++us++cs.drop (j+us.length)) (h:X B W az ro post n env L' aP k)
  (aM:0<us.length:=by exact gv rfl) (hm:us.length<=m:=by exact gv rfl) (hj:j+us.length<=cs.length:=by exact gv rfl) (ad:∀u∈us,u.oneCell'=true:=by repeat (first|exact Gj|refine pX rfl ?_)) (aK:P.underlying t=some (.slice e):=by kernel_rfl) (bI:(P.info? e).map (·.size)=some 1:=by kernel_rfl):
  X B W az ro post n env L aP (.sa t s c k):=⟨λav ho=>by
 obtain⟨ag,rfl⟩:=eX.get;subst he
 exact .sa d ag aw ak aK bI aM hm ad hj (h av ho)⟩
theorem QJ {t:aJ} {x:J} {g ty:Nat} {cs:List J} {L':List (a1 P)} (ak:ex env n x= .pointer (some ⟨g,0,none⟩)) (hL:my L (.box g ty cs)) (d_:∀M,bH B (aF W) az M (ct L)->bH B (aF W) az M (ct L')) (h:post (.agg ⟨cs⟩) L') (ha:bd P (isAgg t)=some true:=by kernel_rfl) (aw:bd P (sizeOf t)=some cs.length:=by kernel_rfl) (aC:aL (.agg ⟨cs⟩)=true:=by rfl) (ag:∀f',@aI f' (.agg ⟨cs⟩)= .agg ⟨cs⟩:=by exact λ_=>rfl):
 X B W az ro post n env L aP (.tk t x):=⟨λ_ _=>hL.get.elim λi aA=> .tk i aA ak ha aw aC ag L' d_ h⟩
section
variable {t:aJ} {s x:J} {c:List J} {K:iR P} {v:J} {l:List K.α}
theorem ajF {d:Nat} {L':Option Addr->Nat->List (a1 P)} (lx:List K.α) (aw:ex env n s=v) (eX:∀a c,oW L d (.arr K v l) (.arr K (.slice a (l++lx).length c) (l++lx)) (L' a c)) (ak:hF env n c=lx.flatMap K.enc) (h:∀a c,X B W az ro post (n+1) (.slice a (l++lx).length c::env) (L' a c) aP k) (iE:l.length+lx.length<=maxLen) (ae:(l.length+lx.length)*K.bytes<=140737488355328) (aK:P.underlying t=some (.slice K.e):=by kernel_rfl):
  X B W az ro post n env L aP (.yN t s c k):=⟨λav ho=>
 .YC d lx (eX none 0).get.1 aw ak aK iE ae λa c=>(eX a c).get.2▸h a c (by simp [av]) ⟨rfl,ho⟩⟩
theorem QK {d:Nat} {L':Option Addr->Nat->List (a1 P)} {jt:J} {lx:List K.α} (aw:ex env n s=v) (ak:ex env n x=jt) (eX:∀a c,oW L d (.jq K v l) (.jq K (.slice a (l++lx).length c) (l++lx)) (L' a c)) (iY:mX ro L K jt lx) (h:∀a c,X B W az ro post (n+1) (.slice a (l++lx).length c::env) (L' a c) aP k) (iE:l.length+lx.length<=maxLen) (ae:(l.length+lx.length)*K.bytes<=140737488355328) (aK:P.underlying t=some (.slice K.e):=by kernel_rfl):
  X B W az ro post n env L aP (.vO t s x k):=⟨λav ho=>
 .YD d jt lx (eX none 0).get.1 aw ak aK (λ_ bn ao=>iY.r_ bn ao) iE ae λa c=>(eX a c).get.2▸h a c (by simp [av]) ⟨rfl,ho⟩⟩
theorem QL {m cap:Nat} {L':Nat->List (a1 P)} (K:iR P) (xs:List K.α) (ak:hF env n c=xs.flatMap K.enc) (eX:∀g,tq L (.red K (.slice (some ⟨g,0,none⟩) m cap) xs) (L' g)) (h:∀g,X B W az ro post (n+1) (.slice (some ⟨g,0,none⟩) m cap::env) (L' g) aP k) (hm:xs.length=m:=by rfl):X B W az ro post n env L aP (.tj c m cap k):=⟨λav ho=>
 .tj K xs ak hm λg=>(eX g).eq▸h g (by simp [av]) ⟨rfl,ho⟩⟩
theorem B_ {L':Nat->List (a1 P)} {u:J} {cs:List J} (ak:ex env n x=u) (hu:u.cells=⟨cs⟩) (eX:∀g,tq L (.box g t cs) (L' g)) (h:∀g,X B W az ro post (n+1) (.pointer (some ⟨g,0,none⟩)::env) (L' g) aP k):X B W az ro post n env L aP (.p7 t x k):=⟨λav ho=>
 .p7 ak hu λg=>(eX g).eq▸h g (by simp [av]) ⟨rfl,ho⟩⟩
theorem Eo {L':Nat->List (a1 P)} {z:J} (cs:List J) (bI:bd P (zeroValue t)=some z) (hu:z.cells=⟨cs⟩) (eX:∀g,tq L (.box g t cs) (L' g)) (h:∀g,X B W az ro post (n+1) (.pointer (some ⟨g,0,none⟩)::env) (L' g) aP k):X B W az ro post n env L aP (.qF t k):=⟨λav ho=>
 .qF bI hu λg=>(eX g).eq▸h g (by simp [av]) ⟨rfl,ho⟩⟩
theorem ajG {L':Nat->List (a1 P)} (eX:∀g,tq L (.any (js g [])) (L' g)) (h:∀g,X B W az ro post (n+1) (.map (some g)::env) (L' g) aP k):X B W az ro post n env L aP (.vP t k):=⟨λav ho=>
 .vP λg=>(eX g).eq▸h g (by simp [av]) ⟨rfl,ho⟩⟩
theorem ajH {d eC pn:Nat} {L':List (a1 P)} {g:Nat} {es:List (J×J)} {K:J->Prop} {m i xl jC:J} (bS:xj P eC K) (hm:ex env n m= .map (some g)) (ag:ex env n i=xl) (ak:ex env n x=jC) (aj:K xl) (aO:yK K es xl) (eX:oW L d (.any (js g es)) (.any (js g (es++[(xl,jC)]))) L') (h:X B W az ro post n env L' aP k)
  (aK:bd P (underlying t)=some (.map eC pn):=by rfl):X B W az ro post n env L aP (.vQ t m i x k):=⟨λav ho=>
 .vQ d bS aK eX.get.1 hm ag ak aj aO (eX.get.2▸h av ho)⟩
end
section
variable {f:FuncId} {args:List J} {r:J} {m:Nat}
theorem sq {v:J} (aq:∀w,py W az ro L w->Calls P f ⟨hF env n args⟩ w λe w'=>e= .returned v/\cb w.heap.size w w') (h:X B W az ro post (q+1) (v::env) L aP k) (ad:oc v=v:=by rfl) (aA:Nat.blt q eQ=true:=by rfl) (aZ:n=q:=by rfl):X B W az ro post n env L aP (.c f args (al q) 1 k):=by
 subst aZ;refine⟨λav ho=> ?_⟩;have fB:(v::env).length=n+1:=by simp [av]
 refine .c [v] rfl ⟨ad,trivial⟩ (λw hw=> ?_) (h fB ⟨ad,ho⟩);have:=tp (M:=λ_=>none) aA av ho ad;rw[lJ (λ_=>none) (env:=v::env) (n:=n+1) ⟨ad,ho⟩ fB] at this;show Calls P f _ w λe w'=>e= .returned (ex (v::env) (n+1) (al n))/\_
 rw[this];exact aq w hw
theorem QM (vs:List J) {rv:J} (aq:∀w,py W az ro L w->Calls P f ⟨hF env n args⟩ w λe w'=>e= .returned rv/\cb w.heap.size w w') (ao:ex (kD vs m env) (n+m) r=rv) (h:X B W az ro post (n+m) (kD vs m env) L aP k) (ad:fP vs:=by exact mz) (hm:vs.length=m:=by rfl):X B W az ro post n env L aP (.c f args r m k):=by
 refine⟨λav ho=> ?_⟩;have e:kD vs m env=vs.reverse++env:=by rw[Ak,B9 vs m hm]
 rw[e] at h ao;refine .c vs hm ad (λw hw=> ?_) (h (by simp [av,hm];omega) (tf (p5 ad) ho));rw[ao];exact aq w hw
theorem ajI (Y:Type) (is:List Nat) (vs:Y->List J) (jE vU:Y->List (a1 P)) {L':Y->List (a1 P)} (aq:∀w,py W az ro L w->cv (aF w) (pick (ct L) is)->Calls P f ⟨hF env n args⟩ w λe w'=>(∃y,e= .returned (ex (kD (vs y) m env) (n+m) r)/\c5 (aF w) (pick (ct L) is) (aF w') (ct (jE y++vU y)))/\cb 0 w w')
  (hL:∀y,vT L is (jE y)++vU y=L' y) (h:∀y,X B W az ro post (n+m) (kD (vs y) m env) (L' y) aP k) (h3:jK L.length is=true:=by rfl) (hl:∀y,(jE y).length=is.length:=by exact λ_=>rfl) (hm:∀y,(vs y).length=m:=by exact λ_=>rfl) (ad:∀y,fP (vs y):=by exact λ_=>mz):X B W az ro post n env L aP (.call f args r m k):=by
 refine⟨λav ho=> ?_⟩;have e:∀y,kD (vs y) m env=(vs y).reverse++env:=λy=>by rw[Ak,B9 _ m (hm y)]
 refine .call Y is h3 vs jE vU hl hm ad (λw hw _ aN=> ?_) (λy=> ?_)
 ·refine(aq w hw aN).mono λe' w' h=> ?_
  obtain⟨⟨y,bq,aw⟩,hl⟩:=h;exact⟨⟨y,by rw[<-e y];exact bq,aw⟩,hl⟩
 ·have:=h y (by rw[e y];simp [av,hm y];omega) (by rw[e y];exact tf (p5 (ad y)) ho)
  rw[e y,<-hL y] at this;exact this
end
theorem xo {vs:List J} {m:Nat} (eN:Type) (bp:eN->List J) (b1:eN->List (a1 P)) (gj:eN->Prop) (iD:eN->Nat) (lW:eN) (aM:hF env n vs=bp lW) (hL:L=b1 lW) (bg:gj lW)
  (h:∀u,gj u->X B W az ro post (n+m) (kD (bp u) m env) (b1 u) ((λcF L'=>∃u',gj u'/\iD u'<iD u/\cF=bp u'/\pz B W az L' (b1 u'))::aP) k) (hm:∀u,(bp u).length=m:=by exact λ_=>rfl) (ad:∀u,fP (bp u):=by exact λ_=>mz):X B W az ro post n env L aP (.loop vs m k):=⟨λav ho=>by
 refine .loop eN bp b1 gj iD lW hm ad aM (hL▸pz.refl L) bg λu hu=> ?_
 have e:kD (bp u) m env=(bp u).reverse++env:=by rw[Ak,B9 _ m (hm u)]
 have:=h u hu (by rw[e];simp [av,hm u];omega) (by rw[e];exact tf (p5 (ad u)) ho);rw[e] at this
 exact this⟩
theorem oo {eN:Type} {bp:eN->List J} {b1:eN->List (a1 P)} {gj:eN->Prop} {iD:eN->Nat} {u:eN} {vs:List J} (u':eN) (aC:hF env n vs=bp u') (hL:L=b1 u') (bg:gj u') (BM:iD u'<iD u):
 X B W az ro post n env L ((λcF L'=>∃u',gj u'/\iD u'<iD u/\cF=bp u'/\pz B W az L' (b1 u'))::aP) (.back vs):=⟨λ_ _=> .back ⟨u',bg,BM,aC,hL▸pz.refl L⟩⟩
end
theorem ajJ {n:Nat} {env:List J} {L:List (a1 P)} {aP:List (fe P)} {k db dr:bL} {x:J} {m:Nat} {p:Prop} [Decidable p] (eN:Type) (bp:eN->List J) (b1:eN->List (a1 P)) (gj:eN->Prop) (ak:ex env n x= .bool (decide p))
  (ad:p->X B W az ro post n env L ((λcF L'=>∃u',gj u'/\cF=bp u'/\pz B W az L' (b1 u'))::aP) db) (af:¬p->X B W az ro post n env L ((λcF L'=>∃u',gj u'/\cF=bp u'/\pz B W az L' (b1 u'))::aP) dr)
  (h:∀u,gj u->X B W az ro post (n+m) (kD (bp u) m env) (b1 u) aP k) (hm:∀u,(bp u).length=m:=by exact λ_=>rfl) (ho:∀u,fP (bp u):=by exact λ_=>mz):X B W az ro post n env L aP (.vN x db dr m k):=⟨λav lR=>by
 refine .vN _ ak eN bp b1 gj hm ho (λae=>ad (of_decide_eq_true ae) av lR) (λae=>af (of_decide_eq_false ae) av lR) λu hu=> ?_
 have e:kD (bp u) m env=(bp u).reverse++env:=by rw[Ak,B9 _ m (hm u)]
 have:=h u hu (by rw[e];simp [av,hm u];omega) (by rw[e];exact tf (p5 (ho u)) lR);rw[e] at this
 exact this⟩
theorem QN {n:Nat} {env:List J} {L:List (a1 P)} {aP:List (fe P)} {eN:Type} {bp:eN->List J} {b1:eN->List (a1 P)} {gj:eN->Prop} {vs:List J} (u':eN) (aC:hF env n vs=bp u') (hL:L=b1 u') (bg:gj u'):
 X B W az ro post n env L ((λcF L'=>∃u',gj u'/\cF=bp u'/\pz B W az L' (b1 u'))::aP) (.back vs):=⟨λ_ _=> .back ⟨u',bg,aC,hL▸pz.refl L⟩⟩
structure ajK (q:Prop):Prop where
 go:q
theorem cy {p q:Prop} (k:q) (h:ajK q->p:=by
 intro n0
 repeat (first
  |refine ajk U U ?_|refine ajl U U ?_|refine ajm U U ?_|refine ajn U U ?_|refine QF U U ?_|refine K4 U U ?_
  |refine ajo U U ?_|refine ajp U U ?_|refine ajq U U ?_|refine ajt U U ?_|refine aju U U ?_|refine ajr U U ?_|refine ajs U U ?_
  |refine QG rfl ?_|refine ajx rfl ?_|refine ajC rfl ?_|refine ajD rfl ?_|refine B' rfl has rfl ?_|refine K5 U U ?_|refine ajy U U ?_|refine ajz rfl ?_|refine ajB U U ?_|refine K6 U U ?_|refine Y2 U U ?_
  |refine ajv U U ?_|refine ajw U U ?_|refine Hj U U j8 Hi ?_|refine QI ?_)
 exact n0.go):p:=h ⟨k⟩
end AE
namespace AE
variable {P:aR} {B:Nat} {W:ax} {az:List b0} {ro:List (iO P)} {post:J->List (a1 P)->Prop}
def uO.{u} {α:Type u}:List α->List Nat->List α->List α
 |L,i::is,R::i_=>uO (L.set i R) is i_
 |L,[],i_=>L++i_
 |L,_::_,[]=>L
theorem Y5.{u} {α:Type u}:∀(is:List Nat) (L i_:List α),is.length<=i_.length->vT L is (i_.take is.length)++i_.drop is.length=uO L is i_
 |[],L,i_,_=>by simp [vT,uO]
 |i::is,L,[],h=>by simp at h
 |i::is,L,R::i_,h=>by
  simp only [List.length_cons,List.take_succ_cons,List.drop_succ_cons];exact Y5 is (L.set i R) i_ (by simpa using h)
def jZ (P:aR) (f:FuncId) (args:List J) (W:ax) (L:List (a1 P)) (Y:Type) (v:Y->J) (N:Y->List (a1 P)):Prop:=
 Calls P f ⟨args⟩ W λx w'=>(∃y,x= .returned (v y)/\c5 (aF W) (ct L) (aF w') (ct (N y)))/\cb 0 W w'
abbrev Y6 (P:aR) (f:FuncId) (args:List J) (W:ax) (v:J):Prop:=Calls P f ⟨args⟩ W λe w'=>e= .returned v/\cb W.heap.size W w'
section
variable {n:Nat} {env:List J} {L:List (a1 P)} {aP:List (fe P)} {k:bL} {f:FuncId} {args:List J} {r:J} {m:Nat}
theorem l6 {eb:List (a1 P)} {Y:Type} {v:Y->J} {N L':Y->List (a1 P)} {aW:List J} (is:List Nat) (vs:Y->List J) (aq:∀w,py W az ro L w->cv (aF w) (ct eb)->jZ P f aW w eb Y v N)
  (h:∀y,X B W az ro post (n+m) (kD (vs y) m env) (L' y) aP k) (ao:∀y,ex (kD (vs y) m env) (n+m) r=v y:=by exact λ_=>rfl) (hL:∀y,uO L is (N y)=L' y:=by exact λ_=>rfl) (hp:pick (ct L) is=ct eb:=by rfl) (h3:jK L.length is=true:=by rfl)
  (hl:∀y,is.length<=(N y).length:=by exact λ_=>gv rfl) (hm:∀y,(vs y).length=m:=by exact λ_=>rfl) (ad:∀y,fP (vs y):=by exact λ_=>mz) (ha:hF env n args=aW:=by rfl):X B W az ro post n env L aP (.call f args r m k):=
 ajI Y is vs (λy=>(N y).take is.length) (λy=>(N y).drop is.length) (λw hw aN=>by
  rw[hp] at aN ⊢;rw[ha];refine(aq w hw aN).mono λe w' ak=> ?_
  obtain⟨⟨y,bq,aK⟩,hl⟩:=ak
  exact⟨⟨y,by rw[bq,ao y],by rw[List.take_append_drop];exact aK⟩,hl⟩) (λy=>(Y5 is L (N y) (hl y)).trans (hL y)) h h3 (λy=>by rw[List.length_take];exact Nat.min_eq_left (hl y)) hm ad
end
theorem gB.nil (M:Mem):gB ([]:List (iO P)) M:=λi r h=>by simp at h
theorem gB.cons {r:iO P} {l:List (iO P)} {M:Mem} (h:r.ok M) (hl:gB l M):gB (r::l) M:=λi q aZ=>by
 cases i with
 |zero=>simp only [List.getElem?_cons_zero,cE] at aZ;subst aZ;exact h
 |succ i=>exact hl i q (by simpa using aZ)
theorem gB.ext {l:List (iO P)} (h:gB l (aF W)):∀M,p6 (aF W) [] M->gB l M:=λ_ bn i r ao=>cu.mono (h i r ao) λi o ag=>bn i o ag (DX i)
theorem gB.none {az:List b0}:∀M,p6 (aF W) az M->gB ([]:List (iO P)) M:=λM _=> .nil M
section
variable [Lib P] {f:FuncId} {h:BY} {args aW:List J} {n:Nat} {t:bL}
theorem mZ {L:List (a1 P)} {Y:Type} {v:Y->J} {N:Y->List (a1 P)} (cK:P.follows .mixedOrders=true) (aA:jj P f h args n=some t) (vs:List J) (aN:cv (aF W) (ct L)) (dE:∀M,p6 (aF W) (ct L) M->gB ro M)
  (ak:X 0 W (ct L) ro (λx L'=>∃y,x=v y/\L'=N y) n vs.reverse L [] t) (ha:hF vs.reverse n args=aW:=by rfl) (av:vs.length=n:=by rfl) (ho:fP vs:=by exact mz):jZ P f aW W L Y v N:=by
 subst ha;refine(aji cK aA L aN dE av ho (ak (by simp [av]) (p5 ho))).mono λe w q=> ?_
 obtain⟨⟨x,L',rfl,⟨y,rfl,rfl⟩,d_⟩,af⟩:=q;exact⟨⟨y,rfl,d_⟩,af⟩
theorem Y7 {v:J} (cK:P.follows .mixedOrders=true) (aA:jj P f h args n=some t) (vs:List J) (dE:gB ro (aF W))
  (ak:X W.heap.size W [] ro (λx _=>x=v) n vs.reverse [] [] t) (ha:hF vs.reverse n args=aW:=by rfl) (av:vs.length=n:=by rfl) (ho:fP vs:=by exact mz):Y6 P f aW W v:=by
 subst ha;refine(ajh cK aA dE.ext av ho (ak (by simp [av]) (p5 ho))).mono λe w q=> ?_
 obtain⟨⟨x,L',rfl,rfl,d_⟩,af⟩:=q;exact⟨rfl,af⟩
end
end AE
namespace AE
variable {P:aR} {B:Nat} {W:ax} {az:List b0} {ro:List (iO P)} {post:J->List (a1 P)->Prop}
theorem ajL {t e:aJ} {n j:Nat} {cs:List J} {k:IntKind} {u:J} (aK:P.underlying t=some (.array n e)) (cl:bd P (sizeOf e)=some 1) (ha:bd P (isAgg e)=some false) (hj:j<n) (hu:cs[j]? =some u) (w:ax):(Instr.index t (.agg ⟨cs⟩) (.int k (j:Nat))).run P w= .ok u w:=by
 have ad:(asIntOf (.int k (j:Nat))).run P w= .ok (k,((j:Nat):Int)) w:=rfl;have ah:(0:Int)<=((j:Nat):Int)/\((j:Nat):Int)<((n:Nat):Int):=⟨ar,ar⟩;unfold Instr.index;simp only [Sem.run_bind,ad,Result.andThen_ok,run_underlying aK];rw[aQ ah];simp only [Sem.run_bind,jc cl w,Result.andThen_ok];unfold part;simp only [Sem.run_bind,jc ha w,Result.andThen_ok];simp [hu]
theorem aT.ajM [a7] {t e:aJ} {x i r:J} {n j:Nat} {cs:List J} {k:IntKind} {u:J} (ak:aL x=true) (ag:aL i=true) (ao:aL r=true) (aK:P.underlying t=some (.array n e)) (cl:bd P (sizeOf e)=some 1) (ha:bd P (isAgg e)=some false) (hj:j<n) (hu:cs[j]? =some u)
  (ex:aI x= .agg ⟨cs⟩) (gp:aI i= .int k (j:Nat)) (b1:aI r=u):aT P (.eD t x i,r):=by
 refine zP (by simp [np,ak,ag]) ao rfl λdF dG w _=> ?_
 show (fF dF dG (.eD t (aI x) (aI i))).run P w=_;rw[ex,gp,b1];unfold fF;simp only [Sem.run_bind,ajL aK cl ha hj hu w,Result.andThen_ok];rfl
section
variable {n q:Nat} {ah:List Nat} {env:List J} {L:List (a1 P)} {aP:List (fe P)} {k:bL} {t:aJ} {x y i:J}
theorem Y8 {m e j:Nat} {hi:IntKind} {cs:List J} {u:J} (ak:ex (u::env) (q+1) x= .agg ⟨cs⟩) (ag:ex (u::env) (q+1) i= .int hi (j:Nat)) (hu:cs[j]? =some u) (h:X B W az ro post (q+1) (u::env) L aP k) (hj:j<m:=by omega) (ad:oc u=u:=by rfl) (aK:P.underlying t=some (.array m e):=by kernel_rfl) (cl:bd P (sizeOf e)=some 1:=by kernel_rfl) (ha:bd P (isAgg e)=some false:=by kernel_rfl) (eZ:aL x=true:=by rfl) (pi:aL i=true:=by rfl) (aA:Nat.blt q eQ=true:=by rfl) (aZ:n=q:=by rfl):
  X B W az ro post n env L aP (.o (.eD t x i) (al q) 1 [1,m,e,1] k):=
 mY _ (λM _ _ lv aw=> @aT.ajM P (cM M (_::env)) t e x i (al q) m j cs hi u eZ pi rfl aK cl ha hj hu ((lv x).trans ak) ((lv i).trans ag) aw) h ad aA aZ
theorem QO {a:Option Addr} {m c j e bb m':Nat} (hm:m-j=m') (ak:ex (.slice (k1 a c j bb) m' (c-j)::env) (q+1) x= .slice a m c) (ag:ex (.slice (k1 a c j bb) m' (c-j)::env) (q+1) i= .int .i64 (j:Nat)) (h:X B W az ro post (q+1) (.slice (k1 a c j bb) m' (c-j)::env) L aP k) (hj:j<=m:=by omega) (aK:P.underlying t=some (.slice e):=by kernel_rfl) (cl:bd P (sizeOf e)=some bb:=by kernel_rfl) (eZ:aL x=true:=by rfl) (pi:aL i=true:=by rfl) (aA:Nat.blt q eQ=true:=by rfl) (aZ:n=q:=by rfl):
  X B W az ro post n env L aP (.o (.lV t x (some i) none none) (al q) 1 [0,e,bb] k):=
 mY _ (λM _ _ lv aw=> @aT.Wh (cM M (_::env)) P t e bb x i (al q) a m c j eZ pi rfl aK cl ((lv x).trans ak) ((lv i).trans ag) hj (by rw[aw,hm])) h rfl aA aZ
theorem ajN {g o m e bb:Nat} (ak:ex (.slice (some ⟨g,o,none⟩) m m::env) (q+1) x= .pointer (some ⟨g,o,none⟩)) (h:X B W az ro post (q+1) (.slice (some ⟨g,o,none⟩) m m::env) L aP k) (aM:0<m:=by decide) (aK:P.underlying t=some (.array m e):=by kernel_rfl) (cl:bd P (sizeOf e)=some bb:=by kernel_rfl) (eZ:aL x=true:=by rfl) (aA:Nat.blt q eQ=true:=by rfl) (aZ:n=q:=by rfl):
  X B W az ro post n env L aP (.o (.lV t x none none none) (al q) 1 [1,m,e,bb] k):=
 mY _ (λM _ _ lv aw=> @aT.af0 (cM M (_::env)) P t e x (al q) g o m bb eZ rfl aK cl ((lv x).trans ak) aM aw) h rfl aA aZ
theorem Y9 {xs ys:List J} {b:Bool} (ak:ex (.bool (!b)::env) (q+1) x= .agg ⟨xs⟩) (bq:ex (.bool (!b)::env) (q+1) y= .agg ⟨ys⟩) (he:pT P 10000 t (.agg ⟨xs⟩) (.agg ⟨ys⟩)=some b) (h:X B W az ro post (q+1) (.bool (!b)::env) L aP k) (ajO:P.eqGuardType P.depth t=false:=by kernel_rfl) (eZ:aL x=true:=by rfl) (jN:aL y=true:=by rfl) (aA:Nat.blt q eQ=true:=by rfl) (aZ:n=q:=by rfl):
  X B W az ro post n env L aP (.o (.bin .neq t x y) (al q) 1 ah k):=
 mY _ (λM _ _ ag aw=>Hd (@aT.JO (cM M (_::env)) P t x y ⟨xs⟩ ⟨ys⟩ b ajO eZ jN ((ag x).trans ak) ((ag y).trans bq) he) (by rw[aw];rfl)) h rfl aA aZ
end
section
variable {n:Nat} {env:List J} {L:List (a1 P)} {aP:List (fe P)}
theorem pB {x:J} {L':List (a1 P)} (d_:∀M,bH B (aF W) az M (ct L)->bH B (aF W) az M (ct L')) (h:post (ex env n x) L'):X B W az ro post n env L aP (.ret x):=⟨λ_ _=> .ret L' d_ h⟩
end
theorem Y'.{u} {α:Type u}:∀(L R pre:List α),L.length=R.length->uO (pre++L) (List.range' pre.length L.length) R=pre++R
 |[],[],pre,_=>by simp [uO]
 |a::L,r::R,pre,h=>by
  have:=Y' L R (pre++[r]) (by simpa using h);rw[List.length_cons,List.range'_succ];show uO ((pre++a::L).set pre.length r) _ R=_;rw[List.set_append_right _ _ (b2 _),Nat.sub_self,List.set_cons_zero];simpa using this
theorem Hl.{u} {α:Type u} {n:Nat} {L R:List α} (hL:L.length=n) (iB:R.length=n):uO L (List.range' 0 n) R=R:=by
 subst hL;have:=Y' L R [] iB.symm;simpa using this
theorem QP:∀(eb X pre:List b0),pick (pre++(eb++X)) (List.range' pre.length eb.length)=eb
 |[],_,_=>rfl
 |a::eb,X,pre=>by
  have:=QP eb X (pre++[a]);rw[List.length_append,List.length_singleton,List.append_assoc] at this;rw[List.length_cons,List.range'_succ];unfold pick;rw[List.getElem?_append_right (b2 _),Nat.sub_self];show a::pick (pre++([a]++(eb++X))) _=_;rw[this]
theorem Y_.{u} {α:Type u}:∀(eb R X pre:List α),eb.length=R.length->uO (pre++(eb++X)) (List.range' pre.length eb.length) R=pre++(R++X)
 |[],[],X,pre,_=>by simp [uO]
 |a::eb,r::R,X,pre,h=>by
  have:=Y_ eb R X (pre++[r]) (by simpa using h);rw[List.length_append,List.length_singleton,List.append_assoc,List.append_assoc] at this;rw[List.length_cons,List.range'_succ];show uO ((pre++(a::(eb++X))).set pre.length r) _ R=_;rw[List.set_append_right _ _ (b2 _),Nat.sub_self,List.set_cons_zero];exact this
theorem QQ (n:Nat):∀(m s:Nat),s+m<=n->jK n (List.range' s m)=true
 |0,_,_=>rfl
 |m+1,s,h=>by
  rw[List.range'_succ];unfold jK;rw[QQ n m (s+1) ar,Bool.and_true,cV];refine⟨Nat.blt_eq.mpr ar,?_⟩;rw[Bool.not_eq_true',<-Bool.not_eq_true];intro aq;have:=List.mem_range'_1.1 (by simpa using aq:s∈List.range' (s+1) m);omega
theorem bH.pre {M:Mem} {eb X:List (a1 P)} (h:bH B (aF W) az M (ct (eb++X))):bH B (aF W) az M (ct eb):=by
 have e:=QP (ct eb) (ct X) [];have:=h.pick (List.range' 0 eb.length) (QQ _ _ _ (by simp));rw[show ct (eb++X)=ct eb++ct X from List.map_append] at this;rw[show (ct eb).length=eb.length from List.length_map _] at e;rw[List.nil_append] at e;rw[show List.range' 0 eb.length=List.range' ([]:List b0).length eb.length from rfl,e] at this;exact this
theorem ts {n:Nat} {env:List J} {L:List (a1 P)} {aP:List (fe P)} {k:bL} {f:FuncId} {args:List J} {r:J} {m:Nat} {eb Ca:List (a1 P)} {Y:Type} {v:Y->J} {N:Y->List (a1 P)} {aW:List J} (vs:Y->List J) (aq:∀w,py W az ro L w->cv (aF w) (ct eb)->jZ P f aW w eb Y v N)
  (h:∀y,X B W az ro post (n+m) (kD (vs y) m env) (N y++Ca) aP k) (ao:∀y,ex (kD (vs y) m env) (n+m) r=v y:=by exact λ_=>rfl) (hL:L=eb++Ca:=by rfl) (hl:∀y,eb.length=(N y).length:=by exact λ_=>rfl) (hm:∀y,(vs y).length=m:=by exact λ_=>rfl) (ad:∀y,fP (vs y):=by exact λ_=>mz) (ha:hF env n args=aW:=by rfl):X B W az ro post n env L aP (.call f args r m k):=by
 subst hL;refine l6 (eb:=eb) (L':=λy=>N y++Ca) (List.range' 0 eb.length) vs aq h ao (λy=>Y_ eb (N y) Ca [] (hl y)) ?_ (QQ _ _ _ (by simp)) (λy=>by rw[List.length_range',hl y];exact b2 _) hm ad ha;have e:=QP (ct eb) (ct Ca) [];rw[show (ct eb).length=eb.length from List.length_map _] at e;rw[show ct (eb++Ca)=ct eb++ct Ca from List.map_append];exact e
theorem QR {M:Mem} {L L':List (a1 P)} (d:Nat) {K:iR P} {a:Option Addr} {m c j m':Nat} {l lU:List K.α} (eX:oW L d (.jq K (.slice a m c) l) (.jq K (.slice (k1 a c j K.k) m' (c-j)) lU) L') (hl:lU=l.drop j) (hm:m-j=m') (hj:j<=m) (h:bH B (aF W) az M (ct L)):bH B (aF W) az M (ct L'):=by
 obtain⟨ag,rfl⟩:=eX.get;subst hl hm;rw[uN];exact h.mQ d (ll ag) (J5 ((h.jq d (ll ag)).drop K.len hj) (λ_ _ h _=>h) λi ag=> .inl (agQ ag))
end AE
section
noncomputable section
namespace AE
def xp (P:aR) (e k bytes:Nat):Bool:=match P.info? e with
 |some i=>(match i.zero with|some z=>Nat.beq z.cells.size k|none=>false)&&(Nat.beq i.size k&&(Nat.beq i.bytes bytes&&(match bd P (sizeOf e) with|some m=>Nat.beq m k|none=>false)))
 |none=>false
theorem Za {P:aR} {e k bytes:Nat} (h:xp P e k bytes=true):(∃i z,P.info? e=some i/\i.zero=some z/\i.size=k/\i.bytes=bytes/\z.cells.size=k)/\bd P (sizeOf e)=some k:=by
 unfold xp at h;split at h
 ·rename_i i ag
  simp only [cV] at h;obtain⟨ad,af,ay,bD⟩:=h;split at ad
  ·rename_i z bI
   split at bD
   ·rename_i m hm
    exact⟨⟨i,z,ag,bI,cA af,cA ay,cA ad⟩,by rw[hm,cA bD]⟩
   ·cases bD
  ·cases ad
 ·cases h
@[reducible] def Al {P:aR} {α:Type} (d:α) (e k bytes:Nat) (enc:α->List J) (h:xp P e k bytes=true) (aj:0<k:=by decide) (hl:∀x,(enc x).length=k:=by exact λ_=>rfl) (ho:∀x,∀u∈enc x,u.oneCell'=true:=by intro x;repeat (first|exact Gj|refine pX rfl ?_)):iR P:=
  ⟨α,d,e,k,bytes,enc,hl,ho,aj,(Za h).2,(Za h).1⟩
end AE
end
end
section
noncomputable section
namespace AE
abbrev bs:=List (fW×J)
abbrev ec:=List (FuncId×List J×J)
abbrev at' (N:Nat) (F:bs) (C:ec) (c:Code) (s:b6):Option bO:=V9 Tryd.prog F C N 1000 10 c s
abbrev ny (N:Nat) (F:bs) (C:ec) (ks:List fc) (o:Option bO):Option bO:=V' Tryd.prog F C N 1000 10 ks o
abbrev tt (N:Nat) (F:bs) (C:ec) (m:Nat) (o:Option bO):Option bO:=Od Tryd.prog F C N 1000 10 m o
abbrev Ep (N:Nat) (F:bs) (C:ec) (r:List Oper) (ops:Array Oper) (ks:List fc) (s:b6):Option bO:=Bs Tryd.prog F C N 1000 10 r ops ks s
abbrev eh:=Code×List Nat×Nat
def od (p:eh):Array Oper:=agC p.1 p.2.1
def Zb (p:eh):List fc:=oh p.1 p.2.1 []
def Zc (p:eh):List Oper:=(od p).toList.drop p.2.2
def QS (o:Option bO):List Oper×Array Oper×List fc:=(j6 o,j7 o,f_ o)
def QT (p:eh):List Oper×Array Oper×List fc:=(Zc p,od p,Zb p)
abbrev c1 (N:Nat) (F:bs) (C:ec) (p:eh) (s:b6):Option bO:=Bs Tryd.prog F C N 1000 10 (Zc p) (od p) (Zb p) s
def fk (N:Nat) (sl:aG) (dst:Nat) (v:J):aG:=match gX N sl (some dst) v with|some s=>s|none=> .nil
section
variable [a7] [cH] {N B:Nat} {w0 w:ax} {a:Act} {Q:Exit->Act->ax->Prop} [mP Q]
theorem bK (F:bs) (T:ec) {c:Code} {s:b6} (c0:s5 Tryd.prog F) (d_:r6 Tryd.prog T) (h:e_ Tryd.prog N B w0 Q (at' N F T c s)) (ah:Here N s B w0 a w):c.wpIn (Fr none) 0 Tryd.prog Q a w:=afI mixed c0 d_ h ah
theorem ep {o:Option bO} {p:eh} {s:b6} (e:QS o=QT p) (F:bs) (T:ec) (c0:s5 Tryd.prog F) (d_:r6 Tryd.prog T) (h:e_ Tryd.prog N B w0 Q (c1 N F T p s)) (ah:Here N s B w0 a w):wpListIn (Fr none) 0 Tryd.prog (j7 o) (dK Tryd.prog (f_ o) Q) (j6 o) a w:=
 agD (congrArg Prod.fst e) (congrArg (λx=>x.2.1) e) (congrArg (λx=>x.2.2) e) mixed c0 d_ h ah
theorem nV {ks:List fc} {o:Option bO} {R:Act->ax->Prop} (F:bs) (T:ec) (c0:s5 Tryd.prog F) (d_:r6 Tryd.prog T) (h:e_ Tryd.prog N B w0 Q (ny N F T ks o)):e_ Tryd.prog N B w0 (Exit.then R (dK Tryd.prog ks Q)) o:=afJ mixed c0 d_ h
end
theorem gb {s1 s2:a7} {l:eg} (h:fj s1 s2 l:=by repeat (first|exact zM|refine afK (by first|exact agU U U U U|rfl|exact afM U U ar|exact afL ar|exact agP rfl bt) ?_)):fj s1 s2 l:=h
theorem tu {s1:a7} [cH] {P:aR} {N B:Nat} {w0:ax} {X:Type} {f':X->a7} {gj:X->Prop} {iD:X->Nat} {m:Nat} {head:aG} {aV:List bw} {o:Option bO} (x':X) {bG:eg} {Q:Exit->Act->ax->Prop} (ae:qx head aV o=some bG) (hm:fj s1 (f' x') bG)
 (bg:gj x') (BM:iD x'<m:=by (try dsimp only);omega) (qw:∀i o,(f' x').df i=some o->s1.df i=some o:=by exact λ_ _ h=>h) (av:cH.dV<=aV.length:=by first|exact Nat.zero_le _|exact gv rfl) (aq:hV (b4 o).A aV 0:=by exact gn rfl):
 @e_ s1 _ P N B w0 (Exit.then (OV f' gj iD m N head aV B w0) Q) o:=agT x' ae hm qw bg BM av aq
section
variable [a7] {P:aR}
theorem bC {op:BinOp} {t:aJ} {x y r:J} {k:IntKind} {a b:Int} (ex:aI x= .int k a:=by exact rfl) (hx:aI y= .int k b:=by exact rfl)
 (ak:aL x=true:=by exact rfl) (bq:aL y=true:=by exact rfl) (ao:aL r=true:=by exact rfl) (cm:zL op=true:=by exact rfl) (b1:aI r=yo op k a b:=by exact af2 ar):aT P (.bin op t x y,r):=aT.bi ak bq ao cm ex hx b1
theorem bf {op:BinOp} {t:aJ} {x y r:J} {k:IntKind} {a b:Int} (ex:aI x= .int k a:=by exact rfl) (hx:aI y= .int k b:=by exact rfl)
 (ak:aL x=true:=by exact rfl) (bq:aL y=true:=by exact rfl) (ao:aL r=true:=by exact rfl) (cm:zL op=true:=by exact rfl) (b1:aI r=yo op k a b:=by exact af3 ar):aT P (.bin op t x y,r):=aT.bi ak bq ao cm ex hx b1
theorem tv {op:BinOp} {t:aJ} {x y r:J} {k:IntKind} {a b:Int} (ex:aI x= .int k a:=by exact rfl) (hx:aI y= .int k b:=by exact rfl)
 (ak:aL x=true:=by exact rfl) (bq:aL y=true:=by exact rfl) (ao:aL r=true:=by exact rfl) (cm:zL op=true:=by exact rfl) (b1:aI r=yo op k a b:=by exact af4 ar):aT P (.bin op t x y,r):=aT.bi ak bq ao cm ex hx b1
theorem sr {op:BinOp} {t:aJ} {x y r:J} {k:IntKind} {a b:Int} (ex:aI x= .int k a:=by exact rfl) (hx:aI y= .int k b:=by exact rfl)
 (ak:aL x=true:=by exact rfl) (bq:aL y=true:=by exact rfl) (ao:aL r=true:=by exact rfl) (cm:zL op=true:=by exact rfl) (b1:aI r=yo op k a b:=by exact af5 ar):aT P (.bin op t x y,r):=aT.bi ak bq ao cm ex hx b1
theorem k5 {op:BinOp} {t:aJ} {x y r:J} {k:IntKind} {a b:Int} (ex:aI x= .int k a:=by exact rfl) (hx:aI y= .int k b:=by exact rfl)
 (ak:aL x=true:=by exact rfl) (bq:aL y=true:=by exact rfl) (ao:aL r=true:=by exact rfl) (cm:zL op=true:=by exact rfl) (b1:aI r=yo op k a b:=by exact pj ar ar ar):aT P (.bin op t x y,r):=aT.bi ak bq ao cm ex hx b1
theorem ln {x r:J} {a:Addr} (ex:aI x= .pointer (some a):=by exact rfl) (b1:aI r= .pointer (some a):=by exact rfl) (ak:aL x=true:=by exact rfl) (ao:aL r=true:=by exact rfl):aT P (.dQ x,r):=aT.WI ak ao ex b1
theorem jG {s:aJ} {x r:J} {f g o:Nat} (ty off m:Nat) (ex:aI x= .pointer (some ⟨g,o,none⟩):=by exact rfl) (b1:aI r= .pointer (some ⟨g,o+off,none⟩):=by exact rfl) (ak:aL x=true:=by exact rfl) (ao:aL r=true:=by exact rfl)
 (aO:((P.fieldsOf s)[f]?).map (λf=>(f.type,f.offset))=some (ty,off):=by kernel_rfl) (aw:bd P (underlying s)=some (.struct (P.fieldsOf s)):=by kernel_rfl) (hm:bd P (sizeOf ty)=some m:=by kernel_rfl) (aM:m≠0:=by decide):aT P (.cG s x f,r):=aT.WJ aO aw hm aM ak ao ex b1
section
variable {B g:Nat} {dx:Mem} {b3 L:List b0}
theorem qJ {ty t:aJ} {cs:List J} {p r u:J} (j i:Nat) (cY:bH B dx b3 a7.df L) (ag:L[i]? =some (ij g ty cs):=by exact rfl) (lZ:aI p= .pointer (some ⟨g,j,none⟩):=by exact rfl) (hj:cs[j]? =some u:=by exact rfl) (b1:aI r=u:=by exact rfl)
 (hp:aL p=true:=by exact rfl) (ao:aL r=true:=by exact rfl) (ha:bd P (isAgg t)=some false:=by kernel_rfl):aT P (.bF t p,r):=aT.WH (cY.box i ag) hj hp ao ha lZ b1
theorem Hm {ty t:aJ} {cs us:List J} {p r:J} (o n i:Nat) (cY:bH B dx b3 a7.df L) (ag:L[i]? =some (ij g ty cs):=by exact rfl) (lZ:aI p= .pointer (some ⟨g,o,none⟩):=by exact rfl) (hu:us=(cs.drop o).take n:=by exact rfl) (b1:aI r= .agg ⟨us⟩:=by exact rfl)
 (hp:aL p=true:=by exact rfl) (ao:aL r=true:=by exact rfl) (ha:bd P (isAgg t)=some true:=by kernel_rfl) (av:bd P (sizeOf t)=some n:=by kernel_rfl) (hl:us.length=n:=by exact rfl):aT P (.bF t p,r):=aT.J8 (cY.box i ag) hu hp ao ha av hl lZ b1
end
section
variable {α:Type} {k:Nat} {enc:α->List J} {v:J} {l:List α}
theorem Am {t e:aJ} {x i r:J} {j:Nat} {hi:IntKind} (h:cu a7.df k enc v l) (hj:j<l.length) (aK:P.underlying t=some (.slice e)) (cl:bd P (sizeOf e)=some k) (ex:aI x=v:=by exact rfl) (gp:aI i= .int hi j:=by exact rfl) (b1:aI r=hW v (j*k):=by exact rfl)
 (ak:aL x=true:=by exact rfl) (ag:aL i=true:=by exact rfl) (ao:aL r=true:=by exact rfl):aT P (.dC t x i,r):=aT.FW h hj ak ag ao aK cl ex gp b1
theorem p_ {t e:aJ} {x i r:J} {j:Nat} {hi:IntKind} (h:cu a7.df k enc v l) (aK:P.underlying t=some (.slice e)) (cl:bd P (sizeOf e)=some k) (ex:aI x=v:=by exact rfl) (gp:aI i= .int hi j:=by exact rfl) (b1:aI r=hW v (j*k):=by exact rfl) (hj:j<l.length:=by omega)
 (ak:aL x=true:=by exact rfl) (ag:aL i=true:=by exact rfl) (ao:aL r=true:=by exact rfl):aT P (.dC t x i,r):=aT.FW h hj ak ag ao aK cl ex gp b1
theorem tw {t:aJ} {p r:J} {i o:Nat} {x:α} {u:J} (j:Nat) (h:cu a7.df k enc v l) (ag:l[i]? =some x) (ha:bd P (isAgg t)=some false) (hu:(enc x)[j]? =some u:=by exact rfl) (ho:o=i*k+j:=by exact rfl) (ex:aI p=hW v o:=by exact rfl) (b1:aI r=u:=by exact rfl)
 (hp:aL p=true:=by exact rfl) (ao:aL r=true:=by exact rfl):aT P (.bF t p,r):=aT.V7 h ag hp ao ha ho hu ex b1
theorem eT {t ty e:aJ} {x r:J} (h:cu a7.df k enc v l) (aK:P.underlying t=some (.slice e)) (ex:aI x=v:=by exact rfl) (b1:aI r= .int .i64 l.length:=by exact rfl) (ak:aL x=true:=by exact rfl) (ao:aL r=true:=by exact rfl):aT P (.len #[t] ty x,r):=aT.afy h ak ao aK ex b1
end
end
abbrev _root_.List.e5 {α:Type} [Inhabited α] (l:List α) (i:Nat):α:=l.getD i default
abbrev bA {α:Type} (a:Option Addr) (l:List α) (c:Nat):J:= .slice a l.length c
abbrev gT (g o:Nat):J:= .pointer (some ⟨g,o,none⟩)
abbrev K8 {α:Type} (e:aJ) (k:Nat) (enc:α->List J) (a:Option Addr) (l:List α) (c:Nat):b0:=h2 e k enc (.slice a l.length c) l
abbrev Er {α:Type} (e:aJ) (k:Nat) (enc:α->List J) (a:Option Addr) (l:List α) (c:Nat):b0:=pV e k enc (.slice a l.length c) l
abbrev Es {α:Type} (e:aJ) (k:Nat) (enc:α->List J) (a:Option Addr) (n c:Nat) (l:List α):b0:=h2 e k enc (.slice a n c) l
abbrev Ao (a:Option Addr) (l:List bM) (c:Nat):b0:=K8 p2 4 dM a l c
abbrev QU (a:Option Addr) (n c:Nat) (l:List bM):b0:=Es p2 4 dM a n c l
abbrev tz (a:Option Addr) (l:List Bool) (c:Nat):b0:=K8 mv 1 iQ a l c
abbrev Ap (a:Option Addr) (n c:Nat) (l:List Bool):b0:=Es mv 1 iQ a n c l
abbrev qa (a:Option Addr) (l:List Int) (c:Nat):b0:=K8 lE 1 ga a l c
abbrev vY (a:Option Addr) (n c:Nat) (l:List Int):b0:=Es lE 1 ga a n c l
abbrev K9 (a:Option Addr) (l:List cX) (c:Nat):b0:=K8 oe 8 jf a l c
abbrev ajP (a:Option Addr) (n c:Nat) (l:List cX):b0:=Es oe 8 jf a n c l
abbrev yU (a:Option Addr) (l:List Nat) (c:Nat):b0:=Er te 1 p1 a l c
abbrev QV (a:Option Addr) (l:List az) (c:Nat):b0:=Er z_ 5 kz a l c
abbrev QW (a:Option Addr) (l:List iN) (c:Nat):b0:=Er z' 3 vH a l c
instance instSymN (n:Nat):OfNat J n:=⟨al n⟩
abbrev I (x:Int):J:= .int .i64 x
theorem iT {α:Type} (a:α):∃x,x=a:=⟨a,rfl⟩
abbrev bH.IC {B:Nat} {dx:Mem} {b3:List b0} {M:Mem} {L:List b0} (_:bH B dx b3 M L):List b0:=b3
def hf (o:Option bO):Option (FuncId×List J):=match vy Tryd.prog o with|some x=>some (x.1,x.2.1)|none=>none
theorem QX {o:Option bO} {f:FuncId} {args:List J} (h:hf o=some (f,args)):(vy Tryd.prog o).isSome=true/\(r9 Tryd.prog o).1=f/\(r9 Tryd.prog o).2.1=args:=by
 unfold hf at h;unfold r9;cases e:vy Tryd.prog o with
 |none=>rw[e] at h;cases h
 |some x=>rw[e] at h;cases h;exact⟨rfl,rfl,rfl⟩
theorem hH [cH] {N B:Nat} {w0:ax} {Q:Exit->Act->ax->Prop} {M:Mem} {bj:List J} {o:Option bO} {f:FuncId} {args:List J} {ea:J} {Y:Type} {bh:Y->List J} {du dq:aG} {aV:List bw} {bG:eg} {dx:Mem} {az nO:List b0} {xd:Y->List b0}
  (aN:bH B dx az M nO) (is:List Nat) (jE DZ:Y->List b0) (he:hf o=some (f,args)) (cR:cq (kx Tryd.prog o) du aV=some bG) (dU:gX N du (je o) ea=some dq)
  (h3:jK nO.length is=true:=by exact rfl) (hL:∀y,xd y=jE y++DZ y:=by exact λ_=>rfl)
  (fI:∀w,(∀i o,M i=some o->w.heap[i]? =some o)->B<=w.heap.size->cv (aF w) (AE.pick nO is)->Calls Tryd.prog f ⟨@ew (aS M bj) args⟩ w λe w'=>(∃y,e= .returned (@aI (aS M (bh y)) ea)/\c5 (aF w) (AE.pick nO is) (aF w') (xd y))/\cb 0 w w')
  (rest:∀M' y,bH B dx az M' (lj nO is (jE y)++DZ y)->∀aW w,@Here (aS M' (bh y)) _ N {sl:=dq,ms:=[],A:=dd aV} B w0 aW w->wpListIn (Fr none) 0 Tryd.prog (j7 o) (dK Tryd.prog (f_ o) Q) (j6 o) aW w)
  (ao:∀M' y,@aI (aS M' (bh y)) ea= @aI (aS M (bh y)) ea:=by exact λ_ _=>rfl)
  (hm:∀y M',fj (aS M bj) (aS M' (bh y)) bG:=by exact λ_ _=>gb)
  (hlen:∀y,(jE y).length=is.length:=by exact λ_=>rfl) (hp:dP args=true:=by rfl) (fV:aL ea=true:=by rfl)
  (av:cH.dV<=aV.length:=by first|exact Nat.zero_le _|exact gv rfl) (aq:hV (kx Tryd.prog o).A aV 0:=by exact gn rfl): @e_ (aS M bj) _ Tryd.prog N B w0 Q o:=
 WZ aN is jE DZ (QX he).1 (QX he).2.1 (QX he).2.2 cR dU h3 ao hL fI hm rest hlen hp fV av aq
section
variable [a7] {f:FuncId} {fn:Func} {args:List J} {W:ax} {R:Ending->ax->Prop}
theorem Zd (c:Code) (a8:b6) (N:Nat) (args:List J) (pg:n' W) (mM:Tryd.prog.funcs[f]? =some fn) (rb:∀a,@Here _ fG N a8 W.heap.size W a W->c.wpIn (Fr none) 0 Tryd.prog (@rf fG Tryd.prog fn N W.heap.size W R) a W)
  (aq:fn.body=some c:=by kernel_rfl) (gw:(match setArgs 0 args .nil with|some sl=>some ({sl,ms:=[],A:=start}:b6)|none=>none)=some a8:=by kernel_rfl) (hp:dP args=true:=by kernel_rfl) (j5:args.length+(fn.ntmps-args.length)=N:=by kernel_rfl):Calls Tryd.prog f ⟨ew args⟩ W R:=by
 cases e:setArgs 0 args .nil with
 |none=>rw[e] at gw;cases gw
 |some sl=>rw[e] at gw;cases gw;exact V_ mM aq e hp j5 pg rb
theorem ajQ (c:Code) (a8:b6) (N:Nat) (args:List J) (pg:n' W) (mM:Tryd.prog.funcs[f]? =some fn) (rb:∀a,@Here _ fG N a8 0 W a W->c.wpIn (Fr none) 0 Tryd.prog (@rf fG Tryd.prog fn N 0 W R) a W)
  (aq:fn.body=some c:=by kernel_rfl) (gw:(match setArgs 0 args .nil with|some sl=>some ({sl,ms:=[],A:=start}:b6)|none=>none)=some a8:=by kernel_rfl) (hp:dP args=true:=by kernel_rfl) (j5:args.length+(fn.ntmps-args.length)=N:=by kernel_rfl):Calls Tryd.prog f ⟨ew args⟩ W R:=by
 cases e:setArgs 0 args .nil with
 |none=>rw[e] at gw;cases gw
 |some sl=>rw[e] at gw;cases gw;exact Wi mM aq e hp j5 pg rb
end
section
variable [cH] {N B:Nat} {w0:ax} {X:Type}
end
section
variable [a7] [cH] {N B:Nat} {w0 w:ax} {a:Act} {Q:Exit->Act->ax->Prop} [mP Q]
end
abbrev cg {s:a7} {o:cH} {N:Nat} {st:b6} {B:Nat} {w0:ax} {a:Act} {w:ax} (_: @Here s o N st B w0 a w):a7:=s
section
variable {B:Nat} {dx:Mem} {b3:List b0} {M:Mem}
theorem bH.Aq {fE:b0} (h:bH B dx b3 M [fE]):bH B dx b3 M [fE]:=h
theorem bH.Hn {fE eA:b0} (h:bH B dx b3 M [fE,eA]):bH B dx b3 M [fE,eA]:=h
theorem bH.yV {fE eA gI:b0} (h:bH B dx b3 M [fE,eA,gI]):bH B dx b3 M [fE,eA,gI]:=h
theorem bH.Ho {fE eA gI g':b0} (h:bH B dx b3 M [fE,eA,gI,g']):bH B dx b3 M [fE,eA,gI,g']:=h
theorem bH.Hp {fE eA gI g' hI:b0} (h:bH B dx b3 M [fE,eA,gI,g',hI]):bH B dx b3 M [fE,eA,gI,g',hI]:=h
theorem bH.Ze {fE eA gI g' hI h4:b0} (h:bH B dx b3 M [fE,eA,gI,g',hI,h4]):bH B dx b3 M [fE,eA,gI,g',hI,h4]:=h
theorem bH.ajR {fE eA gI g' hI h4 iG:b0} (h:bH B dx b3 M [fE,eA,gI,g',hI,h4,iG]):bH B dx b3 M [fE,eA,gI,g',hI,h4,iG]:=h
theorem bH.ajS {fE eA gI g' hI h4 iG ju:b0} (h:bH B dx b3 M [fE,eA,gI,g',hI,h4,iG,ju]):bH B dx b3 M [fE,eA,gI,g',hI,h4,iG,ju]:=h
theorem bH.ajT {fE eA gI g' hI h4 iG ju j0:b0} (h:bH B dx b3 M [fE,eA,gI,g',hI,h4,iG,ju,j0]):bH B dx b3 M [fE,eA,gI,g',hI,h4,iG,ju,j0]:=h
theorem bH.Zf {fE eA gI g' hI h4 iG ju j0 kF:b0} (h:bH B dx b3 M [fE,eA,gI,g',hI,h4,iG,ju,j0,kF]):bH B dx b3 M [fE,eA,gI,g',hI,h4,iG,ju,j0,kF]:=h
theorem bH.QY {fE eA gI g' hI h4 iG ju j0 kF lK:b0} (h:bH B dx b3 M [fE,eA,gI,g',hI,h4,iG,ju,j0,kF,lK]):bH B dx b3 M [fE,eA,gI,g',hI,h4,iG,ju,j0,kF,lK]:=h
theorem bH.Cb {fE eA gI g' hI h4 iG ju j0 kF lK na:b0} (h:bH B dx b3 M [fE,eA,gI,g',hI,h4,iG,ju,j0,kF,lK,na]):bH B dx b3 M [fE,eA,gI,g',hI,h4,iG,ju,j0,kF,lK,na]:=h
theorem bH.Et {fE eA gI g' hI h4 iG ju j0 kF lK na oq:b0} (h:bH B dx b3 M [fE,eA,gI,g',hI,h4,iG,ju,j0,kF,lK,na,oq]):bH B dx b3 M [fE,eA,gI,g',hI,h4,iG,ju,j0,kF,lK,na,oq]:=h
theorem bH.QZ {fE eA gI g' hI h4 iG ju j0 kF lK na oq qb:b0} (h:bH B dx b3 M [fE,eA,gI,g',hI,h4,iG,ju,j0,kF,lK,na,oq,qb]):bH B dx b3 M [fE,eA,gI,g',hI,h4,iG,ju,j0,kF,lK,na,oq,qb]:=h
theorem bH.ajU {fE eA gI g' hI h4 iG ju j0 kF lK na oq qb ss:b0} (h:bH B dx b3 M [fE,eA,gI,g',hI,h4,iG,ju,j0,kF,lK,na,oq,qb,ss]):bH B dx b3 M [fE,eA,gI,g',hI,h4,iG,ju,j0,kF,lK,na,oq,qb,ss]:=h
theorem bH.ajV {fE eA gI g' hI h4 iG ju j0 kF lK na oq qb ss vZ:b0} (h:bH B dx b3 M [fE,eA,gI,g',hI,h4,iG,ju,j0,kF,lK,na,oq,qb,ss,vZ]):bH B dx b3 M [fE,eA,gI,g',hI,h4,iG,ju,j0,kF,lK,na,oq,qb,ss,vZ]:=h
theorem bH.Eu {fE eA gI g' hI h4 iG ju j0 kF lK na oq qb ss vZ Ar:b0} (h:bH B dx b3 M [fE,eA,gI,g',hI,h4,iG,ju,j0,kF,lK,na,oq,qb,ss,vZ,Ar]):bH B dx b3 M [fE,eA,gI,g',hI,h4,iG,ju,j0,kF,lK,na,oq,qb,ss,vZ,Ar]:=h
theorem bH.ajW {fE eA gI g' hI h4 iG ju j0 kF lK na oq qb ss vZ Ar Hq:b0} (h:bH B dx b3 M [fE,eA,gI,g',hI,h4,iG,ju,j0,kF,lK,na,oq,qb,ss,vZ,Ar,Hq]):bH B dx b3 M [fE,eA,gI,g',hI,h4,iG,ju,j0,kF,lK,na,oq,qb,ss,vZ,Ar,Hq]:=h
theorem bH.ajX {fE eA gI g' hI h4 iG ju j0 kF lK na oq qb ss vZ Ar Hq Zg:b0} (h:bH B dx b3 M [fE,eA,gI,g',hI,h4,iG,ju,j0,kF,lK,na,oq,qb,ss,vZ,Ar,Hq,Zg]):bH B dx b3 M [fE,eA,gI,g',hI,h4,iG,ju,j0,kF,lK,na,oq,qb,ss,vZ,Ar,Hq,Zg]:=h
end
section
variable {f:FuncId} {fn:Func} {W:ax} {R:Ending->ax->Prop}
theorem jO (bj:List J) (c:Code) (a8:b6) (N:Nat) (args:List J) (mM:Tryd.prog.funcs[f]? =some fn) (rb:∀a,@Here (aS (aF W) bj) fG N a8 W.heap.size W a W->c.wpIn (Fr none) 0 Tryd.prog (@rf fG Tryd.prog fn N W.heap.size W R) a W)
  (aq:fn.body=some c:=by kernel_rfl) (gw:(match setArgs 0 args .nil with|some sl=>some ({sl,ms:=[],A:=start}:b6)|none=>none)=some a8:=by kernel_rfl) (hp:dP args=true:=by kernel_rfl) (j5:args.length+(fn.ntmps-args.length)=N:=by kernel_rfl):Calls Tryd.prog f ⟨@ew (aS (aF W) bj) args⟩ W R:=
 @Zd (aS (aF W) bj) _ _ _ _ c a8 N args (Ob W _) mM rb aq gw hp j5
theorem uP (bj:List J) (c:Code) (a8:b6) (N:Nat) (args:List J) (mM:Tryd.prog.funcs[f]? =some fn) (rb:∀a,@Here (aS (aF W) bj) fG N a8 0 W a W->c.wpIn (Fr none) 0 Tryd.prog (@rf fG Tryd.prog fn N 0 W R) a W)
  (aq:fn.body=some c:=by kernel_rfl) (gw:(match setArgs 0 args .nil with|some sl=>some ({sl,ms:=[],A:=start}:b6)|none=>none)=some a8:=by kernel_rfl) (hp:dP args=true:=by kernel_rfl) (j5:args.length+(fn.ntmps-args.length)=N:=by kernel_rfl):Calls Tryd.prog f ⟨@ew (aS (aF W) bj) args⟩ W R:=
 @ajQ (aS (aF W) bj) _ _ _ _ c a8 N args (Ob W _) mM rb aq gw hp j5
end
theorem eP {N:Nat} {sl:aG} {d:Option Tmp} (h:aG) (v:J) (p:gX N sl d v=some h:=by kernel_rfl):gX N sl d v=some h:=p
theorem er {o:Option bO} (p:eh) (h:QS o=QT p:=by kernel_rfl):QS o=QT p:=h
theorem nb {α:Type} [Inhabited α] {l:List α} (i:Nat) (h:i<l.length:=by omega):l[i]? =some (l.getD i default):=F7 h
abbrev c6:=Option Addr
theorem bP [a7] [cH] {P:aR} {fn:Func} {N B:Nat} {w0:ax} {A:Ending->ax->Prop} {o:Option bO} {v:J} (h:gk P fn o=some v) (iB:∀w2,n' w2->A (.returned (aI v)) w2):e_ P N B w0 (rf P fn N B w0 λe w=>A e w/\cb B w0 w) o:=JG h λw2 hl ag=>⟨iB w2 ag,hl⟩
theorem ajY {α:Type} [Inhabited α] {l:List α} {i:Nat} {z:α} (h:l[i]? =some z):l.e5 i=z:=getD_some h
theorem ajZ [cH] {α:Type} {P:aR} {N B:Nat} {w0:ax} {Q:Exit->Act->ax->Prop} {M:Mem} {bj:List J} {o:Option bO} {t e:aJ} {k:Nat} {p x u nt:J} {enc:α->List J} {l l':List α} {i:Nat} {y:α} {du dq:aG} {aV:List bw} {bG:eg} (j:Nat) (bh:List J)
  (fB:l'=l.set i y) (h:oM o=some (t,p,x)) (aj:∀x,(enc x).length=k) (cR:cq (b4 o) du aV=some bG) (dU:gX N du (je o) undef=some dq) (cn:dm B M e k enc u l) (ag:i<l.length)
  (rest:∀M',dm B M' e k enc u l'->hk M M' (eL u)->∀aW w,@Here (aS M' bh) _ N {sl:=dq,ms:=[],A:=dd aV} B w0 aW w->wpListIn (Fr none) 0 P (j7 o) (dK P (f_ o) Q) (j6 o) aW w)
  (cl:bd P (sizeOf t)=some 1:=by kernel_rfl) (hj:j<k:=by decide) (lZ: @aI (aS M bj) p=hW u (i*k+j):=by exact rfl) (ex: @aI (aS M bj) x=nt:=by exact rfl) (hu:nt.cells= #[nt]:=by exact rfl) (jV:nt.oneCell'=true:=by exact rfl)
  (hp:aL p=true:=by exact rfl) (ak:aL x=true:=by exact rfl) (bq:∀z,l[i]? =some z->enc y=(enc z).set j nt:=by intro z bI;first|rfl|(rw[getD_some bI];rfl)|(rw[ajY bI];rfl)) (hm:∀M',fj (aS M bj) (aS M' bh) bG:=by exact λ_=>gb)
  (av:cH.dV<=aV.length:=by first|exact Nat.zero_le _|exact gv rfl) (aq:hV (b4 o).A aV 0:=by exact gn rfl): @e_ (aS M bj) _ P N B w0 Q o:=
 WT fB h cl aj hj bq cR dU hp ak lZ ex hu jV cn ag hm rest av aq
theorem Hr [cH] {P:aR} {N B:Nat} {w0:ax} {Q:Exit->Act->ax->Prop} {M:Mem} {bj:List J} {o:Option bO} {t ty:aJ} {g:Nat} {p x u:J} {cs:List J} {du dq:aG} {aV:List bw} {bG:eg} (j:Nat) (cs' bh:List J)
  (h:oM o=some (t,p,x)) (cR:cq (b4 o) du aV=some bG) (dU:gX N du (je o) undef=some dq) (cn:i' B M (.pointer (some ⟨g,0,none⟩)) ty cs)
  (rest:∀M',i' B M' (.pointer (some ⟨g,0,none⟩)) ty cs'->hk M M' (some g)->∀aW w,@Here (aS M' bh) _ N {sl:=dq,ms:=[],A:=dd aV} B w0 aW w->wpListIn (Fr none) 0 P (j7 o) (dK P (f_ o) Q) (j6 o) aW w)
  (cl:bd P (sizeOf t)=some 1:=by kernel_rfl) (lZ: @aI (aS M bj) p= .pointer (some ⟨g,j,none⟩):=by exact rfl) (ex: @aI (aS M bj) x=u:=by exact rfl) (fB:cs'=cs.set j u:=by exact rfl) (hu:u.cells= #[u]:=by exact rfl) (jV:u.oneCell'=true:=by exact rfl)
  (hp:aL p=true:=by exact rfl) (ak:aL x=true:=by exact rfl) (hj:j<cs.length:=by exact gv rfl) (hm:∀M',fj (aS M bj) (aS M' bh) bG:=by exact λ_=>gb)
  (av:cH.dV<=aV.length:=by first|exact Nat.zero_le _|exact gv rfl) (aq:hV (b4 o).A aV 0:=by exact gn rfl): @e_ (aS M bj) _ P N B w0 Q o:=
 WK fB h cl cR dU hp ak lZ ex hu jV cn hj hm rest av aq
end AE
end
end
namespace AE
abbrev dW:=Int×Int×Int
abbrev bQ:=Int×Int×Int×Int×Int×Int
def aj0 (x:dW):List J:=[.int .i64 x.1,.int .i64 x.2.1,.int .i64 x.2.2]
abbrev P.val (x:dW):J:= .agg ⟨aj0 x⟩
def v7 (x:bQ):List J:=[.int .i64 x.1,.int .i64 x.2.1,.int .i64 x.2.2.1,.int .i64 x.2.2.2.1,.int .i64 x.2.2.2.2.1,.int .i64 x.2.2.2.2.2]
abbrev X.val (x:bQ):J:= .agg ⟨v7 x⟩
theorem aj1 {a b c aW b' c':Int} (ad:a=aW) (af:b=b') (ay:c=c'):Ending.returned (.agg ⟨[.int .i64 a,.int .i64 b,.int .i64 c]⟩)=Ending.returned (P.val (aW,b',c')):=by rw[ad,af,ay];rfl
theorem aj2 {a b c aW b' c':Int} {x:Bool} (ad:a=aW) (af:b=b') (ay:c=c'):Ending.returned (.tuple #[.agg ⟨[.int .i64 a,.int .i64 b,.int .i64 c]⟩,.bool x])=Ending.returned (.tuple #[P.val (aW,b',c'),.bool x]):=by rw[ad,af,ay];rfl
theorem aj3 {v f:Int} {c:Nat} {up:Bool} (aM:up=true) (ad:c=3) (af:v=15) (ay:f=1):given v f c up=15:=aQ ⟨aM,ad,af,ay⟩
theorem K' {v f:Int} {c:Nat} {up:Bool} (h:¬(up=true/\c=3/\v=15/\f=1)):given v f c up=max 0 (v-f):=aU h
def ei (p:dW) (b:bQ):Prop:=b.1<=p.1/\p.1<b.2.2.2.1/\b.2.1<=p.2.1/\p.2.1<b.2.2.2.2.1/\b.2.2.1<=p.2.2/\p.2.2<b.2.2.2.2.2
instance (p:dW) (b:bQ):Decidable (ei p b):=by unfold ei;infer_instance
def okB (b:bQ):Prop:= -1048575<=b.1/\b.1<=1048575/\ -1048575<=b.2.1/\b.2.1<=1048575/\ -1048575<=b.2.2.1/\b.2.2.1<=1048575/\ -1048575<=b.2.2.2.1/\b.2.2.2.1<=1048575/\ -1048575<=b.2.2.2.2.1/\b.2.2.2.2.1<=1048575/\ -1048575<=b.2.2.2.2.2/\b.2.2.2.2.2<=1048575
instance (b:bQ):Decidable (okB b):=by unfold okB;infer_instance
def iU (b:bQ):Prop:=b.1<b.2.2.2.1/\b.2.1<b.2.2.2.2.1/\b.2.2.1<b.2.2.2.2.2
instance (b:bQ):Decidable (iU b):=by unfold iU;infer_instance
def bX (b:bQ):dW:=if iU b then (b.2.2.2.1-b.1,b.2.2.2.2.1-b.2.1,b.2.2.2.2.2-b.2.2.1) else (0,0,0)
def fg (b:bQ):Int:=(bX b).1*(bX b).2.1*(bX b).2.2
def As (b:bQ) (p:dW):Int:=if ei p b then (((p.2.2+((-1)*b.2.2.1))*(bX b).2.1)+(p.2.1+((-1)*b.2.1)))*(bX b).1+(p.1+((-1)*b.1)) else -1
def fi (b:bQ) (i:Int):dW:=if 0<=i/\i<fg b then (b.1+i%(bX b).1,b.2.1+i/(bX b).1%(bX b).2.1,b.2.2.1+i/(bX b).1/(bX b).2.1) else (0,0,0)
theorem K_ {a b:Int} {A B:Nat} (ad:0<=a) (af:a<=A) (ay:0<=b) (bD:b<=B):0<=a*b/\a*b<=((A*B:Nat):Int):=by
 refine⟨Int.mul_nonneg ad ay,?_⟩;rw[Int.natCast_mul];exact Int.mul_le_mul af bD ay ar
theorem At {b:bQ} (h:iU b):bX b=(b.2.2.2.1-b.1,b.2.2.2.2.1-b.2.1,b.2.2.2.2.2-b.2.2.1):=aQ h
theorem Ev {b:bQ} (h:¬iU b):bX b=(0,0,0):=aU h
theorem aj4 {p:dW} {b:bQ} (h:ei p b):iU b:=by
 unfold ei at h;unfold iU;omega
theorem pC {p:dW} {b:bQ} (h:ei p b):b.1<=p.1/\p.1<b.2.2.2.1/\b.2.1<=p.2.1/\p.2.1<b.2.2.2.2.1/\b.2.2.1<=p.2.2/\p.2.2<b.2.2.2.2.2:=h
theorem Q0 {p:dW} {b:bQ} (h:ei p b):As b p=(((p.2.2+((-1)*b.2.2.1))*(bX b).2.1)+(p.2.1+((-1)*b.2.1)))*(bX b).1+(p.1+((-1)*b.1)):=aQ h
theorem La {p:dW} {b:bQ} (h:¬ei p b):As b p= -1:=aU h
theorem Cc {b:bQ} (ae:okB b):0<=(bX b).1/\(bX b).1<=2097150/\0<=(bX b).2.1/\(bX b).2.1<=2097150/\0<=(bX b).2.2/\(bX b).2.2<=2097150:=by
 unfold okB at ae;unfold bX;split
 ·rename_i h
  unfold iU at h;dsimp only;omega
 ·dsimp only
  omega
theorem Q1 {b:bQ} (ae:okB b):0<=(bX b).1*(bX b).2.1/\(bX b).1*(bX b).2.1<=4398038122500/\0<=(bX b).1*(bX b).2.1*(bX b).2.2/\(bX b).1*(bX b).2.1*(bX b).2.2<=9223345648600875000:=by
 obtain⟨ad,af,ay,bD,cD,cI⟩:=Cc ae;obtain⟨wJ,Q2⟩:=K_ (A:=2097150) (B:=2097150) ad ar ay ar;obtain⟨Q3,aj5⟩:=K_ (A:=4398038122500) (B:=2097150) wJ ar cD ar;exact⟨wJ,ar,Q3,ar⟩
theorem qK {p:dW} {b:bQ} (ae:okB b) (h:ei p b):0<=((p.2.2+((-1)*b.2.2.1))*(bX b).2.1)/\((p.2.2+((-1)*b.2.2.1))*(bX b).2.1)<=4398038122500/\0<=(((p.2.2+((-1)*b.2.2.1))*(bX b).2.1)+(p.2.1+((-1)*b.2.1)))*(bX b).1/\(((p.2.2+((-1)*b.2.2.1))*(bX b).2.1)+(p.2.1+((-1)*b.2.1)))*(bX b).1<=9223345648600875000:=by
 obtain⟨ad,af,ay,bD,cD,cI⟩:=Cc ae;have aO:=aj4 h;unfold okB at ae;unfold ei at h;obtain⟨wJ,Q2⟩:=K_ (a:=p.2.2+((-1)*b.2.2.1)) (b:=(bX b).2.1) (A:=2097149) (B:=2097150) ar ar ay ar;have fK:p.2.1+((-1)*b.2.1)+1<=(bX b).2.1:=by
  rw[At aO];dsimp only;omega
 obtain⟨Q3,aj5⟩:=K_ (a:=(((p.2.2+((-1)*b.2.2.1))*(bX b).2.1)+(p.2.1+((-1)*b.2.1)))) (b:=(bX b).1) (A:=4398038122500) (B:=2097150) ar ar ad ar;exact⟨wJ,ar,Q3,ar⟩
theorem Zh {b:bQ} {i:Int} (aM:0<=i) (ad:¬((bX b).1*(bX b).2.1)*(bX b).2.2<=i):iU b:=by
 by_cases h:iU b
 ·exact h
 ·rw[Ev h] at ad
  simp at ad;omega
theorem rr {b:bQ} {i:Int} (ae:okB b) (aM:0<=i) (ad:¬((bX b).1*(bX b).2.1)*(bX b).2.2<=i):
  1<=(bX b).1/\1<=(bX b).2.1/\0<=i/(bX b).1/\i/(bX b).1<=i/\0<=i%(bX b).1/\i%(bX b).1<(bX b).1/\0<=i/(bX b).1%(bX b).2.1/\i/(bX b).1%(bX b).2.1<(bX b).2.1/\0<=i/(bX b).1/(bX b).2.1/\i/(bX b).1/(bX b).2.1<(bX b).2.2/\i<=9223345648600875000:=by
 have aO:=Zh aM ad;have aC:=Q1 ae;have aw:=Cc ae;have ak:1<=(bX b).1:=by
  rw[At aO];unfold iU at aO;dsimp only;omega
 have bq:1<=(bX b).2.1:=by
  rw[At aO];unfold iU at aO;dsimp only;omega
 have af:0<=i/(bX b).1:=Int.ediv_nonneg aM ar;refine⟨ak,bq,af,Int.ediv_le_self _ aM,Int.emod_nonneg _ ar,Int.emod_lt_of_pos _ ar,Int.emod_nonneg _ ar,Int.emod_lt_of_pos _ ar,Int.ediv_nonneg af ar,?_,ar⟩;refine Int.ediv_lt_of_lt_mul ar (Int.ediv_lt_of_lt_mul ar ?_);rw[show (bX b).2.2*(bX b).2.1*(bX b).1=(bX b).1*(bX b).2.1*(bX b).2.2 by rw[Int.mul_comm (bX b).2.2,Int.mul_assoc,Int.mul_comm (bX b).2.2,<-Int.mul_assoc,Int.mul_comm (bX b).2.1]];omega
theorem Zi {b:bQ} {i:Int} (aM:0<=i) (ad:¬((bX b).1*(bX b).2.1)*(bX b).2.2<=i):fi b i=(b.1+i%(bX b).1,b.2.1+i/(bX b).1%(bX b).2.1,b.2.2.1+i/(bX b).1/(bX b).2.1):=aQ ⟨aM,by unfold fg;omega⟩
theorem Q4 {b:bQ} {i:Int} (h:¬(0<=i/\i<fg b)):fi b i=(0,0,0):=aU h
end AE
namespace AE
theorem Zj (p q:bM):pT Tryd.prog 10000 p2 (L.val p) (L.val q)=some (p.1==q.1&&(p.2.1==q.2.1&&(p.2.2.1==q.2.2.1&&(p.2.2.2==q.2.2.2&&true)))):=au
theorem aj6:Tryd.prog.eqGuardType Tryd.prog.depth p2=false:=au
theorem Zk (p q:bM):(p.1==q.1&&(p.2.1==q.2.1&&(p.2.2.1==q.2.2.1&&(p.2.2.2==q.2.2.2&&true))))=decide (p=q):=by
 obtain⟨a,b,c,d⟩:=p;obtain⟨aW,b',c',mI⟩:=q;rw[Bool.eq_iff_iff];simp
section
variable [a7]
theorem Zl {x y:J} {p q:bM} (ak:aL x=true) (bq:aL y=true) (ex:aI x=L.val p) (hx:aI y=L.val q) {d:Bool} (bc:d= !decide (p=q)):aT Tryd.prog (.bin .neq p2 x y,.bool d):=by
 subst bc;exact aT.JO aj6 ak bq ex hx ((Zj p q).trans (by rw[Zk]))
end
def Ew (F:Int) (old x:bM) (fz:Int) (c:Nat):Int:=if 0<b_ old c/\0<b_ x c/\b_ x c=given (b_ old c) F c (decide (fz<0)) then b_ x c else 0
def Au (F:Int) (old x:bM) (fz:Int):bM:=rn (Ew F old x fz)
def Cd (l:List az) (n:Nat) (eH:bM):List az:=if eH=z4 then l else l++[(n,eH)]
def yW (l:List Nat) (n:Nat) (eH:bM):List Nat:=if eH=z4 then l else l++[n]
def Av (l:List bM) (n:Nat) (eH:bM):List bM:=if eH=z4 then l else l.set n (vF eH (l.getD n default))
theorem aj7 {l:List az} {g:List Nat} {li:List bM} {n:Nat} {eH:bM} (h:eH=z4):Cd l n eH=l/\yW g n eH=g/\Av li n eH=li:=⟨aQ h,aQ h,aQ h⟩
theorem aj8 {l:List az} {g:List Nat} {li:List bM} {n:Nat} {eH:bM} (h:¬eH=z4):Cd l n eH=l++[(n,eH)]/\yW g n eH=g++[n]/\Av li n eH=li.set n (vF eH (li.getD n default)):=⟨aU h,aU h,aU h⟩
theorem aj9 {F fz:Int} {old x:bM} {c:Nat} (ad:0<b_ old c) (af:0<b_ x c) (ay:b_ x c=given (b_ old c) F c (decide (fz<0))):Ew F old x fz c=b_ x c:=aQ ⟨ad,af,ay⟩
theorem Q5 {F fz:Int} {old x:bM} {c:Nat} (h:¬(0<b_ old c/\0<b_ x c/\b_ x c=given (b_ old c) F c (decide (fz<0)))):Ew F old x fz c=0:=aU h
def Zm (F:Int) (out x:bM) (fz:Int) (c:Nat):Int:=max (b_ out c) (given (b_ x c) F c (decide (0<fz)))
def Ce (F:Int) (out x:bM) (fz:Int):bM:=rn (Zm F out x fz)
end AE
namespace AE
def dD (b:bQ) (p:dW):Nat:=(As b p).toNat
def xq (b:bQ) (k j:Nat):List (Nat×Int):=xf (bX b).1.toNat (bX b).2.1.toNat (bX b).2.2.toNat k j
def dZ (b:bQ) (sh:List Bool) (k j:Nat):List (Nat×Int):=(xq b k j).filter λp=>sh.getD p.1 default
def iu (b:bQ) (k:Nat):Nat->dW
 |0=>((fi b ((k:Nat):Int)).1+(-1),(fi b ((k:Nat):Int)).2.1,(fi b ((k:Nat):Int)).2.2)
 |1=>((fi b ((k:Nat):Int)).1+1,(fi b ((k:Nat):Int)).2.1,(fi b ((k:Nat):Int)).2.2)
 |2=>((fi b ((k:Nat):Int)).1,(fi b ((k:Nat):Int)).2.1+(-1),(fi b ((k:Nat):Int)).2.2)
 |3=>((fi b ((k:Nat):Int)).1,(fi b ((k:Nat):Int)).2.1+1,(fi b ((k:Nat):Int)).2.2)
 |4=>((fi b ((k:Nat):Int)).1,(fi b ((k:Nat):Int)).2.1,(fi b ((k:Nat):Int)).2.2+(-1))
 |_=>((fi b ((k:Nat):Int)).1,(fi b ((k:Nat):Int)).2.1,(fi b ((k:Nat):Int)).2.2+1)
def pY:Nat->Int
 |4=> -1
 |5=>1
 |_=>0
theorem Zn {b:bQ} {k:Nat} (aj:k<(fg b).toNat):∃bz bT bb:Nat,(bX b)=(((bz:Nat):Int),((bT:Nat):Int),((bb:Nat):Int))/\k<bz*bT*bb/\b.2.2.2.1=b.1+bz/\b.2.2.2.2.1=b.2.1+bT/\b.2.2.2.2.2=b.2.2.1+bb:=by
 by_cases aO:iU b
 ·have aw:=At aO
  unfold iU at aO;refine⟨(b.2.2.2.1-b.1).toNat,(b.2.2.2.2.1-b.2.1).toNat,(b.2.2.2.2.2-b.2.2.1).toNat,?_,?_,ar,ar,ar⟩
  ·rw[aw,Int.toNat_of_nonneg ar,Int.toNat_of_nonneg ar,Int.toNat_of_nonneg ar]
  ·unfold fg at aj
   rw[aw] at aj;dsimp only at aj;rw[Int.toNat_mul (Int.mul_nonneg ar ar) ar,Int.toNat_mul ar ar] at aj;exact aj
 ·unfold fg at aj
  rw[Ev aO] at aj;simp at aj
theorem Zo {b:bQ} {k:Nat} {sh:List Bool} (aj:k<sh.length) (hl:sh.length=(fg b).toNat):0<=((k:Nat):Int)/\((k:Nat):Int)<fg b:=by omega
theorem Q6 {b:bQ} {bz bT bb x y z:Nat} (aw:bX b=(((bz:Nat):Int),((bT:Nat):Int),((bb:Nat):Int))) (ad:b.2.2.2.1=b.1+bz) (af:b.2.2.2.2.1=b.2.1+bT) (ay:b.2.2.2.2.2=b.2.2.1+bb) (ak:x<bz) (bq:y<bT) (bI:z<bb):
  ei (b.1+x,b.2.1+y,b.2.2.1+z) b/\dD b (b.1+x,b.2.1+y,b.2.2.1+z)=mT bz bT x y z:=by
 have iX:ei (b.1+((x:Nat):Int),b.2.1+((y:Nat):Int),b.2.2.1+((z:Nat):Int)) b:=by
  unfold ei;dsimp only;omega
 refine⟨iX,?_⟩;unfold dD;rw[Q0 iX,aw];dsimp only;unfold mT;rw[show b.2.2.1+((z:Nat):Int)+ -1*b.2.2.1=((z:Nat):Int) by omega,show b.2.1+((y:Nat):Int)+ -1*b.2.1=((y:Nat):Int) by omega,show b.1+((x:Nat):Int)+ -1*b.1=((x:Nat):Int) by omega];rw[show (((z:Nat):Int)*((bT:Nat):Int)+((y:Nat):Int))*((bz:Nat):Int)+((x:Nat):Int)=(((z*bT+y)*bz+x:Nat):Int) by simp];exact Int.toNat_natCast _
theorem Hs {b:bQ} {k:Nat} {sh:List Bool} (aj:k<sh.length) (hl:sh.length=(fg b).toNat) (q:dW):dD b q<sh.length:=by
 by_cases aZ:ei q b
 ·obtain⟨bz,bT,bb,aw,BV,ad,af,ay⟩:=Zn (b:=b) (k:=k) ar
  have h:=pC aZ;obtain⟨x,ak⟩:∃x:Nat,q.1=b.1+x:=⟨(q.1-b.1).toNat,ar⟩;obtain⟨y,bq⟩:∃x:Nat,q.2.1=b.2.1+x:=⟨(q.2.1-b.2.1).toNat,ar⟩;obtain⟨z,bI⟩:∃x:Nat,q.2.2=b.2.2.1+x:=⟨(q.2.2-b.2.2.1).toNat,ar⟩;have aj':q=(b.1+((x:Nat):Int),b.2.1+((y:Nat):Int),b.2.2.1+((z:Nat):Int)):=by
   obtain⟨q1,aE,ca⟩:=q;dsimp only at ak bq bI;rw[ak,bq,bI]
  have ag:=(Q6 aw ad af ay (x:=x) (y:=y) (z:=z) ar ar ar).2;rw[aj',ag,hl];have aC:(fg b).toNat=bz*bT*bb:=by
   unfold fg;rw[aw];dsimp only;rw[<-Int.natCast_mul,<-Int.natCast_mul,Int.toNat_natCast]
  rw[aC];exact Xw ar ar ar
 ·unfold dD
  rw[La aZ];show 0<_;omega
theorem Zp {b:bQ} {k bz bT bb:Nat} (aw:bX b=(((bz:Nat):Int),((bT:Nat):Int),((bb:Nat):Int))) (aj:k<bz*bT*bb):fi b ((k:Nat):Int)=(b.1+((il bz k:Nat):Int),b.2.1+((im bz bT k:Nat):Int),b.2.2.1+((hE bz bT k:Nat):Int)):=by
 unfold fi fg;rw[aw];dsimp only;rw[aQ ⟨ar,by rw[<-Int.natCast_mul,<-Int.natCast_mul];omega⟩];rfl
theorem Zq {b:bQ} (ae:okB b) (i:Int): -1048575<=(fi b i).1/\(fi b i).1<=1048575/\ -1048575<=(fi b i).2.1/\(fi b i).2.1<=1048575/\ -1048575<=(fi b i).2.2/\(fi b i).2.2<=1048575:=by
 by_cases h:0<=i/\i<fg b
 ·have aC:¬((bX b).1*(bX b).2.1)*(bX b).2.2<=i:=by
   have:=h.2;unfold fg at this;omega
  have aO:=Zh h.1 aC;have:=rr ae h.1 aC;rw[Zi h.1 aC,At aO] at*
  unfold okB at ae;dsimp only at*
  omega
 ·rw[Q4 h]
  decide
theorem Q7 {b:bQ} {k:Nat} {sh:List Bool} (aj:k<sh.length) (hl:sh.length=(fg b).toNat) {j:Nat} (hj:j<6):
  (ei (iu b k j) b->xq b k (j+1)=xq b k j++[(dD b (iu b k j),pY j)])/\(¬ei (iu b k j) b->xq b k (j+1)=xq b k j):=by
 obtain⟨bz,bT,bb,aw,BV,ad,af,ay⟩:=Zn (b:=b) (k:=k) ar;obtain⟨gM,c2,c3⟩:=Kr BV;have ha:=Zp aw BV;have wV:xq b k (j+1)=xq b k j++uH bz bT bb k j:=by
  unfold xq;rw[aw];rfl
 rw[wV];have key:∀(d:Int) (x y z:Nat) (v8:Prop),(v8↔(x<bz/\y<bT/\z<bb))->∀q:dW,q=(b.1+((x:Nat):Int),b.2.1+((y:Nat):Int),b.2.2.1+((z:Nat):Int))->∀[Decidable v8],∀l:List (Nat×Int),
   (ei q b->l++(if v8 then [(mT bz bT x y z,d)] else [])=l++[(dD b q,d)])/\(¬ei q b->l++(if v8 then [(mT bz bT x y z,d)] else [])=l):=by
  intro d x y z v8 aq q aZ _ l;subst aZ;constructor
  ·intro iX
   have h:=pC iX;dsimp only at h;have ah:x<bz/\y<bT/\z<bb:=by omega
   rw[aQ (aq.2 ah),(Q6 aw ad af ay ah.1 ah.2.1 ah.2.2).2]
  ·intro iX
   rw[aU (λh=>iX (Q6 aw ad af ay (aq.1 h).1 (aq.1 h).2.1 (aq.1 h).2.2).1),List.append_nil]
 have out:∀q:dW,¬ei q b->∀(v8:Prop) [Decidable v8] (n:Nat) (d:Int),¬v8->∀l:List (Nat×Int),(ei q b->l++(if v8 then [(n,d)] else [])=l++[(dD b q,d)])/\(¬ei q b->l++(if v8 then [(n,d)] else [])=l):=by
  intro q aZ v8 _ n d aq l;exact⟨λh=>absurd h aZ,λ_=>by rw[aU aq,List.append_nil]⟩
 have Q8:∀q:dW,(q.1<b.1\/q.2.1<b.2.1\/q.2.2<b.2.2.1)->¬ei q b:=λq aZ h=>by
  have:=pC h;omega
 match j,hj with
 |0,_=>
  by_cases aM:0<il bz k
  ·exact key 0 (il bz k-1) (im bz bT k) (hE bz bT k) (0<il bz k) ⟨λ_=>⟨ar,c2,c3⟩,λ_=>aM⟩ (iu b k 0) (by
    show ((fi b ((k:Nat):Int)).1+(-1),(fi b ((k:Nat):Int)).2.1,(fi b ((k:Nat):Int)).2.2)=_;rw[ha];dsimp only
    rw[show b.1+((il bz k:Nat):Int)+ -1=b.1+((il bz k-1:Nat):Int) by omega]) _
  ·exact out (iu b k 0) (Q8 _ (.inl (by
    show (fi b ((k:Nat):Int)).1+(-1)<_;rw[ha];dsimp only
    omega))) (0<il bz k) _ 0 aM _
 |1,_=>
  exact key 0 (il bz k+1) (im bz bT k) (hE bz bT k) (il bz k+1<bz) ⟨λh=>⟨h,c2,c3⟩,λh=>h.1⟩ (iu b k 1) (by
    show ((fi b ((k:Nat):Int)).1+1,(fi b ((k:Nat):Int)).2.1,(fi b ((k:Nat):Int)).2.2)=_;rw[ha];dsimp only
    rw[show b.1+((il bz k:Nat):Int)+1=b.1+((il bz k+1:Nat):Int) by omega]) _
 |2,_=>
  by_cases aM:0<im bz bT k
  ·exact key 0 (il bz k) (im bz bT k-1) (hE bz bT k) (0<im bz bT k) ⟨λ_=>⟨gM,ar,c3⟩,λ_=>aM⟩ (iu b k 2) (by
    show ((fi b ((k:Nat):Int)).1,(fi b ((k:Nat):Int)).2.1+(-1),(fi b ((k:Nat):Int)).2.2)=_;rw[ha];dsimp only
    rw[show b.2.1+((im bz bT k:Nat):Int)+ -1=b.2.1+((im bz bT k-1:Nat):Int) by omega]) _
  ·exact out (iu b k 2) (Q8 _ (.inr (.inl (by
    show (fi b ((k:Nat):Int)).2.1+(-1)<_;rw[ha];dsimp only
    omega)))) (0<im bz bT k) _ 0 aM _
 |3,_=>
  exact key 0 (il bz k) (im bz bT k+1) (hE bz bT k) (im bz bT k+1<bT) ⟨λh=>⟨gM,h,c3⟩,λh=>h.2.1⟩ (iu b k 3) (by
    show ((fi b ((k:Nat):Int)).1,(fi b ((k:Nat):Int)).2.1+1,(fi b ((k:Nat):Int)).2.2)=_;rw[ha];dsimp only
    rw[show b.2.1+((im bz bT k:Nat):Int)+1=b.2.1+((im bz bT k+1:Nat):Int) by omega]) _
 |4,_=>
  by_cases aM:0<hE bz bT k
  ·exact key (-1) (il bz k) (im bz bT k) (hE bz bT k-1) (0<hE bz bT k) ⟨λ_=>⟨gM,c2,ar⟩,λ_=>aM⟩ (iu b k 4) (by
    show ((fi b ((k:Nat):Int)).1,(fi b ((k:Nat):Int)).2.1,(fi b ((k:Nat):Int)).2.2+(-1))=_;rw[ha];dsimp only
    rw[show b.2.2.1+((hE bz bT k:Nat):Int)+ -1=b.2.2.1+((hE bz bT k-1:Nat):Int) by omega]) _
  ·exact out (iu b k 4) (Q8 _ (.inr (.inr (by
    show (fi b ((k:Nat):Int)).2.2+(-1)<_;rw[ha];dsimp only
    omega)))) (0<hE bz bT k) _ (-1) aM _
 |5,_=>
  exact key 1 (il bz k) (im bz bT k) (hE bz bT k+1) (hE bz bT k+1<bb) ⟨λh=>⟨gM,c2,h⟩,λh=>h.2.2⟩ (iu b k 5) (by
    show ((fi b ((k:Nat):Int)).1,(fi b ((k:Nat):Int)).2.1,(fi b ((k:Nat):Int)).2.2+1)=_;rw[ha];dsimp only
    rw[show b.2.2.1+((hE bz bT k:Nat):Int)+1=b.2.2.1+((hE bz bT k+1:Nat):Int) by omega]) _
theorem aj_ {b:bQ} {k:Nat} {sh:List Bool} (aj:k<sh.length) (hl:sh.length=(fg b).toNat) {j:Nat} (hj:j<6) (h:ei (iu b k j) b) (aw:sh.getD (dD b (iu b k j)) default=true):dZ b sh k (j+1)=dZ b sh k j++[(dD b (iu b k j),pY j)]:=by
 unfold dZ;rw[(Q7 aj hl hj).1 h,List.filter_append,List.filter_cons_of_pos (by exact aw),List.filter_nil]
theorem aka {b:bQ} {k:Nat} {sh:List Bool} (aj:k<sh.length) (hl:sh.length=(fg b).toNat) {j:Nat} (hj:j<6) (h:ei (iu b k j) b) (aw:¬sh.getD (dD b (iu b k j)) default=true):dZ b sh k (j+1)=dZ b sh k j:=by
 unfold dZ;rw[(Q7 aj hl hj).1 h,List.filter_append,List.filter_cons_of_neg (by exact aw),List.filter_nil,List.append_nil]
theorem akb {b:bQ} {k:Nat} {sh:List Bool} (aj:k<sh.length) (hl:sh.length=(fg b).toNat) {j:Nat} (hj:j<6) (h:¬ei (iu b k j) b):dZ b sh k (j+1)=dZ b sh k j:=by
 unfold dZ;rw[(Q7 aj hl hj).2 h]
def su (l:List (Nat×Int)) (s:List Nat×List Bool):List Nat×List Bool:=l.foldl (λs p=>(mw s.1 s.2 p.1,nw s.2 p.1)) s
def oY (table:List cX) (lit:List Int) (old:bM) (s:List az×List Nat×List bM) (p:Nat×Int):List az×List Nat×List bM:=
 (Cd s.1 p.1 (Au (eG table (lit.getD p.1 default)).2.2.2.2.1 old (s.2.2.getD p.1 default) p.2),yW s.2.1 p.1 (Au (eG table (lit.getD p.1 default)).2.2.2.2.1 old (s.2.2.getD p.1 default) p.2),Av s.2.2 p.1 (Au (eG table (lit.getD p.1 default)).2.2.2.2.1 old (s.2.2.getD p.1 default) p.2))
def l7 (table:List cX) (lit:List Int) (old:bM) (l:List (Nat×Int)) (s:List az×List Nat×List bM):List az×List Nat×List bM:=l.foldl (oY table lit old) s
theorem Zr (a:List az) (n:Nat) (eH:bM):(Cd a n eH).length<=a.length+1:=by
 unfold Cd;split<;>simp
theorem akc (a:List Nat) (n:Nat) (eH:bM):(yW a n eH).length<=a.length+1:=by
 unfold yW;split<;>simp
theorem akd (a:List bM) (n:Nat) (eH:bM):(Av a n eH).length=a.length:=by
 unfold Av;split<;>simp
def sv (F:Int) (aH:List bM) (l:List (Nat×Int)) (out:bM):bM:=l.foldl (λo p=>Ce F o (aH.getD p.1 default) p.2) out
end AE
namespace AE
def gQ (m:cX):Nat->Int
 |0=>m.2.2.2.2.2.1
 |1=>m.2.2.2.2.2.2.1
 |_=>m.2.2.2.2.2.2.2
def Lb (m:cX) (top:Prop) [Decidable top]:bM:=(gQ m 0,gQ m 1,gQ m 2,if top then given 15 m.2.2.2.2.1 3 true else 0)
def yX (b:bQ) (k:Nat):Prop:=(fi b ((k:Nat):Int)).2.2=b.2.2.2.2.2-1
instance (b:bQ) (k:Nat):Decidable (yX b k):=by unfold yX;infer_instance
def v' (table:List cX) (lit:List Int) (aH:List bM) (bZ:List Bool) (b:bQ) (k:Nat):bM:=
 if bZ.getD k default=true then sv (eG table (lit.getD k default)).2.2.2.2.1 aH (dZ b bZ k 6) (Lb (eG table (lit.getD k default)) (yX b k)) else z4
theorem ake {table:List cX} {lit:List Int} {aH:List bM} {bZ:List Bool} {b:bQ} {k:Nat} (h:¬bZ.getD k default=true):v' table lit aH bZ b k=z4:=aU h
theorem akf {table:List cX} {lit:List Int} {aH:List bM} {bZ:List Bool} {b:bQ} {k:Nat} (h:bZ.getD k default=true) (aK:yX b k):v' table lit aH bZ b k=sv (eG table (lit.getD k default)).2.2.2.2.1 aH (dZ b bZ k 6) (gQ (eG table (lit.getD k default)) 0,gQ (eG table (lit.getD k default)) 1,gQ (eG table (lit.getD k default)) 2,given 15 (eG table (lit.getD k default)).2.2.2.2.1 3 true):=by
 unfold v' Lb;rw[aQ h,aQ aK]
theorem akg {table:List cX} {lit:List Int} {aH:List bM} {bZ:List Bool} {b:bQ} {k:Nat} (h:bZ.getD k default=true) (aK:¬yX b k):v' table lit aH bZ b k=sv (eG table (lit.getD k default)).2.2.2.2.1 aH (dZ b bZ k 6) (gQ (eG table (lit.getD k default)) 0,gQ (eG table (lit.getD k default)) 1,gQ (eG table (lit.getD k default)) 2,0):=by
 unfold v' Lb;rw[aQ h,aU aK]
end AE
namespace AE
structure iv where
 aH:List bM
 bE:List az
 gone:List Nat
 bu:List Nat
 waits:List Bool
 reqs:List iN
 lit:List Int
 bZ:List Bool
def nc (l:List Nat) (s:List Nat×List Bool):List Nat×List Bool:=l.foldl (λs k=>(mw s.1 s.2 k,nw s.2 k)) s
def k6 (i:Nat) (now old:bM):bM:=rn λc=>if c<i then max (b_ now c) (b_ old c) else b_ old c
def v_ (i:Nat) (now old:bM):Bool:=(decide (0<i)&&decide (b_ old 0<b_ now 0))||(decide (1<i)&&decide (b_ old 1<b_ now 1))||(decide (2<i)&&decide (b_ old 2<b_ now 2))||(decide (3<i)&&decide (b_ old 3<b_ now 3))
variable (table:List cX) (b:bQ)
def xr (u:iv) (x:az) (r:List az):List az×List Nat×List bM:=l7 table u.lit x.2 (dZ b u.bZ x.1 6) (r,u.gone,u.aH)
def yY (u:iv) (x:az) (r:List az):iv:=
 if (xr table b u x r).1.length=0 then
  {u with bE:=(xr table b u x r).1,gone:=[],aH:=(xr table b u x r).2.2,bu:=(nc (xr table b u x r).2.1 (u.bu,u.waits)).1,waits:=(nc (xr table b u x r).2.1 (u.bu,u.waits)).2}
 else {u with bE:=(xr table b u x r).1,gone:=(xr table b u x r).2.1,aH:=(xr table b u x r).2.2}
def Ht (u:iv) (k:Nat):bM:=v' table u.lit u.aH u.bZ b k
def yZ (u:iv) (k:Nat) (r:List Nat):iv:=
 if v_ 4 (Ht table b u k) (u.aH.getD k default)=true then
  {u with aH:=u.aH.set k (k6 4 (Ht table b u k) (u.aH.getD k default)),bu:=(su (dZ b u.bZ k 6) (r,u.waits.set k false)).1,waits:=(su (dZ b u.bZ k 6) (r,u.waits.set k false)).2}
 else {u with aH:=u.aH.set k (k6 4 (Ht table b u k) (u.aH.getD k default)),bu:=r,waits:=u.waits.set k false}
def Lc (u:iv) (x:iN) (r:List iN):iv:=
 {u with bE:=u.bE++[(x.1,u.aH.getD x.1 default)],gone:=u.gone++[x.1],aH:=u.aH.set x.1 (vF (u.aH.getD x.1 default) (u.aH.getD x.1 default)),lit:=u.lit.set x.1 x.2.1,bZ:=u.bZ.set x.1 x.2.2,reqs:=r}
def gJ (u:iv):Bool×iv:=
 if 0<u.bE.length then (true,yY table b u (u.bE.getD 0 default) (u.bE.drop 1))
 else if 0<u.bu.length then (true,yZ table b u (u.bu.getD 0 default) (u.bu.drop 1))
 else if 0<u.reqs.length then (true,Lc u (u.reqs.getD 0 default) (u.reqs.drop 1))
 else (false,u)
variable {table b}
theorem Hu {u:iv} (h:0<u.bE.length):gJ table b u=(true,yY table b u (u.bE.getD 0 default) (u.bE.drop 1)):=aQ h
theorem Hv {u:iv} (h:¬0<u.bE.length) (af:0<u.bu.length):gJ table b u=(true,yZ table b u (u.bu.getD 0 default) (u.bu.drop 1)):=(aU h).trans (aQ af)
theorem Hw {u:iv} (h:¬0<u.bE.length) (af:¬0<u.bu.length) (ay:0<u.reqs.length):gJ table b u=(true,Lc u (u.reqs.getD 0 default) (u.reqs.drop 1)):=(aU h).trans ((aU af).trans (aQ ay))
theorem Hx {u:iv} (h:¬0<u.bE.length) (af:¬0<u.bu.length) (ay:¬0<u.reqs.length):gJ table b u=(false,u):=(aU h).trans ((aU af).trans (aU ay))
end AE
namespace AE
section
variable {N eH:bM} {l jv:List bM} {k:Nat}
theorem akh:k6 0 N eH=eH:=bM.ext' λc aq=>by
 unfold k6;rw[iF aq,aU (Nat.not_lt_zero c)]
end
section
variable {g Q9:List Nat} {w Ld:List Bool} {l:List Nat} {j:Nat}
theorem aki (s:List Nat×List Bool) (k:Nat):nc (l++[k]) s=(mw (nc l s).1 (nc l s).2 k,nw (nc l s).2 k):=by
 unfold nc;rw[List.foldl_append];rfl
theorem akj {s:List Nat×List Bool} (aA:Q9=(nc (l.take j) s).1) (hw:Ld=(nc (l.take j) s).2) (hj:j<l.length):mw Q9 Ld (l.getD j default)=(nc (l.take (j+1)) s).1/\nw Ld (l.getD j default)=(nc (l.take (j+1)) s).2:=by
 have:l.take (j+1)=l.take j++[l.getD j default]:=by
  rw[List.take_add_one,dh,fA hj];rfl
 rw[this,aki,<-aA,<-hw];exact⟨rfl,rfl⟩
end
theorem akk {b:bQ} {sh:List Bool} {k j:Nat} {p:Nat×Int} (h:p∈dZ b sh k j):p.1<sh.length:=by
 unfold dZ at h;have af:=(List.mem_filter.1 h).2;rcases Nat.lt_or_ge p.1 sh.length with ay|ay
 ·exact ay
 ·rw[dh,List.getElem?_eq_none ay] at af
  cases af
theorem akl (b:bQ) (sh:List Bool) (k j:Nat):(dZ b sh k j).length<=j:=by
 unfold dZ xq;exact Nat.le_trans (List.length_filter_le _ _) (Pj _ _ _ _ _)
theorem Zs {N:Nat} {table:List cX} {lit:List Int} {old:bM}:∀(l:List (Nat×Int)) (s:List az×List Nat×List bM),(∀p∈l,p.1<N)->(∀k∈s.2.1,k<N)->
  (∀k∈(l7 table lit old l s).2.1,k<N)/\(l7 table lit old l s).2.1.length<=s.2.1.length+l.length/\(l7 table lit old l s).2.2.length=s.2.2.length/\(l7 table lit old l s).1.length<=s.1.length+l.length
 |[],s,_,h=>⟨h,b2 _,rfl,b2 _⟩
 |p::l,s,ad,h=>by
  have ae:∀k∈(oY table lit old s p).2.1,k<N:=by
   intro k aj;unfold oY yW at aj;simp only at aj;split at aj
   ·exact h k aj
   ·rcases List.mem_append.1 aj with aj|aj
    ·exact h k aj
    ·rw[List.mem_singleton.1 aj];exact ad p (by simp)
  obtain⟨q1,aE,ca,ey⟩:=Zs l (oY table lit old s p) (λq aZ=>ad q (by simp [aZ])) ae;refine⟨q1,?_,?_,?_⟩
  ·have:(oY table lit old s p).2.1.length<=s.2.1.length+1:=by
    unfold oY yW;simp only;split<;>simp
   have e:(l7 table lit old (p::l) s)=l7 table lit old l (oY table lit old s p):=rfl;rw[e];simp only [List.length_cons];omega
  ·have:(oY table lit old s p).2.2.length=s.2.2.length:=by
    unfold oY Av;simp only;split<;>simp
   exact ca.trans this
  ·have:(oY table lit old s p).1.length<=s.1.length+1:=Zr _ _ _
   have e:(l7 table lit old (p::l) s)=l7 table lit old l (oY table lit old s p):=rfl;rw[e];simp only [List.length_cons];omega
theorem akm {b:bQ} {sh:List Bool} {k:Nat} {table:List cX} {lit:List Int} {old:bM} {s:List az×List Nat×List bM} (h:∀k∈s.2.1,k<sh.length):
  (∀j,j<(l7 table lit old (dZ b sh k 6) s).2.1.length->((l7 table lit old (dZ b sh k 6) s).2.1.getD j default)<sh.length)/\(l7 table lit old (dZ b sh k 6) s).2.1.length<=s.2.1.length+6:=by
 obtain⟨q1,aE,_⟩:=Zs (N:=sh.length) (table:=table) (lit:=lit) (old:=old) (dZ b sh k 6) s (λp hp=>akk hp) h;have:=akl b sh k 6;refine⟨λj hj=> ?_,ar⟩;rw[dh,fA hj];exact q1 _ (List.getElem_mem hj)
section
variable {table:List cX} {b:bQ} {aH kq:List bM} {bE cB d:List az} {gone j3:List Nat} {bu Q9:List Nat} {waits Ld:List Bool} {reqs:List iN} {lit:List Int} {bZ:List Bool}
end
end AE
namespace AE
def gK (b:bQ):oi:=ahC (bX b).1.toNat (bX b).2.1.toNat (bX b).2.2.toNat
def iw (table:List cX) (lit:List Int) (bZ:List Bool):g_:=
 ⟨λk=>(eG table (lit.getD k default)).2.2.2.2.1,λk c=>gQ (eG table (lit.getD k default)) c,λk=>bZ.getD k default⟩
def hg (u:iv):fU:=⟨u.aH,u.bE,u.gone,u.bu,u.waits⟩
theorem Zt {b:bQ} (ae:okB b):(gK b).N=(fg b).toNat:=by
 obtain⟨ad,_,af,_,ay,_⟩:=Cc ae;show (bX b).1.toNat*(bX b).2.1.toNat*(bX b).2.2.toNat=_;unfold fg;have e:(bX b).1*(bX b).2.1*(bX b).2.2=(((bX b).1.toNat*(bX b).2.1.toNat*(bX b).2.2.toNat:Nat):Int):=by
  rw[Int.natCast_mul,Int.natCast_mul,Int.toNat_of_nonneg ad,Int.toNat_of_nonneg af,Int.toNat_of_nonneg ay]
 rw[e,Int.toNat_natCast]
variable {table:List cX} {b:bQ}
theorem akn {k:Nat} (ae:okB b) (aj:k<(gK b).N):yX b k↔(gK b).top k=true:=by
 obtain⟨ad,_,af,_,ay,_⟩:=Cc ae;have aw:bX b=((((bX b).1.toNat:Nat):Int),(((bX b).2.1.toNat:Nat):Int),(((bX b).2.2.toNat:Nat):Int)):=by
  rw[Int.toNat_of_nonneg ad,Int.toNat_of_nonneg af,Int.toNat_of_nonneg ay]
 have j5:k<(bX b).1.toNat*(bX b).2.1.toNat*(bX b).2.2.toNat:=aj;have aO:iU b:=by
  by_cases aO:iU b
  ·exact aO
  ·rw[Ev aO] at j5
   simp at j5
 unfold yX;rw[Zp aw j5];show b.2.2.1+((hE (bX b).1.toNat (bX b).2.1.toNat k:Nat):Int)=b.2.2.2.2.2-1↔decide (hE (bX b).1.toNat (bX b).2.1.toNat k+1=(bX b).2.2.toNat)=true;have bD:(bX b).2.2=b.2.2.2.2.2-b.2.2.1:=by rw[At aO]
 rw[decide_eq_true_eq];omega
theorem Zu {F:Int} {aH:List bM} {c:Nat} (aq:c<4):∀(l:List (Nat×Int)) (out:bM),b_ (sv F aH l out) c=l.foldl (λa p=>max a (given (dy aH p.1 c) F c (decide (0<p.2)))) (b_ out c)
 |[],out=>rfl
 |p::l,out=>by
  show b_ (sv F aH l (Ce F out (aH.getD p.1 default) p.2)) c=_;rw[Zu aq l,List.foldl_cons];congr 1;unfold Ce;rw[iF aq];rfl
theorem ako {lit:List Int} {aH:List bM} {sh:List Bool} {k c:Nat} (ae:okB b) (aj:k<(gK b).N) (aq:c<4):b_ (v' table lit aH sh b k) c=rule (gK b) (iw table lit sh) (dy aH) k c:=by
 unfold v' rule;show b_ (if sh.getD k default=true then _ else _) c=if sh.getD k default=true then _ else _
 split
 ·rw[Zu aq]
  congr 1;unfold Lb uF;have aK:=akn ae aj
  match c,aq with
  |0,_=>rfl
  |1,_=>rfl
  |2,_=>rfl
  |3,_=>
   show (if yX b k then _ else _)=if (3:Nat)=3 then (if (gK b).top k=true then _ else _) else _
   rw[aQ rfl];by_cases h:yX b k
   ·rw[aQ h,aQ (aK.1 h)];rfl
   ·rw[aU h,aU (λe=>h (aK.2 e))]
 ·exact GC c
theorem akp {lit:List Int} {sh:List Bool} {k:Nat} (ae:okB b) (aj:k<(gK b).N) (w:fU):v' table lit w.aH sh b k=pt (gK b) (iw table lit sh) w k:=bM.ext' λc aq=>by
 rw[ako ae aj aq];unfold pt;rw[iF aq]
theorem akq (x y:bM):k6 4 x y=td x y:=by
 unfold k6 td rn;simp
theorem akr (x y:bM):v_ 4 x y=z8 x y:=by
 unfold v_ z8;simp
theorem aks {lit:List Int} {sh:List Bool} {old:bM} {p:Nat×Int} {w:fU}:oY table lit old (w.bE,w.gone,w.aH) p=((hb (iw table lit sh) old w p).bE,(hb (iw table lit sh) old w p).gone,(hb (iw table lit sh) old w p).aH)/\(hb (iw table lit sh) old w p).bu=w.bu/\(hb (iw table lit sh) old w p).waits=w.waits:=by
 have e:Au (eG table (lit.getD p.1 default)).2.2.2.2.1 old (w.aH.getD p.1 default) p.2=pq (iw table lit sh) old (w.aH.getD p.1 z4) p:=rfl;unfold oY hb Cd yW Av;rw[e];split
 ·exact⟨rfl,rfl,rfl⟩
 ·exact⟨rfl,rfl,rfl⟩
theorem Zv {lit:List Int} {sh:List Bool} {old:bM}:∀(l:List (Nat×Int)) (w:fU),l7 table lit old l (w.bE,w.gone,w.aH)=((l.foldl (hb (iw table lit sh) old) w).bE,(l.foldl (hb (iw table lit sh) old) w).gone,(l.foldl (hb (iw table lit sh) old) w).aH)/\(l.foldl (hb (iw table lit sh) old) w).bu=w.bu/\(l.foldl (hb (iw table lit sh) old) w).waits=w.waits
 |[],w=>⟨rfl,rfl,rfl⟩
 |p::l,w=>by
  obtain⟨ad,af,ay⟩:=aks (table:=table) (lit:=lit) (sh:=sh) (old:=old) (p:=p) (w:=w);obtain⟨g1,g2,g3⟩:=Zv (sh:=sh) l (hb (iw table lit sh) old w p);refine⟨?_,g2.trans af,g3.trans ay⟩;show l7 table lit old l (oY table lit old (w.bE,w.gone,w.aH) p)=_;rw[ad,g1];rfl
theorem akt (w:fU) (k:Nat):iM w k={w with bu:=mw w.bu w.waits k,waits:=nw w.waits k}:=by
 unfold iM mw nw;show (if w.waits.getD k default=true then _ else _)=_;split<;>rfl
theorem Le {α:Type} (f:α->Nat):∀(l:List α) (w:fU),l.foldl (λw p=>iM w (f p)) w={w with bu:=(l.foldl (λs p=>(mw s.1 s.2 (f p),nw s.2 (f p))) (w.bu,w.waits)).1,waits:=(l.foldl (λs p=>(mw s.1 s.2 (f p),nw s.2 (f p))) (w.bu,w.waits)).2}
 |[],w=>rfl
 |p::l,w=>by
  rw[List.foldl_cons,Le f l,akt];rfl
theorem Hy {α:Type} {l:List α} {d:α} (h:l≠[]):l=l.getD 0 d::l.drop 1:=by
 cases l with
 |nil=>exact absurd rfl h
 |cons x r=>rfl
theorem aku {u:iv} (h:u.bE≠[]):se (gK b) (iw table u.lit u.bZ) (hg u)=some (hg (yY table b u (u.bE.getD 0 default) (u.bE.drop 1))):=by
 unfold se;have e:(hg u).bE=u.bE.getD 0 default::u.bE.drop 1:=Hy h;rw[e];obtain⟨ad,af,ay⟩:=Zv (table:=table) (lit:=u.lit) (sh:=u.bZ) (old:=(u.bE.getD 0 default).2) (dZ b u.bZ (u.bE.getD 0 default).1 6) {hg u with bE:=u.bE.drop 1};show some (GD (hD (gK b) (iw table u.lit u.bZ) (hg u) (u.bE.getD 0 default) (u.bE.drop 1)))=_;refine congrArg some ?_;have hl:xr table b u (u.bE.getD 0 default) (u.bE.drop 1)=((hD (gK b) (iw table u.lit u.bZ) (hg u) (u.bE.getD 0 default) (u.bE.drop 1)).bE,(hD (gK b) (iw table u.lit u.bZ) (hg u) (u.bE.getD 0 default) (u.bE.drop 1)).gone,(hD (gK b) (iw table u.lit u.bZ) (hg u) (u.bE.getD 0 default) (u.bE.drop 1)).aH):=ad
 change (hD (gK b) (iw table u.lit u.bZ) (hg u) (u.bE.getD 0 default) (u.bE.drop 1)).bu=u.bu at af
 change (hD (gK b) (iw table u.lit u.bZ) (hg u) (u.bE.getD 0 default) (u.bE.drop 1)).waits=u.waits at ay
 unfold yY GD;rw[hl];generalize hD (gK b) (iw table u.lit u.bZ) (hg u) (u.bE.getD 0 default) (u.bE.drop 1)=X at af ay ⊢;by_cases bI:X.bE=[]
 ·rw[aQ bI,aQ (by show X.bE.length=0;rw[bI];rfl)]
  have:=Le (λk:Nat=>k) X.gone X
  change X.gone.foldl iM X=_ at this
  rw[this,af,ay];rfl
 ·rw[aU bI,aU (by show ¬X.bE.length=0;intro e;exact bI (List.length_eq_zero_iff.1 e))]
  show _=(⟨X.aH,X.bE,X.gone,u.bu,u.waits⟩:fU);rw[<-af,<-ay]
theorem akv {u:iv} (ae:okB b) (h:u.bE=[]) (af:u.bu≠[]) (aj:u.bu.getD 0 default<(gK b).N):se (gK b) (iw table u.lit u.bZ) (hg u)=some (hg (yZ table b u (u.bu.getD 0 default) (u.bu.drop 1))):=by
 unfold se;rw[show (hg u).bE=[] from h,show (hg u).bu=u.bu.getD 0 default::u.bu.drop 1 from Hy af];show some (GF (gK b) (iw table u.lit u.bZ) (hg u) (u.bu.getD 0 default) (u.bu.drop 1))=_;refine congrArg some ?_;have av:Ht table b u (u.bu.getD 0 default)=pt (gK b) (iw table u.lit u.bZ) (hg u) (u.bu.getD 0 default):=akp ae aj (hg u);unfold yZ GF;rw[av,akq,akr];show (if z8 _ (u.aH.getD (u.bu.getD 0 default) default)=true then _ else _)=hg (if z8 _ (u.aH.getD (u.bu.getD 0 default) default)=true then _ else _);split
 ·have:=Le (λp:Nat×Int=>p.1) (lk (gK b) (iw table u.lit u.bZ) (u.bu.getD 0 default)) {hg u with bu:=u.bu.drop 1,waits:=u.waits.set (u.bu.getD 0 default) false,aH:=u.aH.set (u.bu.getD 0 default) (td (pt (gK b) (iw table u.lit u.bZ) (hg u) (u.bu.getD 0 default)) (u.aH.getD (u.bu.getD 0 default) z4))}
  exact this
 ·rfl
theorem Zw {u:iv} (h:u.bE=[]) (af:u.bu=[]):se (gK b) (iw table u.lit u.bZ) (hg u)=none:=by
 unfold se;rw[show (hg u).bE=[] from h,show (hg u).bu=[] from af]
end AE
namespace AE
def Zx (table:List cX):Prop:=∀c:Int,1<=(eG table c).2.2.2.2.1/\(eG table c).2.2.2.2.1<=16/\∀i,i<3->0<=gQ (eG table c) i/\gQ (eG table c) i<=15
def Cf (l:List az):Prop:=∀x∈l,∀c,c<4->0<=b_ x.2 c/\b_ x.2 c<=15
def Lf (l:List bM):Prop:=∀k c,k<l.length->c<4->0<=dy l k c/\dy l k c<=15
structure Aw (w:fU):Prop where
 fp:Cf w.bE
 Hz:w.gone.length+lG oQ w.aH<=4*w.aH.length+1
theorem akw {S:g_} {old:bM} {w:fU} {p:Nat×Int} (hp:p.1<w.aH.length) (ae:Lf w.aH) (hl:Cf w.bE):
  Cf (hb S old w p).bE/\Lf (hb S old w p).aH/\(hb S old w p).aH.length=w.aH.length/\(hb S old w p).gone.length+w.bE.length=(hb S old w p).bE.length+w.gone.length:=by
 unfold hb;split
 ·exact⟨hl,ae,rfl,Nat.add_comm _ _⟩
 ·refine⟨?_,?_,by simp [ja],by simp [ja];omega⟩
  ·intro x ak c aq
   rcases List.mem_append.1 ak with ak|ak
   ·exact hl x ak c aq
   ·rw[List.mem_singleton.1 ak]
    show 0<=b_ (pq S old (w.aH.getD p.1 z4) p) c/\_;have:=ae p.1 c hp aq;unfold dy at this;unfold pq;rw[iF aq];split
    ·exact this
    ·omega
  ·intro k c aj aq
   have n3:k<w.aH.length:=by simpa [ja] using aj
   rw[O_ hp aq];split
   ·omega
   ·exact ae k c n3 aq
theorem Zy {S:g_} {old:bM}:∀(l:List (Nat×Int)) (w:fU),(∀p∈l,p.1<w.aH.length)->Lf w.aH->Cf w.bE->
  Cf (l.foldl (hb S old) w).bE/\(l.foldl (hb S old) w).gone.length+w.bE.length=(l.foldl (hb S old) w).bE.length+w.gone.length
 |[],w,_,_,hl=>⟨hl,Nat.add_comm _ _⟩
 |p::l,w,hp,ae,hl=>by
  obtain⟨q1,aE,ca,ey⟩:=akw (S:=S) (old:=old) (hp p (by simp)) ae hl;obtain⟨cJ,dk⟩:=Zy (S:=S) (old:=old) l (hb S old w p) (λq aZ=>by rw[ca];exact hp q (by simp [aZ])) aE q1;exact⟨cJ,by rw[List.foldl_cons];omega⟩
variable {G:oi}
theorem Zz {α:Type} (f:α->Nat) (l:List α) (w:fU):(l.foldl (λw p=>iM w (f p)) w).aH=w.aH/\(l.foldl (λw p=>iM w (f p)) w).bE=w.bE/\(l.foldl (λw p=>iM w (f p)) w).gone=w.gone:=by
 rw[Le];exact⟨rfl,rfl,rfl⟩
theorem Aw.unit {S:g_} {w w':fU} (h:qD G S w) (f:Aw w) (hu:se G S w=some w'):Aw w':=by
 unfold se at hu;split at hu
 ·rename_i x r ak
  cases hu;have cO:w.bE≠[]:=by rw[ak];simp
  obtain⟨aA,jh,b3,d',cur,z6,bc⟩:=h.down cO;have sd:x.1<G.N:=bc.lost x (by rw[ak];simp);have b8:∀p∈lk G S x.1,p.1<w.aH.length:=λp hp=>by rw[h.len];exact G.sc _ p.1 p.2 sd (vE.1 hp).1
  obtain⟨hN,iC,_,_⟩:=Xr (S:=S) (old:=x.2) (lk G S x.1) {w with bE:=r} b8;have akx:Lf w.aH:=λk c aj aq=>h.bound k c (by rw[<-h.len];exact aj) aq
  obtain⟨cJ,dk⟩:=Zy (S:=S) (old:=x.2) (lk G S x.1) {w with bE:=r} b8 akx λy bq=>f.fp y (by rw[ak];simp [bq])
  change (hD G S w x r).bE.length+lG oQ (hD G S w x r).aH<=r.length+lG oQ w.aH at hN
  change (hD G S w x r).aH.length=w.aH.length at iC
  change Cf (hD G S w x r).bE at cJ
  change (hD G S w x r).gone.length+r.length=(hD G S w x r).bE.length+w.gone.length at dk
  have aO:=f.Hz;unfold GD;split
  ·rename_i bI
   obtain⟨g1,g2,g3⟩:=Zz (λk:Nat=>k) (hD G S w x r).gone (hD G S w x r)
   change ((hD G S w x r).gone.foldl iM (hD G S w x r)).aH=_ at g1
   change ((hD G S w x r).gone.foldl iM (hD G S w x r)).bE=_ at g2
   refine⟨?_,?_⟩
   ·show Cf ((hD G S w x r).gone.foldl iM (hD G S w x r)).bE
    rw[g2];exact cJ
   ·show ([]:List Nat).length+lG oQ ((hD G S w x r).gone.foldl iM (hD G S w x r)).aH<=4*((hD G S w x r).gone.foldl iM (hD G S w x r)).aH.length+1
    rw[g1];have:=GG (hD G S w x r);simp only [List.length_nil];omega
  ·exact⟨cJ,ar⟩
 ·rename_i ak
  obtain⟨Dq,_⟩:=h.up ak;split at hu
  ·rename_i k r aA
   cases hu;have key:∀w':fU,w'.bE=[]->w'.gone=[]->Aw w':=λw' ad af=>⟨(by rw[ad];exact λx ak=>absurd ak (by simp)),by
    have:=GG w';rw[af,List.length_nil]
    omega⟩
   unfold GF;simp only;split
   ·obtain⟨_,g2,g3⟩:=Zz (λp:Nat×Int=>p.1) (lk G S k) {w with bu:=r,waits:=w.waits.set k false,aH:=w.aH.set k (td (pt G S w k) (w.aH.getD k z4))}
    exact key _ (g2.trans ak) (g3.trans Dq)
   ·exact key _ ak Dq
  ·cases hu
theorem Aw.Br {S:g_} {w:fU} (h:qD G S w) (ad:w.bE=[]) (af:w.gone=[]) {k:Nat} (aj:k<G.N):Aw (ja w k (w.aH.getD k z4)):=by
 refine⟨?_,?_⟩
 ·intro x ak c aq
  unfold ja at ak;simp only [ad,List.nil_append,List.mem_singleton] at ak;rw[ak];exact h.bound k c aj aq
 ·have:=GG (ja w k (w.aH.getD k z4))
  have aA:(ja w k (w.aH.getD k z4)).gone.length=1:=by
   unfold ja;simp [af]
  omega
structure gd (table:List cX) (b:bQ) (u:iv):Prop where
 Cg:Zx table
 box:okB b
 len:u.bZ.length=(fg b).toNat
 HA:u.lit.length=u.bZ.length
 few:u.bZ.length<=10000
 work:qD (gK b) (iw table u.lit u.bZ) (hg u)
 fit:Aw (hg u)
 mu:mu (gK b).N (hg u)<=qC (gK b).N
 reqs:∀x∈u.reqs,x.1<u.bZ.length
def hn (b:bQ) (u:iv):Nat:=mu (gK b).N (hg u)+qC (gK b).N*u.reqs.length
variable {table:List cX} {b:bQ} {u:iv}
theorem gd.N (h:gd table b u):(gK b).N=u.bZ.length:=(Zt h.box).trans h.len.symm
theorem gd.ok (h:gd table b u):(iw table u.lit u.bZ).k3 (gK b).N:=⟨λk _=>(h.Cg _).1,λk c _ aq=>(h.Cg _).2.2 c aq⟩
theorem gd.HB (h:gd table b u):u.aH.length=u.bZ.length:=h.work.len.trans h.N
theorem gd.aky (h:gd table b u):u.waits.length=u.bZ.length:=h.work.wait.len.trans h.N
theorem gd.fp (h:gd table b u):∀x∈u.bE,x.1<u.bZ.length/\0<=x.2.1/\x.2.1<=15/\0<=x.2.2.1/\x.2.2.1<=15/\0<=x.2.2.2.1/\x.2.2.2.1<=15/\0<=x.2.2.2.2/\x.2.2.2.2<=15:=λx ak=>by
 have cO:(hg u).bE≠[]:=λe=>by
  have:x∈(hg u).bE:=ak;rw[e] at this;cases this
 obtain⟨_,jh,b3,d',cur,_,bc⟩:=h.work.down cO;have q:=h.fit.fp x ak;refine⟨by rw[<-h.N];exact bc.lost x ak,?_⟩;exact⟨(q 0 cz).1,(q 0 cz).2,(q 1 cz).1,(q 1 cz).2,(q 2 cz).1,(q 2 cz).2,(q 3 cz).1,(q 3 cz).2⟩
theorem gd.ru (h:gd table b u):∀k∈u.bu,k<u.bZ.length:=λk aj=>by rw[<-h.N];exact h.work.wait.lt k aj
theorem gd.go (h:gd table b u):∀k∈u.gone,k<u.bZ.length:=λk aj=>by
 by_cases ak:(hg u).bE=[]
 ·have:=(h.work.up ak).1
  have n3:k∈(hg u).gone:=aj;rw[this] at n3;cases n3
 ·obtain⟨_,jh,b3,d',cur,_,bc⟩:=h.work.down ak
  rw[<-h.N];exact bc.D5 k aj
theorem gd.li (h:gd table b u):∀n,n<u.bZ.length->0<=(u.aH.getD n default).1/\(u.aH.getD n default).1<=15/\0<=(u.aH.getD n default).2.1/\(u.aH.getD n default).2.1<=15/\0<=(u.aH.getD n default).2.2.1/\(u.aH.getD n default).2.2.1<=15/\0<=(u.aH.getD n default).2.2.2/\(u.aH.getD n default).2.2.2<=15:=λn av=>by
 have q:=λc (aq:c<4)=>h.work.bound n c (by rw[h.N];exact av) aq
 exact⟨(q 0 cz).1,(q 0 cz).2,(q 1 cz).1,(q 1 cz).2,(q 2 cz).1,(q 2 cz).2,(q 3 cz).1,(q 3 cz).2⟩
theorem gd.cG (h:gd table b u):∀n,n<u.bZ.length->1<=(eG table (u.lit.getD n default)).2.2.2.2.1/\(eG table (u.lit.getD n default)).2.2.2.2.1<=16:=λn _=>⟨(h.Cg _).1,(h.Cg _).2.1⟩
theorem gd.gM (h:gd table b u):u.bE.length<=50000:=by
 have hp:=h.mu;unfold AE.mu at hp;have j5:=h.N;have aO:=h.few;by_cases ak:(hg u).bE=[]
 ·have:u.bE=[]:=ak
  rw[this];exact Nat.zero_le _
 ·rw[aU ak] at hp
  unfold qC at hp;have:(hg u).bE.length=u.bE.length:=rfl;omega
theorem gd.c2 (h:gd table b u):u.gone.length<=50000:=by
 have ad:=h.fit.Hz;have af:=h.HB;have aO:=h.few;have e1:(hg u).gone.length=u.gone.length:=rfl;have e2:(hg u).aH.length=u.aH.length:=rfl;omega
theorem gd.c3 (h:gd table b u):u.bu.length<=50000:=by
 have ad:=h.work.wait.count;have aO:=h.few;have j5:=h.N;have e1:(hg u).bu.length=u.bu.length:=rfl;omega
theorem ZA (u:iv) (x:az) (r:List az):(yY table b u x r).lit=u.lit/\(yY table b u x r).bZ=u.bZ/\(yY table b u x r).reqs=u.reqs:=by
 unfold yY;split<;>exact⟨rfl,rfl,rfl⟩
theorem ZB (u:iv) (k:Nat) (r:List Nat):(yZ table b u k r).lit=u.lit/\(yZ table b u k r).bZ=u.bZ/\(yZ table b u k r).reqs=u.reqs:=by
 unfold yZ;split<;>exact⟨rfl,rfl,rfl⟩
theorem gd.step {u':iv} (h:gd table b u) (hu:se (gK b) (iw table u.lit u.bZ) (hg u)=some (hg u')) (aj:u'.lit=u.lit/\u'.bZ=u.bZ/\u'.reqs=u.reqs):gd table b u'/\hn b u'+1<=hn b u:=by
 obtain⟨db,dr,s7⟩:=aj;obtain⟨w1,w2⟩:=h.work.unit h.ok hu;refine⟨⟨h.Cg,h.box,by rw[dr];exact h.len,by rw[db,dr];exact h.HA,by rw[dr];exact h.few,by rw[db,dr];exact w1,h.fit.unit h.work hu,by have:=h.mu;omega,by rw[s7,dr];exact h.reqs⟩,?_⟩;unfold hn;rw[s7];omega
theorem gd.unit (h:gd table b u) (ad:(gJ table b u).1=true):gd table b (gJ table b u).2/\hn b (gJ table b u).2+1<=hn b u:=by
 by_cases hl:u.bE=[]
 ·by_cases aA:u.bu=[]
  ·by_cases ao:u.reqs=[]
   ·rw[Hx (by rw[hl];simp) (by rw[aA];simp) (by rw[ao];simp)] at ad
    cases ad
   ·have ak:u.reqs=u.reqs.getD 0 default::u.reqs.drop 1:=Hy ao
    rw[Hw (by rw[hl];simp) (by rw[aA];simp) (List.length_pos_iff.2 ao)];have nu:(u.reqs.getD 0 default).1<u.bZ.length:=h.reqs _ (by rw[ak];simp);have aj:(u.reqs.getD 0 default).1<(gK b).N:=by rw[h.N];exact nu
    have av:=Zw (table:=table) (b:=b) hl aA;generalize he:u.reqs.getD 0 default=x at ak nu aj ⊢;have hw:hg (Lc u x (u.reqs.drop 1))=ja (hg u) x.1 ((hg u).aH.getD x.1 z4):=rfl;have xU:∀n,n≠x.1->(iw table (u.lit.set x.1 x.2.1) (u.bZ.set x.1 x.2.2)).jL n=(iw table u.lit u.bZ).jL n/\(∀c,(iw table (u.lit.set x.1 x.2.1) (u.bZ.set x.1 x.2.2)).emit n c=(iw table u.lit u.bZ).emit n c)/\(iw table (u.lit.set x.1 x.2.1) (u.bZ.set x.1 x.2.2)).bZ n=(iw table u.lit u.bZ).bZ n:=λn cO=>by
     have e1:(u.lit.set x.1 x.2.1).getD n default=u.lit.getD n default:=by
      rw[BP (by rw[h.HA];exact nu),aU cO]
     have e2:(u.bZ.set x.1 x.2.2).getD n default=u.bZ.getD n default:=by
      rw[BP nu,aU cO]
     refine⟨?_,λc=> ?_,e2⟩
     ·show (eG table ((u.lit.set x.1 x.2.1).getD n default)).2.2.2.2.1=_
      rw[e1];rfl
     ·show gQ (eG table ((u.lit.set x.1 x.2.1).getD n default)) c=_
      rw[e1];rfl
    obtain⟨t1,t2⟩:=h.work.Br h.ok av aj xU;obtain⟨s1,_,r3,_⟩:=h.work.settled h.ok av;have aq:u.reqs.length=(u.reqs.drop 1).length+1:=by
     rw[List.length_drop];have:=List.length_pos_iff.2 ao;omega
    refine⟨⟨h.Cg,h.box,?_,?_,?_,?_,?_,?_,?_⟩,?_⟩
    ·show (u.bZ.set x.1 x.2.2).length=_
     rw[List.length_set];exact h.len
    ·show (u.lit.set x.1 x.2.1).length=(u.bZ.set x.1 x.2.2).length
     rw[List.length_set,List.length_set];exact h.HA
    ·show (u.bZ.set x.1 x.2.2).length<=_
     rw[List.length_set];exact h.few
    ·rw[hw]
     exact t1
    ·rw[hw]
     exact Aw.Br h.work s1 r3 aj
    ·rw[hw]
     omega
    ·intro y bq
     show y.1<(u.bZ.set x.1 x.2.2).length;rw[List.length_set];exact h.reqs y (by rw[ak];exact List.mem_cons_of_mem _ bq)
    ·unfold hn
     rw[hw,aq];show _+qC (gK b).N*(u.reqs.drop 1).length+1<=_;rw[Nat.mul_add,Nat.mul_one];omega
  ·rw[Hv (by rw[hl];simp) (List.length_pos_iff.2 aA)]
   have ak:u.bu=u.bu.getD 0 default::u.bu.drop 1:=Hy aA;refine h.step (akv h.box hl aA ?_) (ZB u _ _);rw[h.N];exact h.ru _ (by rw[ak];simp)
 ·rw[Hu (List.length_pos_iff.2 hl)]
  exact h.step (aku hl) (ZA u _ _)
theorem gd.done (h:gd table b u) (ad:(gJ table b u).1=false):(gJ table b u).2=u/\u.bE=[]/\u.bu=[]/\u.reqs=[]/\u.gone=[]/\uG (gK b) (iw table u.lit u.bZ) (dy u.aH):=by
 by_cases hl:u.bE=[]
 ·by_cases aA:u.bu=[]
  ·by_cases ao:u.reqs=[]
   ·obtain⟨s1,s2,r3,Ow⟩:=h.work.settled h.ok (Zw (table:=table) (b:=b) hl aA)
    exact⟨by rw[Hx (by rw[hl];simp) (by rw[aA];simp) (by rw[ao];simp)],hl,aA,ao,r3,Ow⟩
   ·rw[Hw (by rw[hl];simp) (by rw[aA];simp) (List.length_pos_iff.2 ao)] at ad
    cases ad
  ·rw[Hv (by rw[hl];simp) (List.length_pos_iff.2 aA)] at ad
   cases ad
 ·rw[Hu (List.length_pos_iff.2 hl)] at ad
  cases ad
theorem gd.ask {x:iN} (h:gd table b u) (ak:x.1<u.bZ.length):gd table b {u with reqs:=u.reqs++[x]}/\hn b {u with reqs:=u.reqs++[x]}=hn b u+qC (gK b).N:=by
 refine⟨⟨h.Cg,h.box,h.len,h.HA,h.few,h.work,h.fit,h.mu,λy bq=> ?_⟩,?_⟩
 ·rcases List.mem_append.1 bq with bq|bq
  ·exact h.reqs y bq
  ·rw[List.mem_singleton.1 bq]
   exact ak
 ·unfold hn
  show AE.mu (gK b).N (hg u)+qC (gK b).N*(u.reqs++[x]).length=_;rw[List.length_append,List.length_singleton,Nat.mul_add,Nat.mul_one];omega
def nf (table:List cX) (b:bQ):Nat->iv->iv
 |0,u=>u
 |n+1,u=>(gJ table b (nf table b n u)).2
end AE
namespace AE
def h' (table:List cX) (b:bQ):Nat->iv->Nat×iv
 |0,u=>(0,u)
 |f+1,u=>if (gJ table b u).1=true then ((h' table b f (gJ table b u).2).1+1,(h' table b f (gJ table b u).2).2) else (0,u)
variable {table:List cX} {b:bQ}
theorem HC (n:Nat) (u:iv):nf table b (n+1) u=nf table b n (gJ table b u).2:=by
 induction n with
 |zero=>rfl
 |succ n ck=>exact congrArg (λx=>(gJ table b x).2) ck
theorem Q':∀(d f:Nat) (u:iv),d<=f->(∀m,m<d->(gJ table b (nf table b m u)).1=true)->(d=f\/(gJ table b (nf table b d u)).1=false)->h' table b f u=(d,nf table b d u)
 |0,0,u,_,_,_=>rfl
 |0,f+1,u,_,_,h=>by
  have h:=h.resolve_left ar
  change (gJ table b u).1=false at h
  unfold h';rw[h];rfl
 |d+1,0,u,h,_,_=>absurd h ar
 |d+1,f+1,u,h,ad,af=>by
  have aM:=ad 0 ar
  change (gJ table b u).1=true at aM
  have:=Q' d f (gJ table b u).2 ar (λm hm=>by rw[<-HC];exact ad (m+1) ar) (af.imp (λe=>by omega) λe=>by rw[<-HC];exact e);unfold h';rw[aQ aM,this,HC]
theorem gd.many {u:iv} (h:gd table b u):∀d,(∀m,m<d->(gJ table b (nf table b m u)).1=true)->gd table b (nf table b d u)/\d+hn b (nf table b d u)<=hn b u
 |0,_=>⟨h,by simp [nf]⟩
 |d+1,ad=>by
  obtain⟨q1,aE⟩:=gd.many h d λm hm=>ad m ar
  obtain⟨cJ,dk⟩:=q1.unit (ad d ar);refine⟨cJ,?_⟩;show d+1+hn b (gJ table b (nf table b d u)).2<=_;omega
theorem Lg:∀(f:Nat) (u:iv),(h' table b f u).1<=f/\(h' table b f u).2=nf table b (h' table b f u).1 u/\(∀m,m<(h' table b f u).1->(gJ table b (nf table b m u)).1=true)/\((h' table b f u).1=f\/(gJ table b (h' table b f u).2).1=false)
 |0,u=>⟨b2 _,rfl,λm hm=>absurd hm (Nat.not_lt_zero m),.inl rfl⟩
 |f+1,u=>by
  obtain⟨ad,af,ay,bD⟩:=Lg f (gJ table b u).2;unfold h';split
  ·rename_i h
   refine⟨by simp only;omega,by rw[HC];exact af,λm hm=> ?_,?_⟩
   ·cases m with
    |zero=>exact h
    |succ m=>
     rw[HC];exact ay m (by simp only at hm;omega)
   ·exact bD.imp (λe=>by simp only;omega) λe=>e
  ·rename_i h
   exact⟨Nat.zero_le _,rfl,λm hm=>absurd hm (Nat.not_lt_zero m),.inr (by simpa using h)⟩
theorem gd.settle {u:iv} (h:gd table b u):gd table b (h' table b (hn b u) u).2/\(gJ table b (h' table b (hn b u) u).2).1=false/\(h' table b (hn b u) u).1+hn b (h' table b (hn b u) u).2<=hn b u:=by
 obtain⟨ad,af,ay,bD⟩:=Lg (table:=table) (b:=b) (hn b u) u;obtain⟨q1,aE⟩:=h.many _ ay;rw[<-af] at q1 aE;refine⟨q1,?_,aE⟩;rcases bD with bD|bD
 ·cases hu:(gJ table b (h' table b (hn b u) u).2).1 with
  |false=>rfl
  |true=>
   have:=(q1.unit hu).2;omega
 ·exact bD
theorem gd.run {u:iv} (h:gd table b u) (f:Nat):gd table b (h' table b f u).2/\(h' table b f u).1+hn b (h' table b f u).2<=hn b u:=by
 obtain⟨ad,af,ay,bD⟩:=Lg (table:=table) (b:=b) f u;obtain⟨q1,aE⟩:=h.many _ ay;rw[<-af] at q1 aE;exact⟨q1,aE⟩
theorem gd.ZC {u:iv} (h:gd table b u) (ao:u.reqs.length<=10000):hn b u<=1000000000000:=by
 have ad:=h.mu;have af:(gK b).N<=10000:=by rw[h.N];exact h.few
 have ay:qC (gK b).N<=3650002:=by unfold qC;omega
 have bD:qC (gK b).N*u.reqs.length<=3650002*10000:=Nat.mul_le_mul ay ao;unfold hn;omega
theorem akz {lW uu:iv} {d:Nat} (h:uu=nf table b d lW) (hm:∀m,m<d->(gJ table b (nf table b m lW)).1=true) (aK:(gJ table b uu).1=true):
  (gJ table b uu).2=nf table b (d+1) lW/\∀m,m<d+1->(gJ table b (nf table b m lW)).1=true:=by
 subst h;refine⟨rfl,λm akA=> ?_⟩;rcases Nat.lt_succ_iff_lt_or_eq.1 akA with h|rfl
 ·exact hm m h
 ·exact aK
end AE
section
noncomputable section
namespace AE
abbrev ej:aR:=Tryd.prog
theorem ZD:xp ej lE 1 8=true:=au
theorem akB:xp ej mv 1 1=true:=au
theorem akC:xp ej p2 4 32=true:=au
theorem akD:xp ej oe 8 56=true:=au
theorem akE:xp ej z' 3 24=true:=au
theorem akF:xp ej z_ 5 40=true:=au
abbrev mA:iR ej:=Al (α:=Int) default lE 1 8 ga ZD
abbrev uQ:iR ej:=Al (α:=Nat) default te 1 8 p1 ZD
abbrev sw:iR ej:=Al (α:=Bool) default mv 1 1 iQ akB
abbrev qL:iR ej:=Al (α:=bM) default p2 4 32 dM akC
abbrev xt:iR ej:=Al (α:=cX) default oe 8 56 jf akD
abbrev xu:iR ej:=Al (α:=iN) default z' 3 24 vH akE
abbrev pU:iR ej:=Al (α:=az) default z_ 5 40 kz akF
abbrev ry:=Option Addr×Nat×Nat
structure de where
 q:dY
 o:dY
 g:dY
 s:dY
 w:ry
 l:ry
 i:ry
 t:ry
 h:ry
 c:ry
 k:ry
structure bW where
 u:iv
 b:bQ
 table:List cX
 cells:List Int
 known:List Bool
 most:Int
@[reducible] def Ax (a:dY) (n:Nat):J:= .slice a.1 n a.2
@[reducible] def dq (a:ry):J:= .slice a.1 a.2.1 a.2.2
@[reducible] def xv (A:de) (e:bW):List J:=[I e.b.1,I e.b.2.1,I e.b.2.2.1,I e.b.2.2.2.1,I e.b.2.2.2.2.1,I e.b.2.2.2.2.2,dq A.c,I e.b.1,I e.b.2.1,I e.b.2.2.1,I e.b.2.2.2.1,I e.b.2.2.2.2.1,I e.b.2.2.2.2.2,dq A.i,dq A.k,dq A.h,dq A.t,dq A.l,I e.most,Ax A.q e.u.reqs.length,Ax A.o e.u.bE.length,Ax A.g e.u.gone.length,Ax A.s e.u.bu.length,dq A.w]
@[reducible] def b5 (g:Nat) (A:de) (e:bW):List (a1 ej):=
  [.jq xu (Ax A.q e.u.reqs.length) e.u.reqs,.jq pU (Ax A.o e.u.bE.length) e.u.bE,.arr uQ (Ax A.g e.u.gone.length) e.u.gone,.jq uQ (Ax A.s e.u.bu.length) e.u.bu,.arr sw (dq A.w) e.u.waits,.arr qL (dq A.l) e.u.aH,.arr mA (dq A.i) e.u.lit,.arr xt (dq A.t) e.table,.arr sw (dq A.h) e.u.bZ,.arr mA (dq A.c) e.cells,.arr sw (dq A.k) e.known,.box g yH (xv A e)]
def c7 (g:Nat) (A:de) (e:bW):b0:=vJ (ct (b5 g A e))
abbrev ch (g:Nat):J:= .pointer (some ⟨g,0,none⟩)
theorem cv.Ch {M:Mem} {g:Nat} {A:de} {e:bW} (h:cv M [c7 g A e]):cv M (ct (b5 g A e)):=h.ahO
instance:Inhabited de:=⟨⟨(none,0),(none,0),(none,0),(none,0),(none,0,0),(none,0,0),(none,0,0),(none,0,0),(none,0,0),(none,0,0),(none,0,0)⟩⟩
instance:Inhabited bW:=⟨⟨⟨[],[],[],[],[],[],[],[]⟩,(0,0,0,0,0,0),[],[],[],0⟩⟩
abbrev Q_:List Nat:=[0,1,2,3,4,5,6,7,8,9,10,11]
end AE
end
end
section
noncomputable section
namespace AE
theorem Lh {n m:Nat} (h:n+m<=1000000):n+m<=maxLen:=Nat.le_trans h cz
namespace ZE
def t:bL:=
.o (.dQ 0) 2 1 []<|
.o (.cG 78 2 0) 3 1 [0,26,1]<|
.o (.bF 26 3) 4 1 [1]<|
.vO 26 4 1<|
.o (.dQ 0) 6 1 []<|
.o (.cG 78 6 0) 7 1 [0,26,1]<|
.st 26 7 5<|
.ret (.tuple ⟨[]⟩)
theorem gU:jj Tryd.prog 57 {} [0,1] 2=some t:=k4 au
theorem any {W:ax} {g:Nat} {A:de} {e:bW} {jt:J} {lx:List Nat} (aN:cv (aF W) (ct (b5 g A e++[.red uQ jt lx]))) (hl:e.u.bu.length+lx.length<=1000000) (ak:oc jt=jt:=by rfl):
  jZ ej 57 [.pointer (some ⟨g,22,none⟩),jt] W (b5 g A e++[.red uQ jt lx]) dY (λ_=> .tuple #[]) λy=>b5 g {A with s:=y} {e with u:={e.u with bu:=e.u.bu++lx}}++[.red uQ jt lx]:=by
 refine mZ (ro:=[]) mixed gU [.pointer (some ⟨g,22,none⟩),jt] aN gB.none ?_ (ho:=⟨rfl,ak,trivial⟩);unfold t;refine cy ?_;refine QK U U (λa c=>j8) (.red has) (λa c=> ?_) (Lh hl) (by show _*8<=_;omega);refine cy ?_;exact oX ⟨(a,c),rfl,rfl⟩
end ZE
namespace ZF
def t:bL:=
.o (.dQ 0) 1 1 []<|
.o (.cG 78 1 0) 2 1 [0,26,1]<|
.o (.bF 26 2) 3 1 [1]<|
.o (.dC 26 3 (I 0)) 4 1 [0,3,1]<|
.o (.bF 3 4) 5 1 [1]<|
.o (.lV 26 3 (some (I 1)) none none) 6 1 [0,3,1]<|
.st 26 2 6<|
.ret 5
theorem gU:jj Tryd.prog 64 {} [0] 1=some t:=k4 au
theorem any {W:ax} {g:Nat} {A:de} {e:bW} (aN:cv (aF W) (ct (b5 g A e))) (hl:0<e.u.bu.length):
  jZ ej 64 [.pointer (some ⟨g,22,none⟩)] W (b5 g A e) dY (λ_=>I ((e.u.bu.getD 0 default:Nat):Int)) λy=>b5 g {A with s:=y} {e with u:={e.u with bu:=e.u.bu.drop 1}}:=by
 refine mZ (ro:=[]) mixed gU [.pointer (some ⟨g,22,none⟩)] aN gB.none ?_;unfold t;refine cy ?_;refine QO (m':=(e.u.bu.drop 1).length) (j:=1) (by simp) U U ?_;refine Hj U U j8 Hi ?_;exact pB (λM h=>QR 3 (K:=uQ) (a:=A.s.1) (m:=e.u.bu.length) (c:=A.s.2) (j:=1) (l:=e.u.bu) (m':=(e.u.bu.drop 1).length) j8 rfl (by simp) ar h) ⟨(k1 A.s.1 A.s.2 1 uQ.k,A.s.2-1),rfl,rfl⟩
end ZF
namespace ZG
def t:bL:=
.o (.dQ 0) 2 1 []<|
.o (.cG 76 2 0) 3 1 [0,74,1]<|
.o (.bF 74 3) 4 1 [1]<|
.vO 74 4 1<|
.o (.dQ 0) 6 1 []<|
.o (.cG 76 6 0) 7 1 [0,74,1]<|
.st 74 7 5<|
.ret (.tuple ⟨[]⟩)
theorem gU:jj Tryd.prog 86 {} [0,1] 2=some t:=k4 au
theorem any {W:ax} {g:Nat} {A:de} {e:bW} {jt:J} {lx:List az} (aN:cv (aF W) (ct (b5 g A e++[.red pU jt lx]))) (hl:e.u.bE.length+lx.length<=1000000) (ak:oc jt=jt:=by rfl):
  jZ ej 86 [.pointer (some ⟨g,20,none⟩),jt] W (b5 g A e++[.red pU jt lx]) dY (λ_=> .tuple #[]) λy=>b5 g {A with o:=y} {e with u:={e.u with bE:=e.u.bE++lx}}++[.red pU jt lx]:=by
 refine mZ (ro:=[]) mixed gU [.pointer (some ⟨g,20,none⟩),jt] aN gB.none ?_ (ho:=⟨rfl,ak,trivial⟩);unfold t;refine cy ?_;refine QK U U (λa c=>j8) (.red has) (λa c=> ?_) (Lh hl) (by show _*40<=_;omega);refine cy ?_;exact oX ⟨(a,c),rfl,rfl⟩
end ZG
namespace ZH
def t:bL:=
.o (.dQ 0) 1 1 []<|
.o (.cG 76 1 0) 2 1 [0,74,1]<|
.o (.bF 74 2) 3 1 [1]<|
.o (.dC 74 3 (I 0)) 4 1 [0,87,5]<|
.o (.bF 87 4) (.agg ⟨kC 5 5⟩) 5 [5]<|
.o (.lV 74 3 (some (I 1)) none none) 10 1 [0,87,5]<|
.st 74 2 10<|
.ret (.agg ⟨[5,6,7,8,9]⟩)
theorem gU:jj Tryd.prog 58 {} [0] 1=some t:=k4 au
theorem any {W:ax} {g:Nat} {A:de} {e:bW} (aN:cv (aF W) (ct (b5 g A e))) (hl:0<e.u.bE.length):
  jZ ej 58 [.pointer (some ⟨g,20,none⟩)] W (b5 g A e) dY (λ_=> .agg ⟨kz (e.u.bE.getD 0 default)⟩) λy=>b5 g {A with o:=y} {e with u:={e.u with bE:=e.u.bE.drop 1}}:=by
 refine mZ (ro:=[]) mixed gU [.pointer (some ⟨g,20,none⟩)] aN gB.none ?_;unfold t;refine cy ?_;refine Em (K:=pU) (l:=e.u.bE) (j:=0) (c:=kz (e.u.bE.getD 0 default)) U U U mz ?_;refine QO (m':=(e.u.bE.drop 1).length) (j:=1) (by simp) U U ?_;refine Hj U U j8 Hi ?_;exact pB (λM h=>QR 1 (K:=pU) (a:=A.o.1) (m:=e.u.bE.length) (c:=A.o.2) (j:=1) (l:=e.u.bE) (m':=(e.u.bE.drop 1).length) j8 rfl (by simp) ar h) ⟨(k1 A.o.1 A.o.2 1 pU.k,A.o.2-1),rfl,rfl⟩
end ZH
namespace ZI
def t:bL:=
.o (.dQ 0) 2 1 []<|
.o (.cG 73 2 0) 3 1 [0,71,1]<|
.o (.bF 71 3) 4 1 [1]<|
.vO 71 4 1<|
.o (.dQ 0) 6 1 []<|
.o (.cG 73 6 0) 7 1 [0,71,1]<|
.st 71 7 5<|
.ret (.tuple ⟨[]⟩)
theorem gU:jj Tryd.prog 69 {} [0,1] 2=some t:=k4 au
theorem any {W:ax} {g:Nat} {A:de} {e:bW} {jt:J} {lx:List iN} (aN:cv (aF W) (ct (b5 g A e++[.red xu jt lx]))) (hl:e.u.reqs.length+lx.length<=1000000) (ak:oc jt=jt:=by rfl):
  jZ ej 69 [.pointer (some ⟨g,19,none⟩),jt] W (b5 g A e++[.red xu jt lx]) dY (λ_=> .tuple #[]) λy=>b5 g {A with q:=y} {e with u:={e.u with reqs:=e.u.reqs++lx}}++[.red xu jt lx]:=by
 refine mZ (ro:=[]) mixed gU [.pointer (some ⟨g,19,none⟩),jt] aN gB.none ?_ (ho:=⟨rfl,ak,trivial⟩);unfold t;refine cy ?_;refine QK U U (λa c=>j8) (.red has) (λa c=> ?_) (Lh hl) (by show _*24<=_;omega);refine cy ?_;exact oX ⟨(a,c),rfl,rfl⟩
end ZI
namespace ZJ
def t:bL:=
.o (.dQ 0) 1 1 []<|
.o (.cG 73 1 0) 2 1 [0,71,1]<|
.o (.bF 71 2) 3 1 [1]<|
.o (.dC 71 3 (I 0)) 4 1 [0,89,3]<|
.o (.bF 89 4) (.agg ⟨kC 3 5⟩) 3 [3]<|
.o (.lV 71 3 (some (I 1)) none none) 8 1 [0,89,3]<|
.st 71 2 8<|
.ret (.agg ⟨[5,6,7]⟩)
theorem gU:jj Tryd.prog 67 {} [0] 1=some t:=k4 au
theorem any {W:ax} {g:Nat} {A:de} {e:bW} (aN:cv (aF W) (ct (b5 g A e))) (hl:0<e.u.reqs.length):
  jZ ej 67 [.pointer (some ⟨g,19,none⟩)] W (b5 g A e) dY (λ_=> .agg ⟨vH (e.u.reqs.getD 0 default)⟩) λy=>b5 g {A with q:=y} {e with u:={e.u with reqs:=e.u.reqs.drop 1}}:=by
 refine mZ (ro:=[]) mixed gU [.pointer (some ⟨g,19,none⟩)] aN gB.none ?_;unfold t;refine cy ?_;refine Em (K:=xu) (l:=e.u.reqs) (j:=0) (c:=vH (e.u.reqs.getD 0 default)) U U U mz ?_;refine QO (m':=(e.u.reqs.drop 1).length) (j:=1) (by simp) U U ?_;refine Hj U U j8 Hi ?_;exact pB (λM h=>QR 0 (K:=xu) (a:=A.q.1) (m:=e.u.reqs.length) (c:=A.q.2) (j:=1) (l:=e.u.reqs) (m':=(e.u.reqs.drop 1).length) j8 rfl (by simp) ar h) ⟨(k1 A.q.1 A.q.2 1 xu.k,A.q.2-1),rfl,rfl⟩
end ZJ
end AE
end
end
namespace AE
namespace Li
noncomputable def body:Code:=(Tryd.f62.body).getD .skip
def N:Nat:=26
noncomputable abbrev bN:=gk Tryd.prog Tryd.f62
def a8:b6:={sl:=cc [(3,3),(2,2),(1,1),(0,0)],ms:=[],A:=start}
def cj:bs:=[(.ez 3,.bool true),
 (.bin .eql 3 2 (I 3),.bool true),
 (.bin .eql 3 0 (I 15),.bool true),
 (.bin .eql 3 1 (I 1),.bool true)]
theorem e0:bN (at' 26 cj [] body a8)=some (I 15):=au
def cx:bs:=[(.ez 3,.bool true),
 (.bin .eql 3 2 (I 3),.bool true),
 (.bin .eql 3 0 (I 15),.bool true),
 (.bin .eql 3 1 (I 1),.bool false),
 (.bin .sub 3 0 1,4),
 (.eR #[3,3] 3 (I 0) 4,5)]
theorem e1:bN (at' 26 cx [] body a8)=some 5:=au
def dz:bs:=[(.ez 3,.bool true),
 (.bin .eql 3 2 (I 3),.bool true),
 (.bin .eql 3 0 (I 15),.bool false),
 (.bin .sub 3 0 1,4),
 (.eR #[3,3] 3 (I 0) 4,5)]
theorem e2:bN (at' 26 dz [] body a8)=some 5:=au
def et:bs:=[(.ez 3,.bool true),
 (.bin .eql 3 2 (I 3),.bool false),
 (.bin .sub 3 0 1,4),
 (.eR #[3,3] 3 (I 0) 4,5)]
theorem dn:bN (at' 26 et [] body a8)=some 5:=au
def gf:bs:=[(.ez 3,.bool false),
 (.bin .sub 3 0 1,4),
 (.eR #[3,3] 3 (I 0) 4,5)]
theorem hU:bN (at' 26 gf [] body a8)=some 5:=au
@[reducible] noncomputable def bJ (v f:Int) (c:Nat) (up:Bool):List J:=[I v,I f,I ((c:Nat):Int),.bool up,I (v-f),I (max 0 (v-f))]
theorem any (W:ax) (v f:Int) (c:Nat) (up:Bool) (w4: -1000<=v) (ym:v<=1000) (apR: -1000<=f) (Vt:f<=1000):Calls Tryd.prog 62 #[I v,I f,I ((c:Nat):Int),.bool up] W λe w'=>e= .returned (I (given v f c up))/\cb W.heap.size W w':=by
 refine jO (bJ v f c up) body a8 N [al 0,al 1,al 2,al 3] Tryd.func62 λa ah=> ?_
 letI:=cg ah;have aN:=bH.qA W;by_cases aM:up=true
 ·by_cases ad:((c:Nat):Int)=3
  ·by_cases af:v=15
   ·by_cases ay:f=1
    ·refine bK cj [] (ai (DP U U aM) (ai bC (ai bC (ai bC aX)))) aY ?_ ah
     exact bP e0 λw2 br=>(by (rw[aj3 bt ar bt bt];rfl))
    ·refine bK cx [] (ai (DP U U aM) (ai bC (ai bC (ai bf (ai k5 (ai (aT.pR U U U U U U) aX)))))) aY ?_ ah
     exact bP e1 λw2 br=>(by (rw[K' (λq=>by omega)];rfl))
   ·refine bK dz [] (ai (DP U U aM) (ai bC (ai bf (ai k5 (ai (aT.pR U U U U U U) aX))))) aY ?_ ah
    exact bP e2 λw2 br=>(by (rw[K' (λq=>by omega)];rfl))
  ·refine bK et [] (ai (DP U U aM) (ai bf (ai k5 (ai (aT.pR U U U U U U) aX)))) aY ?_ ah
   exact bP dn λw2 br=>(by (rw[K' (λq=>by omega)];rfl))
 ·refine bK gf [] (ai (Ov U U aM) (ai k5 (ai (aT.pR U U U U U U) aX))) aY ?_ ah
  exact bP hU λw2 br=>(by (rw[K' (λq=>by exact absurd q.1 bt)];rfl))
end Li
namespace Ra
noncomputable def body:Code:=(Tryd.f79.body).getD .skip
def N:Nat:=51
noncomputable abbrev bN:=gk Tryd.prog Tryd.f79
def a8:b6:={sl:=cc [(1,.agg ⟨[3,4,5,6,7,8]⟩),(0,.agg ⟨[0,1,2]⟩)],ms:=[],A:=start}
def cj:bs:=[(.bin .geq 3 0 3,.bool true),
 (.bin .lss 3 0 6,.bool true),
 (.bin .geq 3 1 4,.bool true),
 (.bin .lss 3 1 7,.bool true),
 (.bin .geq 3 2 5,.bool true),
 (.bin .lss 3 2 8,.bool true)]
theorem e0:bN (at' 51 cj [] body a8)=some (.bool true):=au
def cx:bs:=[(.bin .geq 3 0 3,.bool true),
 (.bin .lss 3 0 6,.bool true),
 (.bin .geq 3 1 4,.bool true),
 (.bin .lss 3 1 7,.bool true),
 (.bin .geq 3 2 5,.bool true),
 (.bin .lss 3 2 8,.bool false)]
theorem e1:bN (at' 51 cx [] body a8)=some (.bool false):=au
def dz:bs:=[(.bin .geq 3 0 3,.bool true),
 (.bin .lss 3 0 6,.bool true),
 (.bin .geq 3 1 4,.bool true),
 (.bin .lss 3 1 7,.bool true),
 (.bin .geq 3 2 5,.bool false)]
theorem e2:bN (at' 51 dz [] body a8)=some (.bool false):=au
def et:bs:=[(.bin .geq 3 0 3,.bool true),
 (.bin .lss 3 0 6,.bool true),
 (.bin .geq 3 1 4,.bool true),
 (.bin .lss 3 1 7,.bool false)]
theorem dn:bN (at' 51 et [] body a8)=some (.bool false):=au
def gf:bs:=[(.bin .geq 3 0 3,.bool true),
 (.bin .lss 3 0 6,.bool true),
 (.bin .geq 3 1 4,.bool false)]
theorem hU:bN (at' 51 gf [] body a8)=some (.bool false):=au
def hq:bs:=[(.bin .geq 3 0 3,.bool true),
 (.bin .lss 3 0 6,.bool false)]
theorem kG:bN (at' 51 hq [] body a8)=some (.bool false):=au
def l8:bs:=[(.bin .geq 3 0 3,.bool false)]
theorem jP:bN (at' 51 l8 [] body a8)=some (.bool false):=au
@[reducible] noncomputable def bJ (p:dW) (b:bQ):List J:=[I p.1,I p.2.1,I p.2.2,I b.1,I b.2.1,I b.2.2.1,I b.2.2.2.1,I b.2.2.2.2.1,I b.2.2.2.2.2]
theorem any (W:ax) (p:dW) (b:bQ):Calls Tryd.prog 79 #[P.val p,X.val b] W λe w'=>e= .returned (.bool (decide (ei p b)))/\cb W.heap.size W w':=by
 refine jO (bJ p b) body a8 N [.agg ⟨[al 0,al 1,al 2]⟩,.agg ⟨[al 3,al 4,al 5,al 6,al 7,al 8]⟩] Tryd.func79 λa ah=> ?_
 letI:=cg ah;have aN:=bH.qA W;by_cases aM:b.1<=p.1
 ·by_cases ad:p.1<b.2.2.2.1
  ·by_cases af:b.2.1<=p.2.1
   ·by_cases ay:p.2.1<b.2.2.2.2.1
    ·by_cases bD:b.2.2.1<=p.2.2
     ·by_cases cD:p.2.2<b.2.2.2.2.2
      ·refine bK cj [] (ai bC (ai bC (ai bC (ai bC (ai bC (ai bC aX)))))) aY ?_ ah
       exact bP e0 λw2 br=>(by (rw[gC (show ei p b from ⟨ar,ar,ar,ar,ar,ar⟩)];rfl))
      ·refine bK cx [] (ai bC (ai bC (ai bC (ai bC (ai bC (ai bf aX)))))) aY ?_ ah
       exact bP e1 λw2 br=>(by (rw[c8 (λq:ei p b=>by unfold ei at q;omega)];rfl))
     ·refine bK dz [] (ai bC (ai bC (ai bC (ai bC (ai bf aX))))) aY ?_ ah
      exact bP e2 λw2 br=>(by (rw[c8 (λq:ei p b=>by unfold ei at q;omega)];rfl))
    ·refine bK et [] (ai bC (ai bC (ai bC (ai bf aX)))) aY ?_ ah
     exact bP dn λw2 br=>(by (rw[c8 (λq:ei p b=>by unfold ei at q;omega)];rfl))
   ·refine bK gf [] (ai bC (ai bC (ai bf aX))) aY ?_ ah
    exact bP hU λw2 br=>(by (rw[c8 (λq:ei p b=>by unfold ei at q;omega)];rfl))
  ·refine bK hq [] (ai bC (ai bf aX)) aY ?_ ah
   exact bP kG λw2 br=>(by (rw[c8 (λq:ei p b=>by unfold ei at q;omega)];rfl))
 ·refine bK l8 [] (ai bf aX) aY ?_ ah
  exact bP jP λw2 br=>(by (rw[c8 (λq:ei p b=>by unfold ei at q;omega)];rfl))
end Ra
namespace ZK
noncomputable def body:Code:=(Tryd.f80.body).getD .skip
def N:Nat:=11
noncomputable abbrev bN:=gk Tryd.prog Tryd.f80
def a8:b6:={sl:=cc [(0,.agg ⟨[0,1,2,3,4,5]⟩)],ms:=[],A:=start}
def cj:bs:=[(.bin .geq 3 0 0,.bool true),
 (.bin .lss 3 0 3,.bool true),
 (.bin .geq 3 1 1,.bool true),
 (.bin .lss 3 1 4,.bool true),
 (.bin .geq 3 2 2,.bool true),
 (.bin .lss 3 2 5,.bool true),
 (.bin .mul 3 (I (-1)) 0,6),
 (.bin .mul 3 (I (-1)) 1,7),
 (.bin .mul 3 (I (-1)) 2,8),
 (.bin .add 3 3 6,9),
 (.bin .add 3 4 7,10),
 (.bin .add 3 5 8,11)]
theorem e0:bN (at' 11 cj [] body a8)=some (.agg ⟨[9,10,11]⟩):=au
def cx:bs:=[(.bin .geq 3 0 0,.bool true),
 (.bin .lss 3 0 3,.bool true),
 (.bin .geq 3 1 1,.bool true),
 (.bin .lss 3 1 4,.bool true),
 (.bin .geq 3 2 2,.bool true),
 (.bin .lss 3 2 5,.bool false)]
theorem e1:bN (at' 11 cx [] body a8)=some (.agg ⟨[I 0,I 0,I 0]⟩):=au
def dz:bs:=[(.bin .geq 3 0 0,.bool true),
 (.bin .lss 3 0 3,.bool true),
 (.bin .geq 3 1 1,.bool true),
 (.bin .lss 3 1 4,.bool false)]
theorem e2:bN (at' 11 dz [] body a8)=some (.agg ⟨[I 0,I 0,I 0]⟩):=au
def et:bs:=[(.bin .geq 3 0 0,.bool true),
 (.bin .lss 3 0 3,.bool false)]
theorem dn:bN (at' 11 et [] body a8)=some (.agg ⟨[I 0,I 0,I 0]⟩):=au
@[reducible] noncomputable def bJ (b:bQ):List J:=[I b.1,I b.2.1,I b.2.2.1,I b.2.2.2.1,I b.2.2.2.2.1,I b.2.2.2.2.2,I ((-1)*b.1),I ((-1)*b.2.1),I ((-1)*b.2.2.1),I (b.2.2.2.1+((-1)*b.1)),I (b.2.2.2.2.1+((-1)*b.2.1)),I (b.2.2.2.2.2+((-1)*b.2.2.1))]
theorem any (W:ax) (b:bQ) (ae:okB b):Calls Tryd.prog 80 #[X.val b] W λe w'=>e= .returned (P.val (bX b))/\cb W.heap.size W w':=by
 refine jO (bJ b) body a8 N [.agg ⟨[al 0,al 1,al 2,al 3,al 4,al 5]⟩] Tryd.func80 λa ah=> ?_
 letI:=cg ah;have aN:=bH.qA W;have pa:=ae;have e7: -1048575<=b.1/\b.1<=1048575/\ -1048575<=b.2.1/\b.2.1<=1048575/\ -1048575<=b.2.2.1/\b.2.2.1<=1048575/\ -1048575<=b.2.2.2.1/\b.2.2.2.1<=1048575/\ -1048575<=b.2.2.2.2.1/\b.2.2.2.2.1<=1048575/\ -1048575<=b.2.2.2.2.2/\b.2.2.2.2.2<=1048575:=ae;by_cases aM:b.1<b.2.2.2.1
 ·by_cases ad:b.2.1<b.2.2.2.2.1
  ·by_cases af:b.2.2.1<b.2.2.2.2.2
   ·refine bK cj [] (ai bC (ai bC (ai bC (ai bC (ai bC (ai bC (ai k5 (ai k5 (ai k5 (ai k5 (ai k5 (ai k5 aX)))))))))))) aY ?_ ah
    exact bP e0 λw2 br=>(by (rw[At ⟨ar,ar,ar⟩];exact aj1 ar ar ar))
   ·refine bK cx [] (ai bC (ai bC (ai bC (ai bC (ai bC (ai bf aX)))))) aY ?_ ah
    exact bP e1 λw2 br=>(by (rw[Ev (λq=>by unfold iU at q;omega)];rfl))
  ·refine bK dz [] (ai bC (ai bC (ai bC (ai bf aX)))) aY ?_ ah
   exact bP e2 λw2 br=>(by (rw[Ev (λq=>by unfold iU at q;omega)];rfl))
 ·refine bK et [] (ai bC (ai bf aX)) aY ?_ ah
  exact bP dn λw2 br=>(by (rw[Ev (λq=>by unfold iU at q;omega)];rfl))
end ZK
end AE
namespace AE
section
variable [a7]
theorem akG {x y:J} {p:dW} {b:bQ} (hp:dP [x,y]=true) (bp:ew [x,y]=[P.val p,X.val b]) (h:ei p b):jA Tryd.prog (79,[x,y],.bool true):=
 mo (a:= #[P.val p,X.val b]) hp rfl bp rfl λw _=>(Ra.any w p b).mono λe w' he=>by rw[gC h] at he;exact he
theorem akH {x y:J} {p:dW} {b:bQ} (hp:dP [x,y]=true) (bp:ew [x,y]=[P.val p,X.val b]) (h:¬ei p b):jA Tryd.prog (79,[x,y],.bool false):=
 mo (a:= #[P.val p,X.val b]) hp rfl bp rfl λw _=>(Ra.any w p b).mono λe w' he=>by rw[c8 h] at he;exact he
theorem Lj {x r:J} {b:bQ} (hp:dP [x]=true) (ao:aL r=true) (bp:ew [x]=[X.val b]) (b1:aI r=P.val (bX b)) (ae:okB b):jA Tryd.prog (80,[x],r):=
 mo (a:= #[X.val b]) hp ao bp b1 λw _=>ZK.any w b ae
end
end AE
namespace AE
namespace HD
noncomputable def body:Code:=(Tryd.f55.body).getD .skip
def N:Nat:=31
def a8:b6:={sl:=cc [(1,.agg ⟨[6,7,8]⟩),(0,.agg ⟨[0,1,2,3,4,5]⟩)],ms:=[],A:=start}
def cj:bs:=[(.bin .mul 3 (I (-1)) 0,12),
 (.bin .mul 3 (I (-1)) 1,13),
 (.bin .mul 3 (I (-1)) 2,14),
 (.bin .add 3 6 12,15),
 (.bin .add 3 7 13,16),
 (.bin .add 3 8 14,17),
 (.bin .mul 3 17 10,18),
 (.bin .add 3 18 16,19),
 (.bin .mul 3 19 9,20),
 (.bin .add 3 20 15,21)]
def l9:ec:=[(79,[.agg ⟨[6,7,8]⟩,.agg ⟨[0,1,2,3,4,5]⟩],.bool true),
 (80,[.agg ⟨[al 0,al 1,al 2,al 3,al 4,al 5]⟩],.agg ⟨[al 9,al 10,al 11]⟩)]
theorem e0:gk Tryd.prog Tryd.f55 (at' 31 cj l9 body a8)=some 21:=au
def jQ:ec:=[(79,[.agg ⟨[6,7,8]⟩,.agg ⟨[0,1,2,3,4,5]⟩],.bool false)]
theorem e1:gk Tryd.prog Tryd.f55 (at' 31 [] jQ body a8)=some (I (-1)):=au
@[reducible] noncomputable def bJ (b:bQ) (p:dW):List J:=[I b.1,I b.2.1,I b.2.2.1,I b.2.2.2.1,I b.2.2.2.2.1,I b.2.2.2.2.2,I p.1,I p.2.1,I p.2.2,I (bX b).1,I (bX b).2.1,I (bX b).2.2,I ((-1)*b.1),I ((-1)*b.2.1),I ((-1)*b.2.2.1),I (p.1+((-1)*b.1)),I (p.2.1+((-1)*b.2.1)),I (p.2.2+((-1)*b.2.2.1)),I ((p.2.2+((-1)*b.2.2.1))*(bX b).2.1),I (((p.2.2+((-1)*b.2.2.1))*(bX b).2.1)+(p.2.1+((-1)*b.2.1))),I ((((p.2.2+((-1)*b.2.2.1))*(bX b).2.1)+(p.2.1+((-1)*b.2.1)))*(bX b).1),I (((((p.2.2+((-1)*b.2.2.1))*(bX b).2.1)+(p.2.1+((-1)*b.2.1)))*(bX b).1)+(p.1+((-1)*b.1)))]
theorem any (W:ax) (b:bQ) (p:dW) (ae:okB b):Calls Tryd.prog 55 #[X.val b,P.val p] W λe w'=>e= .returned (I (As b p))/\cb W.heap.size W w':=by
 refine jO (bJ b p) body a8 N [.agg ⟨[al 0,al 1,al 2,al 3,al 4,al 5]⟩,.agg ⟨[al 6,al 7,al 8]⟩] Tryd.func55 λa ah=> ?_
 letI:=cg ah;have aN:=bH.qA W;have e7: -1048575<=b.1/\b.1<=1048575/\ -1048575<=b.2.1/\b.2.1<=1048575/\ -1048575<=b.2.2.1/\b.2.2.1<=1048575/\ -1048575<=b.2.2.2.1/\b.2.2.2.1<=1048575/\ -1048575<=b.2.2.2.2.1/\b.2.2.2.2.1<=1048575/\ -1048575<=b.2.2.2.2.2/\b.2.2.2.2.2<=1048575:=ae;by_cases aM:ei p b
 ·refine bK cj l9 (ai (aT.bi U U U U U U (pj rfl ar ar)) (ai (aT.bi U U U U U U (pj rfl ar ar)) (ai (aT.bi U U U U U U (pj rfl ar ar)) (ai (aT.bi U U U U U U (pj rfl (by (have jo:=qK ae bt;have n5:=pC (show ei p b by assumption);omega)) (by (have jo:=qK ae bt;have n5:=pC (show ei p b by assumption);omega)))) (ai (aT.bi U U U U U U (pj rfl (by (have jo:=qK ae bt;have n5:=pC (show ei p b by assumption);omega)) (by (have jo:=qK ae bt;have n5:=pC (show ei p b by assumption);omega)))) (ai (aT.bi U U U U U U (pj rfl (by (have jo:=qK ae bt;have n5:=pC (show ei p b by assumption);omega)) (by (have jo:=qK ae bt;have n5:=pC (show ei p b by assumption);omega)))) (ai (aT.bi U U U U U U (pj rfl (by (have jo:=qK ae bt;have n5:=pC (show ei p b by assumption);omega)) (by (have jo:=qK ae bt;have n5:=pC (show ei p b by assumption);omega)))) (ai (aT.bi U U U U U U (pj rfl (by (have jo:=qK ae bt;have n5:=pC (show ei p b by assumption);omega)) (by (have jo:=qK ae bt;have n5:=pC (show ei p b by assumption);omega)))) (ai (aT.bi U U U U U U (pj rfl (by (have jo:=qK ae bt;have n5:=pC (show ei p b by assumption);omega)) (by (have jo:=qK ae bt;have n5:=pC (show ei p b by assumption);omega)))) (ai (aT.bi U U U U U U (pj rfl (by (have jo:=qK ae bt;have n5:=pC (show ei p b by assumption);omega)) (by (have jo:=qK ae bt;have n5:=pC (show ei p b by assumption);omega)))) aX)))))))))) (cL (akG U U aM) (cL (Lj U U U U ae) aY)) ?_ ah
  exact bP e0 λw2 br=>(by (rw[Q0 bt];rfl))
 ·refine bK [] jQ aX (cL (akH U U aM) aY) ?_ ah
  exact bP e1 λw2 br=>(by (rw[La bt];rfl))
end HD
end AE
namespace AE
namespace Rb
noncomputable def body:Code:=(Tryd.f84.body).getD .skip
def N:Nat:=39
noncomputable abbrev bN:=gk Tryd.prog Tryd.f84
def a8:b6:={sl:=cc [(1,6),(0,.agg ⟨[0,1,2,3,4,5]⟩)],ms:=[],A:=start}
def cj:bs:=[(.bin .lss 3 6 (I 0),.bool true)]
theorem e0:bN (at' 39 cj [] body a8)=some (.tuple ⟨[.agg ⟨[I 0,I 0,I 0]⟩,.bool false]⟩):=au
def cx:bs:=[(.bin .lss 3 6 (I 0),.bool false),
 (.bin .mul 3 7 8,10),
 (.bin .mul 3 10 9,11),
 (.bin .geq 3 6 11,.bool true)]
def jQ:ec:=[(80,[.agg ⟨[0,1,2,3,4,5]⟩],.agg ⟨[7,8,9]⟩)]
theorem e1:bN (at' 39 cx jQ body a8)=some (.tuple ⟨[.agg ⟨[I 0,I 0,I 0]⟩,.bool false]⟩):=au
def dz:bs:=[(.bin .lss 3 6 (I 0),.bool false),
 (.bin .mul 3 7 8,10),
 (.bin .mul 3 10 9,11),
 (.bin .geq 3 6 11,.bool false),
 (.bin .quo 3 6 7,12),
 (.bin .rem 3 6 7,13),
 (.bin .rem 3 12 8,14),
 (.bin .quo 3 12 8,15),
 (.bin .add 3 0 13,16),
 (.bin .add 3 1 14,17),
 (.bin .add 3 2 15,18)]
def ot:ec:=[(80,[.agg ⟨[0,1,2,3,4,5]⟩],.agg ⟨[7,8,9]⟩)]
theorem e2:bN (at' 39 dz ot body a8)=some (.tuple ⟨[.agg ⟨[16,17,18]⟩,.bool true]⟩):=au
@[reducible] noncomputable def bJ (b:bQ) (i:Int):List J:=[I b.1,I b.2.1,I b.2.2.1,I b.2.2.2.1,I b.2.2.2.2.1,I b.2.2.2.2.2,I i,I (bX b).1,I (bX b).2.1,I (bX b).2.2,I ((bX b).1*(bX b).2.1),I (((bX b).1*(bX b).2.1)*(bX b).2.2),I (i/(bX b).1),I (i%(bX b).1),I ((i/(bX b).1)%(bX b).2.1),I ((i/(bX b).1)/(bX b).2.1),I (b.1+(i%(bX b).1)),I (b.2.1+((i/(bX b).1)%(bX b).2.1)),I (b.2.2.1+((i/(bX b).1)/(bX b).2.1))]
theorem any (W:ax) (b:bQ) (i:Int) (ae:okB b):Calls Tryd.prog 84 #[X.val b,I i] W λe w'=>e= .returned (.tuple #[P.val (fi b i),.bool (decide (0<=i/\i<fg b))])/\cb W.heap.size W w':=by
 refine jO (bJ b i) body a8 N [.agg ⟨[al 0,al 1,al 2,al 3,al 4,al 5]⟩,al 6] Tryd.func84 λa ah=> ?_
 letI:=cg ah;have aN:=bH.qA W;have e7: -1048575<=b.1/\b.1<=1048575/\ -1048575<=b.2.1/\b.2.1<=1048575/\ -1048575<=b.2.2.1/\b.2.2.1<=1048575/\ -1048575<=b.2.2.2.1/\b.2.2.2.1<=1048575/\ -1048575<=b.2.2.2.2.1/\b.2.2.2.2.1<=1048575/\ -1048575<=b.2.2.2.2.2/\b.2.2.2.2.2<=1048575:=ae;have bI:=Cc ae;have aC:=Q1 ae;by_cases aM:i<0
 ·refine bK cj [] (ai bC aX) aY ?_ ah
  exact bP e0 λw2 br=>(by (rw[Q4 (λq=>by have aE:=q.2;unfold fg at aE;omega),c8 (λq:0<=i/\i<fg b=>by have aE:=q.2;unfold fg at aE;omega)];rfl))
 ·by_cases ad:(((bX b).1*(bX b).2.1)*(bX b).2.2)<=i
  ·refine bK cx jQ (ai bf (ai (aT.bi U U U U U U (pj rfl ar ar)) (ai (aT.bi U U U U U U (pj rfl ar ar)) (ai bC aX)))) (cL (Lj U U U U ae) aY) ?_ ah
   exact bP e1 λw2 br=>(by (rw[Q4 (λq=>by have aE:=q.2;unfold fg at aE;omega),c8 (λq:0<=i/\i<fg b=>by have aE:=q.2;unfold fg at aE;omega)];rfl))
  ·refine bK dz ot (ai bf (ai (aT.bi U U U U U U (pj rfl ar ar)) (ai (aT.bi U U U U U U (pj rfl ar ar)) (ai bf (ai (aT.quo (a:=i) (b:=(bX b).1) ⟨ar,ar⟩ (by (have jo:=rr (i:=i) ae ar bt;omega)) U U U U U U) (ai (aT.rem (a:=i) (b:=(bX b).1) ⟨ar,ar⟩ (by (have jo:=rr (i:=i) ae ar bt;omega)) U U U U U U) (ai (aT.rem (a:=(i/(bX b).1)) (b:=(bX b).2.1) ⟨by (have jo:=rr (i:=i) ae ar bt;omega),by (have jo:=rr (i:=i) ae ar bt;omega)⟩ (by (have jo:=rr (i:=i) ae ar bt;omega)) U U U U U U) (ai (aT.quo (a:=(i/(bX b).1)) (b:=(bX b).2.1) ⟨by (have jo:=rr (i:=i) ae ar bt;omega),by (have jo:=rr (i:=i) ae ar bt;omega)⟩ (by (have jo:=rr (i:=i) ae ar bt;omega)) U U U U U U) (ai (aT.bi U U U U U U (pj rfl (by (have jo:=rr (i:=i) ae ar bt;omega)) (by (have jo:=rr (i:=i) ae ar bt;omega)))) (ai (aT.bi U U U U U U (pj rfl (by (have jo:=rr (i:=i) ae ar bt;omega)) (by (have jo:=rr (i:=i) ae ar bt;omega)))) (ai (aT.bi U U U U U U (pj rfl (by (have jo:=rr (i:=i) ae ar bt;omega)) (by (have jo:=rr (i:=i) ae ar bt;omega)))) aX))))))))))) (cL (Lj U U U U ae) aY) ?_ ah
   exact bP e2 λw2 br=>(by (rw[Zi ar bt,gC (show 0<=i/\i<fg b from ⟨ar,by unfold fg;omega⟩)];exact aj2 U U U))
end Rb
end AE
namespace AE
namespace ZL
noncomputable def body:Code:=(Tryd.f85.body).getD .skip
def N:Nat:=9
noncomputable abbrev bN:=gk Tryd.prog Tryd.f85
def a8:b6:={sl:=cc [(1,1),(0,0)],ms:=[],A:=start}
def cj:bs:=[(.bin .lss 3 1 (I 0),.bool true)]
theorem e0:bN (at' 9 cj [] body a8)=some (I 16):=au
def cx:bs:=[(.bin .lss 3 1 (I 0),.bool false),
 (.len #[29] 3 0,2),
 (.bin .geq 3 1 2,.bool true)]
theorem e1:bN (at' 9 cx [] body a8)=some (I 16):=au
def dz:bs:=[(.bin .lss 3 1 (I 0),.bool false),
 (.len #[29] 3 0,2),
 (.bin .geq 3 1 2,.bool false),
 (.dC 29 0 1,3),
 (.bF 70 3,.agg ⟨[4,5,6,7,8,9,10,11]⟩)]
theorem e2:bN (at' 9 dz [] body a8)=some 8:=au
@[reducible] noncomputable def bJ (l:List cX) (dI:c6) (dO:Nat) (cell:Int):List J:=[bA dI l dO,I cell,I ((l.length:Nat):Int),hW (bA dI l dO) ((cell).toNat*8),cr (l.e5 ((cell).toNat)).1,.bool (l.e5 ((cell).toNat)).2.1,.bool (l.e5 ((cell).toNat)).2.2.1,.bool (l.e5 ((cell).toNat)).2.2.2.1,I (l.e5 ((cell).toNat)).2.2.2.2.1,I (l.e5 ((cell).toNat)).2.2.2.2.2.1,I (l.e5 ((cell).toNat)).2.2.2.2.2.2.1,I (l.e5 ((cell).toNat)).2.2.2.2.2.2.2]
theorem any (W:ax) {hX:J} {l:List cX} (hl:cu (aF W) 8 jf hX l) (cell:Int):Calls Tryd.prog 85 #[hX,I cell] W λe w'=>e= .returned (I (eG l cell).2.2.2.2.1)/\cb W.heap.size W w':=by
 obtain⟨dI,dO,rfl⟩:=hl.slice;refine jO (bJ l dI dO cell) body a8 N [al 0,al 1] Tryd.func85 λa ah=> ?_
 letI:=cg ah;have aN:=bH.qA W;by_cases aM:cell<0
 ·refine bK cj [] (ai bC aX) aY ?_ ah
  exact bP e0 λw2 br=>(by (rw[Ki ar];rfl))
 ·by_cases ad:((l.length:Nat):Int)<=cell
  ·refine bK cx [] (ai bf (ai (eT (hl.mono aN.ext) lF) (ai bC aX))) aY ?_ ah
   exact bP e1 λw2 br=>(by (rw[Ki ar];rfl))
  ·refine bK dz [] (ai bf (ai (eT (hl.mono aN.ext) lF) (ai bf (ai (aT.FW (hl.mono aN.ext) (show (cell).toNat<l.length by omega) U U U lF qz rfl (F6 ar) rfl) (ai (aT.r5 (hl.mono aN.ext) (nb ((cell).toNat)) U U BB qz U U U) aX))))) aY ?_ ah
   exact bP e2 λw2 br=>(by (rw[W9 ar ar];rfl))
end ZL
namespace ZM
noncomputable def body:Code:=(Tryd.f87.body).getD .skip
def N:Nat:=9
noncomputable abbrev bN:=gk Tryd.prog Tryd.f87
def a8:b6:={sl:=cc [(1,1),(0,0)],ms:=[],A:=start}
def cj:bs:=[(.bin .lss 3 1 (I 0),.bool true)]
theorem e0:bN (at' 9 cj [] body a8)=some (.agg ⟨[I 0,I 0,I 0]⟩):=au
def cx:bs:=[(.bin .lss 3 1 (I 0),.bool false),
 (.len #[29] 3 0,2),
 (.bin .geq 3 1 2,.bool true)]
theorem e1:bN (at' 9 cx [] body a8)=some (.agg ⟨[I 0,I 0,I 0]⟩):=au
def dz:bs:=[(.bin .lss 3 1 (I 0),.bool false),
 (.len #[29] 3 0,2),
 (.bin .geq 3 1 2,.bool false),
 (.dC 29 0 1,3),
 (.bF 70 3,.agg ⟨[4,5,6,7,8,9,10,11]⟩)]
theorem e2:bN (at' 9 dz [] body a8)=some (.agg ⟨[9,10,11]⟩):=au
@[reducible] noncomputable def bJ (l:List cX) (dI:c6) (dO:Nat) (cell:Int):List J:=[bA dI l dO,I cell,I ((l.length:Nat):Int),hW (bA dI l dO) ((cell).toNat*8),cr (l.e5 ((cell).toNat)).1,.bool (l.e5 ((cell).toNat)).2.1,.bool (l.e5 ((cell).toNat)).2.2.1,.bool (l.e5 ((cell).toNat)).2.2.2.1,I (l.e5 ((cell).toNat)).2.2.2.2.1,I (l.e5 ((cell).toNat)).2.2.2.2.2.1,I (l.e5 ((cell).toNat)).2.2.2.2.2.2.1,I (l.e5 ((cell).toNat)).2.2.2.2.2.2.2]
theorem any (W:ax) {hX:J} {l:List cX} (hl:cu (aF W) 8 jf hX l) (cell:Int):Calls Tryd.prog 87 #[hX,I cell] W λe w'=>e= .returned (.agg ⟨[I (eG l cell).2.2.2.2.2.1,I (eG l cell).2.2.2.2.2.2.1,I (eG l cell).2.2.2.2.2.2.2]⟩)/\cb W.heap.size W w':=by
 obtain⟨dI,dO,rfl⟩:=hl.slice;refine jO (bJ l dI dO cell) body a8 N [al 0,al 1] Tryd.func87 λa ah=> ?_
 letI:=cg ah;have aN:=bH.qA W;by_cases aM:cell<0
 ·refine bK cj [] (ai bC aX) aY ?_ ah
  exact bP e0 λw2 br=>(by (rw[Ki ar];rfl))
 ·by_cases ad:((l.length:Nat):Int)<=cell
  ·refine bK cx [] (ai bf (ai (eT (hl.mono aN.ext) lF) (ai bC aX))) aY ?_ ah
   exact bP e1 λw2 br=>(by (rw[Ki ar];rfl))
  ·refine bK dz [] (ai bf (ai (eT (hl.mono aN.ext) lF) (ai bf (ai (aT.FW (hl.mono aN.ext) (show (cell).toNat<l.length by omega) U U U lF qz rfl (F6 ar) rfl) (ai (aT.r5 (hl.mono aN.ext) (nb ((cell).toNat)) U U BB qz U U U) aX))))) aY ?_ ah
   exact bP e2 λw2 br=>(by (rw[W9 ar ar];rfl))
end ZM
end AE
section
noncomputable section
namespace AE
@[reducible] def Ay (e:bW) (k:Nat):bW:={e with u:={e.u with bu:=mw e.u.bu e.u.waits k,waits:=nw e.u.waits k}}
@[reducible] def akI (e:bW) (k:Nat) (old:bM):bW:={e with u:={e.u with bE:=e.u.bE++[(k,old)],gone:=e.u.gone++[k],aH:=e.u.aH.set k (vF old (e.u.aH.getD k default))}}
namespace Rc
def t:bL:=
.o (.dQ 0) 2 1 []<|
.o (.cG 80 2 11) 3 1 [23,30,1]<|
.o (.bF 30 3) 4 1 [1]<|
.o (.dC 30 4 1) 5 1 [0,4,1]<|
.o (.bF 4 5) 6 1 [1]<|
.o (.un .not 6) 7 1 []<|
.eO 7 (
 .o (.dQ 0) 8 1 []<|
 .o (.cG 80 8 11) 9 1 [23,30,1]<|
 .o (.bF 30 9) 10 1 [1]<|
 .o (.dC 30 10 1) 11 1 [0,4,1]<|
 .st 4 11 (.bool true)<|
 .o (.dQ 0) 12 1 []<|
 .o (.cG 80 12 10) 13 1 [22,78,1]<|
 .tj [1] 1 1<|
 .call 57 [13,14] (.tuple ⟨[]⟩) 0<|
 .ret (.tuple ⟨[]⟩)) (
 .ret (.tuple ⟨[]⟩))
theorem gU:jj Tryd.prog 35 {pw:=[57]} [0,1] 2=some t:=k4 au
theorem any {W:ax} {g:Nat} {A:de} {e:bW} (aN:cv (aF W) (ct (b5 g A e))) (k:Nat) (aj:k<e.u.waits.length) (hl:e.u.bu.length<=400000):
  jZ ej 35 [ch g,I (k:Nat)] W (b5 g A e) dY (λ_=> .tuple #[]) λy=>b5 g {A with s:=y} (Ay e k):=by
 refine mZ (ro:=[]) mixed gU [ch g,I (k:Nat)] aN gB.none ?_;unfold t;refine cy ?_;refine Hh rfl (λh=> ?_) λh=> ?_
 ·have hw:¬e.u.waits.getD k default=true:=by simpa using h
  refine cy ?_;refine yT (K:=sw) (l:=e.u.waits) (j:=k) true U U j8 rfl (λ_ _=>rfl) ?_;refine cy ?_;refine QL uQ [k] rfl (λ_=>p9) λb=> ?_
  refine l6 (eb:=b5 g A {e with u:={e.u with waits:=e.u.waits.set k true}}++[a1.red uQ (.slice (some ⟨b,0,none⟩) 1 1) [k]]) (L':=λy=>b5 g {A with s:=y} {e with u:={e.u with waits:=e.u.waits.set k true,bu:=e.u.bu++[k]}}++[a1.red uQ (.slice (some ⟨b,0,none⟩) 1 1) [k]]) [0,1,2,3,4,5,6,7,8,9,10,11,12] (λ_=>[]) (λw hw aN=>ZE.any (lx:=[k]) aN (by show e.u.bu.length+1<=_;omega)) λy=> ?_
  refine pB (λM bn=> ?_) ⟨y,rfl,rfl⟩;show bH 0 _ _ M (ct (b5 g {A with s:=y} (Ay e k)));unfold Ay;rw[XF hw,XH hw];exact bn.pre
 ·refine oX ⟨A.s,rfl,?_⟩
  have hw:e.u.waits.getD k default=true:=by simpa using h
  unfold Ay;rw[XE hw,XG hw]
end Rc
end AE
end
end
section
noncomputable section
namespace AE
abbrev oZ:aJ:=85
def tA (x:bM) (i:Nat) (v:Int):bM:=rn λc=>if c=i then v else b_ x c
theorem Az {x:bM} {i:Nat} (h:i<4):(dM x)[0+i*1]? =some (I (b_ x i)):=by
 match i,h with
 |0,_=>rfl
 |1,_=>rfl
 |2,_=>rfl
 |3,_=>rfl
theorem Lk {x:bM} {i:Nat} (h:i<4) (v:Int):dM (tA x i v)=(dM x).set (0+i*1) (I v):=by
 match i,h with
 |0,_=>rfl
 |1,_=>rfl
 |2,_=>rfl
 |3,_=>rfl
theorem akJ {x:bM} {i:Nat} (h:i<4):(dM x)[i]? =some (I (b_ x i)):=by
 have:=Az (x:=x) h
 rwa [Nat.zero_add,Nat.mul_one] at this
theorem akK {old x:bM} {i:Nat} (h:0<b_ old i):tA (rp i old x) i 0=rp (i+1) old x:=by
 refine bM.ext' λc aq=> ?_
 unfold tA rp;rw[iF aq,iF aq,iF aq];by_cases ag:c=i
 ·subst ag;rw[aQ rfl,aQ ⟨ar,h⟩]
 ·rw[aU ag]
  by_cases hl:c<i/\0<b_ old c
  ·rw[aQ hl,aQ ⟨ar,hl.2⟩]
  ·rw[aU hl,aU (λq=>hl ⟨ar,q.2⟩)]
theorem akL {old x:bM} {i:Nat} (h:¬0<b_ old i):rp (i+1) old x=rp i old x:=by
 refine bM.ext' λc aq=> ?_
 unfold rp;rw[iF aq,iF aq];by_cases hl:c<i/\0<b_ old c
 ·rw[aQ hl,aQ ⟨ar,hl.2⟩]
 ·rw[aU hl,aU (λq=>hl ⟨(by rcases Nat.lt_or_ge c i with q1|q1;exact q1;exact absurd q.2 (by rw[show c=i by omega];exact h)),q.2⟩)]
@[reducible] def Ll (e:bW) (k:Nat) (old:bM) (i:Nat):bW:={e with u:={e.u with bE:=e.u.bE++[(k,old)],gone:=e.u.gone++[k],aH:=e.u.aH.set k (rp i old (e.u.aH.getD k default))}}
namespace Rd
def t:bL:=
.p7 85 (.agg ⟨[2,3,4,5]⟩)<|
.o (.dQ 0) 7 1 []<|
.o (.cG 80 7 8) 8 1 [20,76,1]<|
.o (.bF 85 6) (.agg ⟨kC 4 9⟩) 4 [4]<|
.tj [1,9,10,11,12] 1 1<|
.call 86 [8,13] (.tuple ⟨[]⟩) 0<|
.o (.dQ 0) 14 1 []<|
.o (.cG 80 14 9) 15 1 [21,26,1]<|
.o (.bF 26 15) 16 1 [1]<|
.yN 26 16 [1]<|
.o (.dQ 0) 18 1 []<|
.o (.cG 80 18 9) 19 1 [21,26,1]<|
.st 26 19 17<|
.loop [I 0] 1<|
.o (.bin .lss 3 20 (I 4)) 21 1 []<|
.eO 21 (
 .o (.dC 85 6 20) 22 1 [1,4,3,1]<|
 .o (.bF 3 22) 23 1 [1]<|
 .o (.bin .gtr 3 23 (I 0)) 24 1 []<|
 .eO 24 (
  .o (.dQ 0) 25 1 []<|
  .o (.cG 80 25 5) 26 1 [17,45,1]<|
  .o (.bF 45 26) 27 1 [1]<|
  .o (.dC 45 27 1) 28 1 [0,85,4]<|
  .o (.dC 85 28 20) 29 1 [1,4,3,1]<|
  .st 3 29 (I 0)<|
  .o (.bin .add 3 20 (I 1)) 30 1 []<|
  .back [30]) (
  .o (.bin .add 3 20 (I 1)) 25 1 []<|
  .back [25])) (
 .fT<|
 .ret (.tuple ⟨[]⟩))
theorem gU:jj Tryd.prog 63 {pw:=[86],marks:=[85]} [0,1,.agg ⟨[2,3,4,5]⟩] 6=some t:=k4 au
theorem any {W:ax} {g:Nat} {A:de} {e:bW} (aN:cv (aF W) (ct (b5 g A e))) (k:Nat) (old:bM) (aj:k<e.u.aH.length) (ad:e.u.bE.length<=400000) (af:e.u.gone.length<=400000):
  jZ ej 63 [ch g,I (k:Nat),.agg ⟨dM old⟩] W (b5 g A e) (dY×dY) (λ_=> .tuple #[]) λy=>b5 g {A with o:=y.1,g:=y.2} (akI e k old):=by
 refine mZ (ro:=[]) mixed gU [ch g,I (k:Nat),I old.1,I old.2.1,I old.2.2.1,I old.2.2.2] aN gB.none ?_;unfold t;refine B_ (cs:=dM old) U U (λb=>p9) λb=> ?_
 refine cy ?_;refine xn (c:=dM old) rfl has U U mz ?_;refine QL pU [(k,old)] rfl (λ_=>p9) λkq=> ?_
 refine l6 (eb:=b5 g A e++[a1.red pU (.slice (some ⟨kq,0,none⟩) 1 1) [(k,old)]]) (L':=λy=>b5 g {A with o:=y} {e with u:={e.u with bE:=e.u.bE++[(k,old)]}}++[a1.box b oZ (dM old),a1.red pU (.slice (some ⟨kq,0,none⟩) 1 1) [(k,old)]]) [0,1,2,3,4,5,6,7,8,9,10,11,13] (λ_=>[]) (λw hw aN=>ZG.any (lx:=[(k,old)]) aN (by show e.u.bE.length+1<=_;omega)) λy=> ?_
 refine cy ?_;refine ajF (K:=uQ) (l:=e.u.gone) [k] rfl (λa c=>j8) rfl (λa c=> ?_) (Lh (by show e.u.gone.length+1<=_;omega)) (by show (e.u.gone.length+1)*8<=_;omega);refine cy ?_;refine xo Nat (λi=>[I (i:Nat)]) (λi=>b5 g {A with o:=y,g:=(a,c)} (Ll e k old i)++[a1.box b oZ (dM old),a1.red pU (.slice (some ⟨kq,0,none⟩) 1 1) [(k,old)]]) (λi=>i<=4) (λi=>4-i) 0 rfl ?_ ar (λi ag=> ?_)
 ·show _=b5 g _ {e with u:={e.u with bE:=e.u.bE++[(k,old)],gone:=e.u.gone++[k],aH:=e.u.aH.set k (rp 0 old (e.u.aH.getD k default))}}++_
  rw[ahM,XJ aj];rfl
 refine cy ?_;refine kE rfl (λbD=> ?_) λbD=> ?_
 ·have lL:i<4:=by omega
  refine cy ?_;refine B' (u:=I (b_ old i)) rfl has (Az lL) ?_;have n3:k<(e.u.aH.set k (rp i old (e.u.aH.getD k default))).length:=by rw[List.length_set];exact aj
  refine cy ?_;refine kE rfl (λhp=> ?_) λhp=> ?_
  ·refine cy ?_
   refine yT (K:=qL) (l:=e.u.aH.set k (rp i old (e.u.aH.getD k default))) (j:=k) (o:=0+i*1) (tA (rp i old (e.u.aH.getD k default)) i 0) U U j8 rfl (λz bI=> ?_) ?_ (hj:=n3) (ho:=by show 0+i*1<4;omega)
   ·rw[List.getElem?_set,aQ rfl,aQ aj,cE] at bI
    subst bI;exact Lk lL 0
   refine cy ?_;refine oo (i+1) rfl ?_ ar ar;rw[List.set_set,akK hp];rfl
  ·refine cy ?_
   refine oo (i+1) rfl ?_ ar ar;show _=b5 g _ (Ll e k old (i+1))++_;unfold Ll;rw[akL hp]
 ·refine cy ?_
  obtain rfl:i=4:=by omega
  refine pB (λM bn=> ?_) ⟨(y,(a,c)),rfl,rfl⟩;unfold Ll at bn;rw[ahN] at bn;exact bn.pick Q_ rfl
end Rd
end AE
end
end
section
noncomputable section
namespace AE
abbrev tB:aJ:=87
namespace Re
def t:bL:=
.o (.dQ 0) 2 1 []<|
.o (.cG 80 2 4) 3 1 [16,29,1]<|
.o (.bF 29 3) 4 1 [1]<|
.o (.cG 80 2 1) 5 1 [7,28,7]<|
.o (.cG 28 5 1) 6 1 [6,26,1]<|
.o (.bF 26 6) 7 1 [1]<|
.o (.dC 26 7 1) 8 1 [0,3,1]<|
.o (.bF 3 8) 9 1 [1]<|
.c 85 [4,9] 10 1<|
.ret 10
theorem gU:jj Tryd.prog 61 {} [0,1] 2=some t:=k4 au
theorem any {W:ax} {g:Nat} {A:de} {e:bW} (aN:cv (aF W) (ct (b5 g A e))) (k:Nat) (aj:k<e.u.lit.length):
  jZ ej 61 [ch g,I (k:Nat)] W (b5 g A e) Unit (λ_=>I (eG e.table (e.u.lit.getD k default)).2.2.2.2.1) λ_=>b5 g A e:=by
 refine mZ (ro:=[]) mixed gU [ch g,I (k:Nat)] aN gB.none ?_;unfold t;refine cy ?_;refine sq (v:=I (eG e.table (e.u.lit.getD k default)).2.2.2.2.1) (λw hw=>ZL.any w ((mX.arr (K:=xt) (l:=e.table) has).at hw) _) ?_;exact oX ⟨(),rfl,rfl⟩
end Re
namespace ZN
def t:bL:=
.o (.bF 34 2) 3 1 [1]<|
.call 35 [3,0] (.tuple ⟨[]⟩) 0<|
.ret (.tuple ⟨[]⟩)
theorem gU:jj Tryd.prog 66 {pw:=[35]} [0,1,2] 3=some t:=k4 au
theorem any {W:ax} {g dv:Nat} {A:de} {e:bW} (aN:cv (aF W) (ct (b5 g A e++[a1.box dv fX [ch g]]))) (k:Nat) (fz:Int) (aj:k<e.u.waits.length) (hl:e.u.bu.length<=400000):
  jZ ej 66 [I (k:Nat),I fz,.pointer (some ⟨dv,0,none⟩)] W (b5 g A e++[a1.box dv fX [ch g]]) dY (λ_=> .tuple #[]) λy=>b5 g {A with s:=y} (Ay e k)++[a1.box dv fX [ch g]]:=by
 refine mZ (ro:=[]) mixed gU [I (k:Nat),I fz,.pointer (some ⟨dv,0,none⟩)] aN gB.none ?_;unfold t;refine cy ?_;refine ts (eb:=b5 g A e) (λ_=>[]) (λw hw aN=>Rc.any aN k aj hl) λy=> ?_
 exact oX ⟨y,rfl,rfl⟩
end ZN
end AE
end
end
section
noncomputable section
namespace AE
theorem ZO {x:az} {i:Nat} (h:i<4):(kz x)[0+1+i*1]? =some (I (b_ x.2 i)):=by
 match i,h with
 |0,_=>rfl
 |1,_=>rfl
 |2,_=>rfl
 |3,_=>rfl
abbrev Ci (x:bM):Prop:=∀c,c<4->0<=b_ x c/\b_ x c<=15
def xw (F:Int) (old x:bM) (fz:Int) (i:Nat):bM:=rn λc=>if c<i then Ew F old x fz c else 0
theorem akM {F:Int} {old x:bM} {fz:Int} {i:Nat} {v:Int} (h:Ew F old x fz i=v):tA (xw F old x fz i) i v=xw F old x fz (i+1):=by
 refine bM.ext' λc aq=> ?_
 unfold tA xw;rw[iF aq,iF aq,iF aq];by_cases ag:c=i
 ·subst ag;rw[aQ rfl,aQ ar,h]
 ·rw[aU ag]
  by_cases hl:c<i
  ·rw[aQ hl,aQ ar]
  ·rw[aU hl,aU ar]
theorem Rf {F:Int} {old x:bM} {fz:Int} {i:Nat} (h:Ew F old x fz i=0):xw F old x fz (i+1)=xw F old x fz i:=by
 refine bM.ext' λc aq=> ?_
 unfold xw;rw[iF aq,iF aq];by_cases ag:c=i
 ·subst ag;rw[aQ ar,aU ar,h]
 ·by_cases hl:c<i
  ·rw[aQ hl,aQ ar]
  ·rw[aU hl,aU ar]
theorem akN {F:Int} {old x:bM} {fz:Int}:xw F old x fz 4=Au F old x fz:=by
 refine bM.ext' λc aq=> ?_
 unfold xw Au;rw[iF aq,iF aq,aQ aq]
@[reducible] def kH (e:bW) (k:Nat):Int:=(eG e.table (e.u.lit.getD k default)).2.2.2.2.1
@[reducible] def Rg (e:bW) (k:Nat) (eH:bM):bW:={e with u:={e.u with bE:=Cd e.u.bE k eH,gone:=yW e.u.gone k eH,aH:=Av e.u.aH k eH}}
@[reducible] def HE (e:bW) (x:az) (k:Nat) (fz:Int):bW:=Rg e k (Au (kH e k) x.2 (e.u.aH.getD k default) fz)
namespace ZP
def t:bL:=
.o (.bF 34 2) 4 1 [1]<|
.call 61 [4,0] 5 1<|
.qF 85<|
.o (.bF 34 2) 7 1 [1]<|
.o (.dQ 7) 8 1 []<|
.o (.cG 80 8 5) 9 1 [17,45,1]<|
.o (.bF 45 9) 10 1 [1]<|
.o (.dC 45 10 0) 11 1 [0,85,4]<|
.o (.bF 85 11) (.agg ⟨kC 4 12⟩) 4 [4]<|
.loop [I 0] 1<|
.o (.bin .lss 3 16 (I 4)) 17 1 []<|
.eO 17 (
 .o (.eD 85 (.agg ⟨[12,13,14,15]⟩) 16) 18 1 [1,4,3,1]<|
 .o (.cG 87 3 1) 19 1 [1,85,4]<|
 .o (.dC 85 19 16) 20 1 [1,4,3,1]<|
 .o (.bF 3 20) 21 1 [1]<|
 .o (.bin .gtr 3 21 (I 0)) 22 1 []<|
 .eO 22 (
  .o (.bin .gtr 3 18 (I 0)) 23 1 []<|
  .eO 23 (
   .o (.cG 87 3 1) 24 1 [1,85,4]<|
   .o (.dC 85 24 16) 25 1 [1,4,3,1]<|
   .o (.bF 3 25) 26 1 [1]<|
   .o (.bin .lss 3 1 (I 0)) 27 1 []<|
   .c 62 [26,5,16,27] 28 1<|
   .o (.bin .eql 3 18 28) 29 1 []<|
   .eO 29 (
    .o (.dC 85 6 16) 30 1 [1,4,3,1]<|
    .st 3 30 18<|
    .o (.bin .add 3 16 (I 1)) 31 1 []<|
    .back [31]) (
    .o (.bin .add 3 16 (I 1)) 30 1 []<|
    .back [30])) (
   .o (.bin .add 3 16 (I 1)) 24 1 []<|
   .back [24])) (
  .o (.bin .add 3 16 (I 1)) 23 1 []<|
  .back [23])) (
 .fT<|
 .o (.bF 85 6) (.agg ⟨kC 4 18⟩) 4 [4]<|
 .o (.bin .neq 85 (.agg ⟨[18,19,20,21]⟩) (.agg ⟨[I 0,I 0,I 0,I 0]⟩)) 22 1 []<|
 .eO 22 (
  .o (.bF 34 2) 23 1 [1]<|
  .o (.bF 85 6) (.agg ⟨kC 4 24⟩) 4 [4]<|
  .call 63 [23,0,.agg ⟨[24,25,26,27]⟩] (.tuple ⟨[]⟩) 0<|
  .ret (.tuple ⟨[]⟩)) (
  .ret (.tuple ⟨[]⟩)))
theorem gU:jj Tryd.prog 60 {pw:=[63,61],marks:=[85]} [0,1,2,3] 4=some t:=k4 au
theorem any {W:ax} {g dv ou:Nat} {A:de} {e:bW} {x:az} (aN:cv (aF W) (ct (b5 g A e++[a1.box dv fX [ch g],a1.box ou tB (kz x)]))) (k:Nat) (fz:Int) (aj:k<e.u.aH.length) (n3:k<e.u.lit.length) (ad:e.u.bE.length<=300000) (af:e.u.gone.length<=300000) (ak:Ci x.2) (c0:1<=kH e k/\kH e k<=16):
  jZ ej 60 [I (k:Nat),I fz,.pointer (some ⟨dv,0,none⟩),.pointer (some ⟨ou,0,none⟩)] W (b5 g A e++[a1.box dv fX [ch g],a1.box ou tB (kz x)]) (dY×dY) (λ_=> .tuple #[]) λy=>b5 g {A with o:=y.1,g:=y.2} (HE e x k fz)++[a1.box dv fX [ch g],a1.box ou tB (kz x)]:=by
 refine mZ (ro:=[]) mixed gU [I (k:Nat),I fz,.pointer (some ⟨dv,0,none⟩),.pointer (some ⟨ou,0,none⟩)] aN gB.none ?_;unfold t;refine cy ?_;refine ts (eb:=b5 g A e) (λ_=>[I (kH e k)]) (λw hw aN=>Re.any aN k n3) λ_=> ?_
 refine Eo (z:= .agg ⟨dM z4⟩) (dM z4) au rfl (λb=>p9) λb=> ?_
 refine cy ?_;refine Em (K:=qL) (l:=e.u.aH) (j:=k) (c:=dM (e.u.aH.getD k default)) U U U mz ?_;generalize nE:e.u.aH.getD k default=fT;generalize aO:kH e k=F at c0;refine xo Nat (λi=>[I (i:Nat)]) (λi=>b5 g A e++[a1.box dv fX [ch g],a1.box ou tB (kz x),a1.box b oZ (dM (xw F x.2 fT fz i))]) (λi=>i<=4) (λi=>4-i) 0 U U ar (λi ag=> ?_);refine cy ?_;refine kE rfl (λbD=> ?_) λbD=> ?_
 ·have lL:i<4:=by omega
  refine Y8 (cs:=dM fT) (j:=i) U U (akJ lL) ?_;refine cy ?_;refine B' (u:=I (b_ x.2 i)) rfl has (ZO lL) ?_;refine cy ?_;refine kE rfl (λhp=> ?_) λhp=> ?_
  ·refine cy ?_
   refine kE rfl (λaZ=> ?_) λaZ=> ?_
   ·refine cy ?_
    refine B' (u:=I (b_ x.2 i)) rfl has (ZO lL) ?_;refine cy ?_;refine sq (v:=I (given (b_ x.2 i) F i (decide (fz<0)))) (λw hw=>Li.any w (b_ x.2 i) F i (decide (fz<0)) (by have:=ak i lL;omega) (by have:=ak i lL;omega) ar ar) ?_;refine cy ?_;refine kE rfl (λao=> ?_) λao=> ?_
    ·refine cy ?_
     refine Y4 (cs':=dM (xw F x.2 fT fz (i+1))) U U j8 ?_ ?_ (by show 0+i*1<4;omega)
     ·rw[<-akM (aj9 hp aZ ao)]
      exact Lk lL _
     refine cy ?_;exact oo (i+1) U U ar ar
    ·refine cy ?_
     refine oo (i+1) rfl ?_ ar ar;rw[Rf (Q5 λq=>ao q.2.2)]
   ·refine cy ?_
    refine oo (i+1) rfl ?_ ar ar;rw[Rf (Q5 λq=>aZ q.2.1)]
  ·refine cy ?_
   refine oo (i+1) rfl ?_ ar ar;rw[Rf (Q5 λq=>hp q.1)]
 ·refine cy ?_
  obtain rfl:i=4:=by omega
  rw[akN];generalize cn:Au F x.2 fT fz=eH;refine xn (c:=dM eH) rfl has U U mz ?_;refine Y9 (b:=decide (eH=z4)) U U ((Zj eH z4).trans (by rw[Zk])) ?_;refine En rfl (λbI=> ?_) λbI=> ?_
  ·refine cy ?_
   refine xn (c:=dM eH) rfl has U U mz ?_;refine ts (eb:=b5 g A e) (λ_=>[]) (λw hw aN=>Rd.any aN k eH aj ar ar) λy=> ?_
   refine pB (λM bn=> ?_) ⟨y,rfl,rfl⟩;unfold HE Rg;rw[nE,aO,cn];obtain⟨q1,aE,ca⟩:=aj8 (l:=e.u.bE) (g:=e.u.gone) (li:=e.u.aH) (n:=k) bI;rw[q1,aE,ca];exact bn.pick [0,1,2,3,4,5,6,7,8,9,10,11,12,13] rfl
  ·refine pB (λM bn=> ?_) ⟨(A.o,A.g),rfl,rfl⟩
   unfold HE Rg;rw[nE,aO,cn];obtain⟨q1,aE,ca⟩:=aj7 (l:=e.u.bE) (g:=e.u.gone) (li:=e.u.aH) (n:=k) bI;rw[q1,aE,ca];exact bn.pick [0,1,2,3,4,5,6,7,8,9,10,11,12,13] rfl
end ZP
end AE
end
end
section
noncomputable section
namespace AE
theorem Lm {b:bQ} {p:dW} (ae:okB b) (h:ei p b):As b p=((dD b p:Nat):Int):=by
 unfold dD;have:=(qK ae h).1;rw[Q0 h];have af:=(qK ae h).2.2.1;have ay:=pC h;omega
def AA (j:Nat):Int:=if j=0 then -1 else 1
theorem akO {j:Nat} (h:j<2):([I (-1),I 1]:List J)[j]? =some (I (AA j)):=by
 match j,h with
 |0,_=>rfl
 |1,_=>rfl
namespace Cj
def t (f:FuncId) (Ex:List J):bL:=
.o (.dQ 0) 5 1 []<|
.o (.cG 80 5 1) 6 1 [7,28,7]<|
.o (.cG 28 6 0) 7 1 [0,25,6]<|
.o (.bF 25 7) (.agg ⟨kC 6 8⟩) 6 [6]<|
.c 84 [.agg ⟨[8,9,10,11,12,13]⟩,1] (.tuple ⟨[.agg ⟨[14,15,16]⟩,17]⟩) 4<|
.loop [I 0] 1<|
.o (.bin .lss 3 18 (I 3)) 19 1 []<|
.eO 19 (
 .loop [I 0] 1<|
 .o (.bin .lss 3 20 (I 2)) 21 1 []<|
 .eO 21 (
  .o (.eD 135 (.agg ⟨[I (-1),I 1]⟩) 20) 22 1 [1,2,3,1]<|
  .o (.bin .eql 3 18 (I 0)) 23 1 []<|
  .vN 23 (
   .o (.bin .add 3 14 22) 24 1 []<|
   .back [I 0,24,15,16]) (
   .o (.bin .eql 3 18 (I 1)) 24 1 []<|
   .eO 24 (
    .o (.bin .add 3 15 22) 25 1 []<|
    .back [I 0,14,25,16]) (
    .o (.bin .add 3 16 22) 25 1 []<|
    .back [22,14,15,25])) 4<|
  .o (.dQ 0) 28 1 []<|
  .o (.cG 80 28 1) 29 1 [7,28,7]<|
  .o (.cG 28 29 0) 30 1 [0,25,6]<|
  .o (.bF 25 30) (.agg ⟨kC 6 31⟩) 6 [6]<|
  .c 55 [.agg ⟨[31,32,33,34,35,36]⟩,.agg ⟨[25,26,27]⟩] 37 1<|
  .o (.bin .geq 3 37 (I 0)) 38 1 []<|
  .eO 38 (
   .o (.dQ 0) 39 1 []<|
   .o (.cG 80 39 3) 40 1 [15,30,1]<|
   .o (.bF 30 40) 41 1 [1]<|
   .o (.dC 30 41 37) 42 1 [0,4,1]<|
   .o (.bF 4 42) 43 1 [1]<|
   .eO 43 (
    .call f (37::24::Ex) (.tuple ⟨[]⟩) 0<|
    .o (.bin .add 3 20 (I 1)) 44 1 []<|
    .back [44]) (
    .o (.bin .add 3 20 (I 1)) 44 1 []<|
    .back [44])) (
   .o (.bin .add 3 20 (I 1)) 39 1 []<|
   .back [39])) (
  .fT<|
  .o (.bin .add 3 18 (I 1)) 22 1 []<|
  .back [22])) (
 .fT<|
 .ret (.tuple ⟨[]⟩))
theorem any {f:FuncId} {Ex l2:List J} {h:BY} (aA:jj ej 59 h [0,1,.func (.func f) #[] ⟨Ex⟩] 5=some (t f Ex)) {c2 c3 qZ:J} (ke:∀env n,look env n 2=c2->look env n 3=c3->look env n 4=qZ->hF env n Ex=l2) (aq:fP [c2,c3,qZ]) (Bm:∀v0 v1,hF [qZ,c3,c2,v1,v0] 5 [0,1,.func (.func f) #[] ⟨Ex⟩]=[v0,v1,.func (.func f) #[] ⟨l2⟩])
  {W:ax} {g:Nat} {zT Z:Type} (o0:Z->zT->de) (mS:zT->bW) (o1:Z->zT->List (a1 ej)) (is:List Nat) (st:zT->Nat×Int->zT) (h_:zT) {b:bQ} {sh:List Bool} {k:Nat} (ae:okB b) (aj:k<sh.length) (hl:sh.length=(fg b).toNat)
  (ZQ:∀n,(mS ((dZ b sh k n).foldl st h_)).b=b) (es:∀n,(mS ((dZ b sh k n).foldl st h_)).u.bZ=sh)
  (qk:∀n z w,n<6->cv (aF w) (ct (b5 g (o0 z ((dZ b sh k n).foldl st h_)) (mS ((dZ b sh k n).foldl st h_))++o1 z ((dZ b sh k n).foldl st h_)))->jZ ej f (I (dD b (iu b k n):Nat)::I (pY n)::l2) w (b5 g (o0 z ((dZ b sh k n).foldl st h_)) (mS ((dZ b sh k n).foldl st h_))++o1 z ((dZ b sh k n).foldl st h_)) Z (λ_=> .tuple #[]) λqc=>b5 g (o0 qc (st ((dZ b sh k n).foldl st h_) (dD b (iu b k n),pY n))) (mS (st ((dZ b sh k n).foldl st h_) (dD b (iu b k n),pY n)))++o1 qc (st ((dZ b sh k n).foldl st h_) (dD b (iu b k n),pY n)))
  (hp:∀z d,pick (ct (b5 g (o0 z d) (mS d)++o1 z d)) is=ct (b5 g (o0 z d) (mS d)++o1 z d)) (akP:∀z d qc mI,uO (b5 g (o0 z d) (mS d)++o1 z d) is (b5 g (o0 qc mI) (mS mI)++o1 qc mI)=b5 g (o0 qc mI) (mS mI)++o1 qc mI)
  (h3:∀z d,jK (b5 g (o0 z d) (mS d)++o1 z d).length is=true) (hle:∀z d,is.length<=(b5 g (o0 z d) (mS d)++o1 z d).length) (z0:Z) (aN:cv (aF W) (ct (b5 g (o0 z0 h_) (mS h_)++o1 z0 h_))):
  jZ ej 59 [ch g,I (k:Nat),.func (.func f) #[] ⟨l2⟩] W (b5 g (o0 z0 h_) (mS h_)++o1 z0 h_) Z (λ_=> .tuple #[]) λz=>b5 g (o0 z ((dZ b sh k 6).foldl st h_)) (mS ((dZ b sh k 6).foldl st h_))++o1 z ((dZ b sh k 6).foldl st h_):=by
 have e0:(dZ b sh k 0).foldl st h_=h_:=rfl;have aC:0<=((k:Nat):Int)/\((k:Nat):Int)<fg b:=Zo aj hl;have Pv:=Zq ae (k:Nat);refine mZ (ro:=[]) mixed aA [ch g,I (k:Nat),c2,c3,qZ] aN gB.none ?_ (Bm _ _) (ho:=⟨rfl,rfl,aq⟩);unfold t;refine cy ?_;refine xn (c:=v7 b) rfl has (by exact(congrArg v7 (ZQ 0)).symm) rfl mz ?_;refine QM [I (fi b (k:Nat)).1,I (fi b (k:Nat)).2.1,I (fi b (k:Nat)).2.2,.bool (decide (0<=((k:Nat):Int)/\((k:Nat):Int)<fg b))] (λw _=>Rb.any w b (k:Nat) ae) rfl ?_;refine xo (Nat×Z) (λu=>[I (u.1:Nat)]) (λu=>b5 g (o0 u.2 ((dZ b sh k (2*u.1)).foldl st h_)) (mS ((dZ b sh k (2*u.1)).foldl st h_))++o1 u.2 ((dZ b sh k (2*u.1)).foldl st h_)) (λu=>u.1<=3) (λu=>3-u.1) (0,z0) U U (by show 0<=3;omega) (λu hu=> ?_);obtain⟨i,z⟩:=u;have hu:i<=3:=hu;dsimp only;refine cy ?_;refine kE rfl (λay=> ?_) λay=> ?_
 ·refine xo (Nat×Z) (λu=>[I (u.1:Nat)]) (λu=>b5 g (o0 u.2 ((dZ b sh k (2*i+u.1)).foldl st h_)) (mS ((dZ b sh k (2*i+u.1)).foldl st h_))++o1 u.2 ((dZ b sh k (2*i+u.1)).foldl st h_)) (λu=>u.1<=2) (λu=>2-u.1) (0,z) U U (by show 0<=2;omega) (λv ym=> ?_)
  have bI:∃Rh,Rh=z:=⟨z,rfl⟩;obtain⟨Rh,bI⟩:=bI;subst bI;obtain⟨j,z⟩:=v;have ym:j<=2:=ym;dsimp only;refine cy ?_;refine kE rfl (λaf=> ?_) λaf=> ?_
  ·have hj:j<2:=by omega
   have cI:2*i+j<6:=by omega
   have Ln: -1<=AA j/\AA j<=1:=by unfold AA;split<;>omega
   refine Y8 (cs:=[I (-1),I 1]) (j:=j) U U (akO hj) ?_;refine cy ?_;refine ajJ (Int×dW) (λu=>[I u.1,I u.2.1,I u.2.2.1,I u.2.2.2]) (λ_=>b5 g (o0 z ((dZ b sh k (2*i+j)).foldl st h_)) (mS ((dZ b sh k (2*i+j)).foldl st h_))++o1 z ((dZ b sh k (2*i+j)).foldl st h_)) (λu=>u=(pY (2*i+j),iu b k (2*i+j))) rfl (λag=> ?_) (λag=> ?_) (λu hu=> ?_)
   ·refine cy ?_
    refine QN (0,(fi b (k:Nat)).1+AA j,(fi b (k:Nat)).2.1,(fi b (k:Nat)).2.2) U U ?_;obtain rfl:i=0:=by omega
    match j,hj with
    |0,_=>rfl
    |1,_=>rfl
   ·refine cy ?_
    refine kE rfl (λCk=> ?_) λCk=> ?_
    ·refine cy ?_
     refine QN (0,(fi b (k:Nat)).1,(fi b (k:Nat)).2.1+AA j,(fi b (k:Nat)).2.2) U U ?_;obtain rfl:i=1:=by omega
     match j,hj with
     |0,_=>rfl
     |1,_=>rfl
    ·refine cy ?_
     refine QN (AA j,(fi b (k:Nat)).1,(fi b (k:Nat)).2.1,(fi b (k:Nat)).2.2+AA j) U U ?_;obtain rfl:i=2:=by omega
     match j,hj with
     |0,_=>rfl
     |1,_=>rfl
   ·subst hu
    dsimp only;have fV:=Hs (b:=b) aj hl (iu b k (2*i+j));have apS:(dD b (iu b k (2*i+j)))<(mS ((dZ b sh k (2*i+j)).foldl st h_)).u.bZ.length:=by rw[es];exact fV
    refine cy ?_;refine xn (c:=v7 b) rfl has (by exact(congrArg v7 (ZQ (2*i+j))).symm) rfl mz ?_;by_cases iX:ei (iu b k (2*i+j)) b
    ·refine sq (v:=I (dD b (iu b k (2*i+j)):Nat)) (λw _=>by rw[<-Lm ae iX];exact HD.any w b (iu b k (2*i+j)) ae) ?_
     refine cy ?_;refine kE rfl (λaM=> ?_) λaM=>absurd (Int.natCast_nonneg _) aM
     refine cy ?_;refine Hh rfl (λaw=> ?_) λaw=> ?_
     ·have aw:sh.getD (dD b (iu b k (2*i+j))) default=true:=by rw[<-es (2*i+j)];exact aw
      refine l6 (v:=λ_=> .tuple #[]) (N:=λqc=>b5 g (o0 qc (st ((dZ b sh k (2*i+j)).foldl st h_) (dD b (iu b k (2*i+j)),pY (2*i+j)))) (mS (st ((dZ b sh k (2*i+j)).foldl st h_) (dD b (iu b k (2*i+j)),pY (2*i+j))))++o1 qc (st ((dZ b sh k (2*i+j)).foldl st h_) (dD b (iu b k (2*i+j)),pY (2*i+j)))) (eb:=b5 g (o0 z ((dZ b sh k (2*i+j)).foldl st h_)) (mS ((dZ b sh k (2*i+j)).foldl st h_))++o1 z ((dZ b sh k (2*i+j)).foldl st h_)) (L':=λqc=>b5 g (o0 qc ((dZ b sh k (2*i+(j+1))).foldl st h_)) (mS ((dZ b sh k (2*i+(j+1))).foldl st h_))++o1 qc ((dZ b sh k (2*i+(j+1))).foldl st h_)) is (λ_=>[]) (λw hw aN=>qk (2*i+j) z w cI aN) (λqc=> ?_) (ha:=by exact congrArg (λl=>I (dD b (iu b k (2*i+j)):Nat)::I (pY (2*i+j))::l) (ke _ _ (by rfl) (by rfl) (by rfl))) (hL:=λqc=> ?_) (hp:=hp _ _) (h3:=h3 _ _) (hl:=λqc=>hle _ _)
      ·refine cy ?_
       exact oo (u:=(j,z)) (j+1,qc) U U (by show j+1<=2;omega) (by show 2-(j+1)<2-j;omega)
      ·rw[akP,show 2*i+(j+1)=2*i+j+1 by omega,aj_ aj hl cI iX aw,List.foldl_append]
       rfl
     ·have aw:¬sh.getD (dD b (iu b k (2*i+j))) default=true:=by rw[<-es (2*i+j)];rw[show _=false from aw];decide
      refine cy ?_;refine oo (u:=(j,z)) (j+1,z) rfl ?_ (by show j+1<=2;omega) (by show 2-(j+1)<2-j;omega);dsimp only;rw[show 2*i+(j+1)=2*i+j+1 by omega,aka aj hl cI iX aw]
    ·refine sq (v:=I (-1)) (λw _=>by rw[<-La iX];exact HD.any w b (iu b k (2*i+j)) ae) ?_
     refine cy ?_;refine kE rfl (λaM=>absurd aM cz) λaM=> ?_
     refine cy ?_;refine oo (u:=(j,z)) (j+1,z) rfl ?_ (by show j+1<=2;omega) (by show 2-(j+1)<2-j;omega);dsimp only;rw[show 2*i+(j+1)=2*i+j+1 by omega,akb aj hl cI iX]
  ·refine cy ?_
   obtain rfl:j=2:=by omega
   exact oo (u:=(i,Rh)) (i+1,z) U U (by show i+1<=3;omega) (by show 3-(i+1)<3-i;omega)
 ·refine cy ?_
  obtain rfl:i=3:=by omega
  exact oX ⟨z,rfl,rfl⟩
end Cj
end AE
end
end
section
noncomputable section
namespace AE
@[reducible] def Cl (e:bW) (s:List az×List Nat×List bM):bW:={e with u:={e.u with bE:=s.1,gone:=s.2.1,aH:=s.2.2}}
theorem HF (x:az):∀(l:List (Nat×Int)) (e:bW),l.foldl (λe p=>HE e x p.1 p.2) e=Cl e (l7 e.table e.u.lit x.2 l (e.u.bE,e.u.gone,e.u.aH))
 |[],_=>rfl
 |p::l,e=>by
  rw[List.foldl_cons,HF x l];rfl
theorem Ri (table:List cX) (lit:List Int) (old:bM):∀(l:List (Nat×Int)) (s:List az×List Nat×List bM),(l7 table lit old l s).1.length<=s.1.length+l.length/\(l7 table lit old l s).2.1.length<=s.2.1.length+l.length/\(l7 table lit old l s).2.2.length=s.2.2.length
 |[],_=>⟨b2 _,b2 _,rfl⟩
 |p::l,s=>by
  obtain⟨q1,aE,ca⟩:=Ri table lit old l (oY table lit old s p);have cJ:(oY table lit old s p).1.length<=s.1.length+1:=Zr _ _ _;have dk:(oY table lit old s p).2.1.length<=s.2.1.length+1:=akc _ _ _;have fQ:(oY table lit old s p).2.2.length=s.2.2.length:=akd _ _ _;have e:l7 table lit old (p::l) s=l7 table lit old l (oY table lit old s p):=rfl;rw[e,List.length_cons];exact⟨ar,ar,ca.trans fQ⟩
@[reducible] def Lo (e:bW) (s:List Nat×List Bool):bW:={e with u:={e.u with bu:=s.1,waits:=s.2}}
theorem HG:∀(l:List (Nat×Int)) (e:bW),l.foldl (λe p=>Ay e p.1) e=Lo e (su l (e.u.bu,e.u.waits))
 |[],_=>rfl
 |p::l,e=>by
  rw[List.foldl_cons,HG l];rfl
theorem ZR:∀(l:List (Nat×Int)) (s:List Nat×List Bool),(su l s).1.length<=s.1.length+l.length/\(su l s).2.length=s.2.length
 |[],_=>⟨b2 _,rfl⟩
 |p::l,s=>by
  obtain⟨q1,aE⟩:=ZR l (mw s.1 s.2 p.1,nw s.2 p.1);have cJ:=XI s.1 s.2 p.1;have dk:=KB s.2 p.1;have e:su (p::l) s=su l (mw s.1 s.2 p.1,nw s.2 p.1):=rfl;rw[e,List.length_cons];dsimp only at q1 aE;exact⟨ar,aE.trans dk⟩
theorem Rj (b:bQ) (sh:List Bool) (k j:Nat):(dZ b sh k j).length<=j:=by
 unfold dZ xq;exact Nat.le_trans (List.length_filter_le _ _) (Pj _ _ _ _ _)
theorem Rk (a b c:Nat):fP [.pointer (some ⟨a,0,none⟩),.pointer (some ⟨b,0,none⟩),.pointer (some ⟨c,0,none⟩)]:=⟨rfl,rfl,rfl,trivial⟩
namespace ZS
theorem gU:jj ej 59 {pw:=[60],cells:=[(1039,1,0),(1039,1,1),(1039,1,2)],KN:=[(39,[])]} [0,1,.func (.func 60) ⟨[]⟩ ⟨[2,3]⟩] 5=some (Cj.t 60 [2,3]):=k4 au
theorem any {W:ax} {g dv ou:Nat} {A:de} {e:bW} {x:az} (aN:cv (aF W) (ct (b5 g A e++[a1.box dv fX [ch g],a1.box ou tB (kz x)]))) (k:Nat) (ae:okB e.b) (aj:k<e.u.bZ.length) (hl:e.u.bZ.length=(fg e.b).toNat) (lf:e.u.aH.length=e.u.bZ.length) (BW:e.u.lit.length=e.u.bZ.length) (ad:e.u.bE.length<=200000) (af:e.u.gone.length<=200000) (ak:Ci x.2) (c0:∀n,n<e.u.bZ.length->1<=kH e n/\kH e n<=16):
  jZ ej 59 [ch g,I (k:Nat),.func (.func 60) #[] ⟨[ch dv,ch ou]⟩] W (b5 g A e++[a1.box dv fX [ch g],a1.box ou tB (kz x)]) (dY×dY) (λ_=> .tuple #[]) λy=>b5 g {A with o:=y.1,g:=y.2} (Cl e (l7 e.table e.u.lit x.2 (dZ e.b e.u.bZ k 6) (e.u.bE,e.u.gone,e.u.aH)))++[a1.box dv fX [ch g],a1.box ou tB (kz x)]:=by
 rw[<-HF];refine Cj.any gU (c2:=ch dv) (c3:=ch ou) (qZ:=ch dv) (l2:=[ch dv,ch ou]) (λenv n af ay _=> ?_) (Rk _ _ _) (λ_ _=>rfl) (λz (_:bW)=>{A with o:=z.1,g:=z.2}) (λe=>e) (λ_ _=>[a1.box dv fX [ch g],a1.box ou tB (kz x)]) [0,1,2,3,4,5,6,7,8,9,10,11,12,13] (λe p=>HE e x p.1 p.2) e ae aj hl (λn=>by rw[HF]) (λn=>by rw[HF]) (λn z w cI aN=> ?_) (λ_ _=>rfl) (λ_ _ _ _=>Hl (n:=14) U U) (λ_ _=>rfl) (λ_ _=>gv rfl) (A.o,A.g) aN
 ·show [look env n 2,look env n 3]=_
  rw[af,ay]
 ·have av:=Rj e.b e.u.bZ k n
  have hp:=Hs (b:=e.b) aj hl (iu e.b k n);rw[HF] at aN ⊢;obtain⟨q1,aE,ca⟩:=Ri e.table e.u.lit x.2 (dZ e.b e.u.bZ k n) (e.u.bE,e.u.gone,e.u.aH);dsimp only at q1 aE ca;exact ZP.any aN (dD e.b (iu e.b k n)) (pY n) (by show _<(l7 e.table e.u.lit x.2 (dZ e.b e.u.bZ k n) (e.u.bE,e.u.gone,e.u.aH)).2.2.length;rw[ca,lf];exact hp) (by show _<e.u.lit.length;rw[BW];exact hp) (by show (l7 e.table e.u.lit x.2 (dZ e.b e.u.bZ k n) (e.u.bE,e.u.gone,e.u.aH)).1.length<=_;omega) (by show (l7 e.table e.u.lit x.2 (dZ e.b e.u.bZ k n) (e.u.bE,e.u.gone,e.u.aH)).2.1.length<=_;omega) ak (c0 _ hp)
end ZS
namespace ZT
theorem gU:jj ej 59 {pw:=[66],cells:=[(1039,1,0),(1039,1,1),(1039,1,2)],KN:=[(39,[])]} [0,1,.func (.func 66) ⟨[]⟩ ⟨[2]⟩] 5=some (Cj.t 66 [2]):=k4 au
theorem any {W:ax} {g dv:Nat} {A:de} {e:bW} (aN:cv (aF W) (ct (b5 g A e++[a1.box dv fX [ch g]]))) (k:Nat) (ae:okB e.b) (aj:k<e.u.bZ.length) (hl:e.u.bZ.length=(fg e.b).toNat) (hw:e.u.waits.length=e.u.bZ.length) (ad:e.u.bu.length<=200000):
  jZ ej 59 [ch g,I (k:Nat),.func (.func 66) #[] ⟨[ch dv]⟩] W (b5 g A e++[a1.box dv fX [ch g]]) dY (λ_=> .tuple #[]) λy=>b5 g {A with s:=y} (Lo e (su (dZ e.b e.u.bZ k 6) (e.u.bu,e.u.waits)))++[a1.box dv fX [ch g]]:=by
 rw[<-HG];refine Cj.any gU (c2:=ch dv) (c3:=ch dv) (qZ:=ch dv) (l2:=[ch dv]) (λenv n af _ _=> ?_) (Rk _ _ _) (λ_ _=>rfl) (λz (_:bW)=>{A with s:=z}) (λe=>e) (λ_ _=>[a1.box dv fX [ch g]]) [0,1,2,3,4,5,6,7,8,9,10,11,12] (λe p=>Ay e p.1) e ae aj hl (λn=>by rw[HG]) (λn=>by rw[HG]) (λn z w cI aN=> ?_) (λ_ _=>rfl) (λ_ _ _ _=>Hl (n:=13) U U) (λ_ _=>rfl) (λ_ _=>gv rfl) A.s aN
 ·show [look env n 2]=_
  rw[af]
 ·have av:=Rj e.b e.u.bZ k n
  have hp:=Hs (b:=e.b) aj hl (iu e.b k n);rw[HG] at aN ⊢;obtain⟨q1,aE⟩:=ZR (dZ e.b e.u.bZ k n) (e.u.bu,e.u.waits);dsimp only at q1 aE;exact ZN.any aN (dD e.b (iu e.b k n)) (pY n) (by show _<(su (dZ e.b e.u.bZ k n) (e.u.bu,e.u.waits)).2.length;rw[aE,hw];exact hp) (by show (su (dZ e.b e.u.bZ k n) (e.u.bu,e.u.waits)).1.length<=_;omega)
end ZT
end AE
end
end
section
noncomputable section
namespace AE
abbrev o2:aJ:=3
def wa (F:Int) (out x:bM) (fz:Int) (i:Nat):bM:=rn λc=>if c<i then Zm F out x fz c else b_ out c
theorem akQ {F:Int} {out x:bM} {fz:Int}:wa F out x fz 0=out:=bM.ext' λc aq=>by
 unfold wa;rw[iF aq,aU ar]
theorem akR {F:Int} {out x:bM} {fz:Int}:wa F out x fz 4=Ce F out x fz:=bM.ext' λc aq=>by
 unfold wa Ce;rw[iF aq,iF aq,aQ aq]
theorem akS {F:Int} {out x:bM} {fz:Int} {i:Nat} (h:i<4):b_ (wa F out x fz i) i=b_ out i:=by
 unfold wa;rw[iF h,aU ar]
theorem akT {F:Int} {out x:bM} {fz:Int} {i:Nat}:tA (wa F out x fz i) i (max (b_ out i) (given (b_ x i) F i (decide (0<fz))))=wa F out x fz (i+1):=bM.ext' λc aq=>by
 unfold tA wa;rw[iF aq,iF aq,iF aq];by_cases ag:c=i
 ·subst ag;rw[aQ rfl,aQ ar];rfl
 ·rw[aU ag]
  by_cases hl:c<i
  ·rw[aQ hl,aQ ar]
  ·rw[aU hl,aU ar]
namespace ZU
def t:bL:=
.loop [I 0] 1<|
.o (.bin .lss 3 5 (I 4)) 6 1 []<|
.eO 6 (
 .o (.dC 85 2 5) 7 1 [1,4,3,1]<|
 .o (.bF 3 7) 8 1 [1]<|
 .o (.bF 34 3) 9 1 [1]<|
 .o (.dQ 9) 10 1 []<|
 .o (.cG 80 10 5) 11 1 [17,45,1]<|
 .o (.bF 45 11) 12 1 [1]<|
 .o (.dC 45 12 0) 13 1 [0,85,4]<|
 .o (.dC 85 13 5) 14 1 [1,4,3,1]<|
 .o (.bF 3 14) 15 1 [1]<|
 .o (.bF 3 4) 16 1 [1]<|
 .o (.bin .gtr 3 1 (I 0)) 17 1 []<|
 .c 62 [15,16,5,17] 18 1<|
 .o (.eR #[3,3] 3 8 18) 19 1 []<|
 .st 3 7 19<|
 .o (.bin .add 3 5 (I 1)) 20 1 []<|
 .back [20]) (
 .fT<|
 .ret (.tuple ⟨[]⟩))
theorem gU:jj Tryd.prog 88 {} [0,1,2,3,4] 5=some t:=k4 au
theorem any {W:ax} {g go dv o3:Nat} {A:de} {e:bW} {out:bM} {F:Int} (aN:cv (aF W) (ct (b5 g A e++[a1.box go oZ (dM out),a1.box dv fX [ch g],a1.box o3 o2 [I F]]))) (k:Nat) (fz:Int) (aj:k<e.u.aH.length) (ae:Ci (e.u.aH.getD k default)) (c0:1<=F/\F<=16):
  jZ ej 88 [I (k:Nat),I fz,ch go,ch dv,ch o3] W (b5 g A e++[a1.box go oZ (dM out),a1.box dv fX [ch g],a1.box o3 o2 [I F]]) Unit (λ_=> .tuple #[]) λ_=>b5 g A e++[a1.box go oZ (dM (Ce F out (e.u.aH.getD k default) fz)),a1.box dv fX [ch g],a1.box o3 o2 [I F]]:=by
 refine mZ (ro:=[]) mixed gU [I (k:Nat),I fz,ch go,ch dv,ch o3] aN gB.none ?_;unfold t;generalize nE:e.u.aH.getD k default=fT at ae ⊢;refine xo Nat (λi=>[I (i:Nat)]) (λi=>b5 g A e++[a1.box go oZ (dM (wa F out fT fz i)),a1.box dv fX [ch g],a1.box o3 o2 [I F]]) (λi=>i<=4) (λi=>4-i) 0 rfl (by rw[akQ]) ar (λi ag=> ?_);refine cy ?_;refine kE rfl (λbD=> ?_) λbD=> ?_
 ·have lL:i<4:=by omega
  refine cy ?_;refine B' (u:=I (b_ out i)) rfl has (by rw[<-akS (F:=F) (x:=fT) (fz:=fz) lL];exact Az lL) ?_;refine cy ?_;refine K6 (K:=qL) (l:=e.u.aH) (j:=k) (o:=0+i*1) (u:=I (b_ fT i)) rfl (by rw[<-nE];exact Az lL) ?_;refine cy ?_;refine sq (v:=I (given (b_ fT i) F i (decide (0<fz)))) (λw hw=>Li.any w (b_ fT i) F i (decide (0<fz)) (by have:=ae i lL;omega) (by have:=ae i lL;omega) ar ar) ?_;refine cy ?_;refine Y4 (cs':=dM (wa F out fT fz (i+1))) U U j8 ?_ ?_ (by show 0+i*1<4;omega)
  ·rw[<-akT]
   exact Lk lL _
  refine cy ?_;exact oo (i+1) U U ar ar
 ·refine cy ?_
  obtain rfl:i=4:=by omega
  refine oX ⟨(),rfl,?_⟩;rw[akR]
end ZU
namespace Rl
theorem gU:jj ej 59 {pw:=[88],cells:=[(1039,1,0),(1039,1,1),(1039,1,2)],KN:=[(39,[])]} [0,1,.func (.func 88) ⟨[]⟩ ⟨[2,3,4]⟩] 5=some (Cj.t 88 [2,3,4]):=k4 au
theorem any {W:ax} {g go dv o3:Nat} {A:de} {e:bW} {out:bM} {F:Int} (aN:cv (aF W) (ct (b5 g A e++[a1.box go oZ (dM out),a1.box dv fX [ch g],a1.box o3 o2 [I F]]))) (k:Nat) (ae:okB e.b) (aj:k<e.u.bZ.length) (hl:e.u.bZ.length=(fg e.b).toNat) (lf:e.u.aH.length=e.u.bZ.length) (hL:∀n,n<e.u.bZ.length->Ci (e.u.aH.getD n default)) (c0:1<=F/\F<=16):
  jZ ej 59 [ch g,I (k:Nat),.func (.func 88) #[] ⟨[ch go,ch dv,ch o3]⟩] W (b5 g A e++[a1.box go oZ (dM out),a1.box dv fX [ch g],a1.box o3 o2 [I F]]) Unit (λ_=> .tuple #[]) λ_=>b5 g A e++[a1.box go oZ (dM (sv F e.u.aH (dZ e.b e.u.bZ k 6) out)),a1.box dv fX [ch g],a1.box o3 o2 [I F]]:=by
 refine Cj.any gU (c2:=ch go) (c3:=ch dv) (qZ:=ch o3) (l2:=[ch go,ch dv,ch o3]) (λenv n af ay bD=> ?_) (Rk _ _ _) (λ_ _=>rfl) (λ(_:Unit) (_:bM)=>A) (λ_=>e) (λ_ o=>[a1.box go oZ (dM o),a1.box dv fX [ch g],a1.box o3 o2 [I F]]) [0,1,2,3,4,5,6,7,8,9,10,11,12,13,14] (λo p=>Ce F o (e.u.aH.getD p.1 default) p.2) out ae aj hl (λn=>rfl) (λn=>rfl) (λn z w cI aN=> ?_) (λ_ _=>rfl) (λ_ _ _ _=>Hl (n:=15) U U) (λ_ _=>rfl) (λ_ _=>gv rfl) () aN
 ·show [look env n 2,look env n 3,look env n 4]=_
  rw[af,ay,bD]
 ·have hp:=Hs (b:=e.b) aj hl (iu e.b k n)
  exact ZU.any aN (dD e.b (iu e.b k n)) (pY n) (by rw[lf];exact hp) (hL _ hp) c0
end Rl
namespace ZV
def t:bL:=
.p7 34 0<|
.qF 85<|
.qF 85<|
.o (.bF 34 2) 5 1 [1]<|
.o (.dQ 5) 6 1 []<|
.o (.cG 80 6 3) 7 1 [15,30,1]<|
.o (.bF 30 7) 8 1 [1]<|
.o (.dC 30 8 1) 9 1 [0,4,1]<|
.o (.bF 4 9) 10 1 [1]<|
.o (.un .not 10) 11 1 []<|
.eO 11 (
 .o (.bF 85 4) (.agg ⟨kC 4 12⟩) 4 [4]<|
 .st 85 3 (.agg ⟨[12,13,14,15]⟩)<|
 .tk 85 3) (
 .o (.bF 34 2) 12 1 [1]<|
 .o (.dQ 12) 13 1 []<|
 .o (.cG 80 13 4) 14 1 [16,29,1]<|
 .o (.bF 29 14) 15 1 [1]<|
 .o (.cG 80 13 1) 16 1 [7,28,7]<|
 .o (.cG 28 16 1) 17 1 [6,26,1]<|
 .o (.bF 26 17) 18 1 [1]<|
 .o (.dC 26 18 1) 19 1 [0,3,1]<|
 .o (.bF 3 19) 20 1 [1]<|
 .c 87 [15,20] (.agg ⟨[21,22,23]⟩) 3<|
 .o (.lV 85 4 none none none) 24 1 [1,4,3,1]<|
 .sa 26 24 [21,22,23]<|
 .o (.bF 34 2) 25 1 [1]<|
 .call 61 [25,1] 26 1<|
 .qF 3<|
 .st 3 27 26<|
 .o (.bF 34 2) 28 1 [1]<|
 .o (.dQ 28) 29 1 []<|
 .o (.cG 80 29 1) 30 1 [7,28,7]<|
 .o (.cG 28 30 0) 31 1 [0,25,6]<|
 .o (.bF 25 31) (.agg ⟨kC 6 32⟩) 6 [6]<|
 .c 84 [.agg ⟨[32,33,34,35,36,37]⟩,1] (.tuple ⟨[.agg ⟨[38,39,40]⟩,41]⟩) 4<|
 .o (.cG 25 31 1) 42 1 [3,23,3]<|
 .o (.cG 23 42 2) 43 1 [2,3,1]<|
 .o (.bF 3 43) 44 1 [1]<|
 .o (.bin .sub 3 44 (I 1)) 45 1 []<|
 .o (.bin .eql 3 40 45) 46 1 []<|
 .eO 46 (
  .o (.bF 3 27) 47 1 [1]<|
  .c 62 [I 15,47,I 3,.bool true] 48 1<|
  .o (.dC 85 4 (I 3)) 49 1 [1,4,3,1]<|
  .st 3 49 48<|
  .o (.bF 34 2) 50 1 [1]<|
  .call 59 [50,1,.func (.func 88) ⟨[]⟩ ⟨[4,2,27]⟩] (.tuple ⟨[]⟩) 0<|
  .o (.bF 85 4) (.agg ⟨kC 4 51⟩) 4 [4]<|
  .st 85 3 (.agg ⟨[51,52,53,54]⟩)<|
  .tk 85 3) (
  .o (.bF 34 2) 47 1 [1]<|
  .call 59 [47,1,.func (.func 88) ⟨[]⟩ ⟨[4,2,27]⟩] (.tuple ⟨[]⟩) 0<|
  .o (.bF 85 4) (.agg ⟨kC 4 48⟩) 4 [4]<|
  .st 85 3 (.agg ⟨[48,49,50,51]⟩)<|
  .tk 85 3))
theorem gU:jj Tryd.prog 65 {pw:=[59,61],marks:=[34,85,3]} [0,1] 2=some t:=k4 au
theorem any {W:ax} {g:Nat} {A:de} {e:bW} (aN:cv (aF W) (ct (b5 g A e))) (k:Nat) (ae:okB e.b) (aj:k<e.u.bZ.length) (hl:e.u.bZ.length=(fg e.b).toNat) (lf:e.u.aH.length=e.u.bZ.length) (BW:e.u.lit.length=e.u.bZ.length) (hL:∀n,n<e.u.bZ.length->Ci (e.u.aH.getD n default)) (c0:1<=kH e k/\kH e k<=16):
  jZ ej 65 [ch g,I (k:Nat)] W (b5 g A e) Unit (λ_=> .agg ⟨dM (v' e.table e.u.lit e.u.aH e.u.bZ e.b k)⟩) λ_=>b5 g A e:=by
 have aC:0<=((k:Nat):Int)/\((k:Nat):Int)<fg e.b:=Zo aj hl;have Pv:=Zq ae (k:Nat);have mr:k<e.u.lit.length:=by omega
 refine mZ (ro:=[]) mixed gU [ch g,I (k:Nat)] aN gB.none ?_;unfold t;refine B_ (cs:=[ch g]) U U (λb=>p9) λdv=> ?_
 refine Eo (z:= .agg ⟨dM z4⟩) (dM z4) au rfl (λb=>p9) λgr=> ?_
 refine Eo (z:= .agg ⟨dM z4⟩) (dM z4) au rfl (λb=>p9) λgo=> ?_
 refine cy ?_;refine Hh rfl (λpM=> ?_) λpM=> ?_
 ·have aw:¬e.u.bZ.getD k default=true:=by simpa using pM
  refine xn (c:=dM z4) rfl has U U mz ?_;refine Hk (m:=4) (us:=dM z4) (cs':=dM z4) U U j8 rfl ?_;refine QJ (L':=b5 g A e) rfl has (λM bn=>bn.pre) ⟨(),?_,rfl⟩;rw[ake aw]
 ·have aw:e.u.bZ.getD k default=true:=by simpa using pM
  refine cy ?_;refine QM [I (gQ (eG e.table (e.u.lit.getD k default)) 0),I (gQ (eG e.table (e.u.lit.getD k default)) 1),I (gQ (eG e.table (e.u.lit.getD k default)) 2)] (λw hw=>ZM.any w ((mX.arr (K:=xt) (l:=e.table) has).at hw) _) rfl ?_;refine ajN rfl ?_;refine ajE (e:=o2) (us:=[I (gQ (eG e.table (e.u.lit.getD k default)) 0),I (gQ (eG e.table (e.u.lit.getD k default)) 1),I (gQ (eG e.table (e.u.lit.getD k default)) 2)]) (cs':=dM (gQ (eG e.table (e.u.lit.getD k default)) 0,gQ (eG e.table (e.u.lit.getD k default)) 1,gQ (eG e.table (e.u.lit.getD k default)) 2,0)) U U j8 rfl ?_;refine cy ?_;refine ts (eb:=b5 g A e) (λ_=>[I (kH e k)]) (λw hw aN=>Re.any aN k mr) (λ_=> ?_);refine Eo (z:=I 0) [I 0] au rfl (λb=>p9) λo3=> ?_
  refine Hj U U j8 Hi ?_;refine cy ?_;refine xn (c:=v7 e.b) rfl has U U mz ?_;refine QM [I (fi e.b (k:Nat)).1,I (fi e.b (k:Nat)).2.1,I (fi e.b (k:Nat)).2.2,.bool (decide (0<=((k:Nat):Int)/\((k:Nat):Int)<fg e.b))] (λw _=>Rb.any w e.b (k:Nat) ae) rfl ?_;unfold okB at ae;refine cy ?_;have ae:okB e.b:=ae;refine kE rfl (λaK=> ?_) λaK=> ?_
  ·refine cy ?_
   refine sq (v:=I (given 15 (kH e k) 3 true)) (λw hw=>Li.any w 15 (kH e k) 3 true cz cz ar ar) ?_;refine Y2 (j:=3) U U ?_;refine cy ?_;refine l6 (eb:=b5 g A e++[a1.box go oZ (dM (gQ (eG e.table (e.u.lit.getD k default)) 0,gQ (eG e.table (e.u.lit.getD k default)) 1,gQ (eG e.table (e.u.lit.getD k default)) 2,given 15 (kH e k) 3 true)),a1.box dv fX [ch g],a1.box o3 o2 [I (kH e k)]]) (L':=λ_=>b5 g A e++[a1.box dv fX [ch g],a1.box gr oZ (dM z4),a1.box go oZ (dM (sv (kH e k) e.u.aH (dZ e.b e.u.bZ k 6) (gQ (eG e.table (e.u.lit.getD k default)) 0,gQ (eG e.table (e.u.lit.getD k default)) 1,gQ (eG e.table (e.u.lit.getD k default)) 2,given 15 (kH e k) 3 true))),a1.box o3 o2 [I (kH e k)]]) [0,1,2,3,4,5,6,7,8,9,10,11,14,12,15] (λ_=>[]) (λw hw aN=>Rl.any aN k ae aj hl lf hL c0) (λ_=> ?_);refine xn (c:=dM (sv (kH e k) e.u.aH (dZ e.b e.u.bZ k 6) (gQ (eG e.table (e.u.lit.getD k default)) 0,gQ (eG e.table (e.u.lit.getD k default)) 1,gQ (eG e.table (e.u.lit.getD k default)) 2,given 15 (kH e k) 3 true))) rfl has U U mz ?_;refine Hk (m:=4) (us:=dM (sv (kH e k) e.u.aH (dZ e.b e.u.bZ k 6) (gQ (eG e.table (e.u.lit.getD k default)) 0,gQ (eG e.table (e.u.lit.getD k default)) 1,gQ (eG e.table (e.u.lit.getD k default)) 2,given 15 (kH e k) 3 true))) (cs':=dM (sv (kH e k) e.u.aH (dZ e.b e.u.bZ k 6) (gQ (eG e.table (e.u.lit.getD k default)) 0,gQ (eG e.table (e.u.lit.getD k default)) 1,gQ (eG e.table (e.u.lit.getD k default)) 2,given 15 (kH e k) 3 true))) U U j8 rfl ?_;refine QJ (L':=b5 g A e) rfl has (λM bn=>bn.pre) ⟨(),?_,rfl⟩;rw[akf aw aK]
  ·refine cy ?_
   refine l6 (eb:=b5 g A e++[a1.box go oZ (dM (gQ (eG e.table (e.u.lit.getD k default)) 0,gQ (eG e.table (e.u.lit.getD k default)) 1,gQ (eG e.table (e.u.lit.getD k default)) 2,0)),a1.box dv fX [ch g],a1.box o3 o2 [I (kH e k)]]) (L':=λ_=>b5 g A e++[a1.box dv fX [ch g],a1.box gr oZ (dM z4),a1.box go oZ (dM (sv (kH e k) e.u.aH (dZ e.b e.u.bZ k 6) (gQ (eG e.table (e.u.lit.getD k default)) 0,gQ (eG e.table (e.u.lit.getD k default)) 1,gQ (eG e.table (e.u.lit.getD k default)) 2,0))),a1.box o3 o2 [I (kH e k)]]) [0,1,2,3,4,5,6,7,8,9,10,11,14,12,15] (λ_=>[]) (λw hw aN=>Rl.any aN k ae aj hl lf hL c0) (λ_=> ?_);refine xn (c:=dM (sv (kH e k) e.u.aH (dZ e.b e.u.bZ k 6) (gQ (eG e.table (e.u.lit.getD k default)) 0,gQ (eG e.table (e.u.lit.getD k default)) 1,gQ (eG e.table (e.u.lit.getD k default)) 2,0))) rfl has U U mz ?_;refine Hk (m:=4) (us:=dM (sv (kH e k) e.u.aH (dZ e.b e.u.bZ k 6) (gQ (eG e.table (e.u.lit.getD k default)) 0,gQ (eG e.table (e.u.lit.getD k default)) 1,gQ (eG e.table (e.u.lit.getD k default)) 2,0))) (cs':=dM (sv (kH e k) e.u.aH (dZ e.b e.u.bZ k 6) (gQ (eG e.table (e.u.lit.getD k default)) 0,gQ (eG e.table (e.u.lit.getD k default)) 1,gQ (eG e.table (e.u.lit.getD k default)) 2,0))) U U j8 rfl ?_;refine QJ (L':=b5 g A e) rfl has (λM bn=>bn.pre) ⟨(),?_,rfl⟩;rw[akg aw aK]
end ZV
end AE
end
end
namespace AE
@[reducible] def l_ (b:bQ) (v:J):J:= .agg ⟨[.int .i64 b.1,.int .i64 b.2.1,.int .i64 b.2.2.1,.int .i64 b.2.2.2.1,.int .i64 b.2.2.2.2.1,.int .i64 b.2.2.2.2.2,v]⟩
theorem akU {α:Type} {P:aR} {f:FuncId} {args:Array J} {w:ax} {e:aJ} {k:Nat} {enc:α->List J} {l:List α} {L:List b0} {F:J->J} (aw:cv (aF w) L)
  (h:Calls P f args w λe' w'=>(∃a c,e'= .returned (F (.slice a l.length c))/\dm w.heap.size (aF w') e k enc (.slice a l.length c) l)/\cb w.heap.size w w'):
  Calls P f args w λe' w'=>(∃y:Option Addr×Nat,e'= .returned (F (.slice y.1 l.length y.2))/\c5 (aF w) L (aF w') (L++[h2 e k enc (.slice y.1 l.length y.2) l]))/\cb 0 w w':=
 h.mono λe' w' he=>by
   obtain⟨⟨a,c,rfl,cn⟩,hl⟩:=he;have t:c5 (aF w) [] (aF w') [h2 e k enc (.slice a l.length c) l]:=⟨cv.one (r_ cn),λi o ag _=>by
    rw[show aF w' i=aF w i from hl.block i (Array.getElem?_eq_some_iff.1 ag).1]
    exact ag,λb ae=> .inr (Array.getElem?_eq_none_iff.2 (cn.known b (nM.1 ae)).2)⟩
   exact⟨⟨(a,c),rfl,(aw.own.new t).GL⟩,hl.zero⟩
theorem ZW {α:Type} (M:Mem) (e:aJ) (k:Nat) (enc:α->List J):c5 M [] M [h2 e k enc (.slice none 0 0) []]:=
 ⟨cv.one (r_ (dm.nil 0 M e k enc none)),λ_ _ h _=>h,λb ae=>by
   have:some b=eL (.slice none 0 0):=nM.1 ae
   cases this⟩
theorem Rm {α:Type} (M:Mem) (e:aJ) (k:Nat) (enc:α->List J):c5 M [] M [pV e k enc (.slice none 0 0) []]:=
 ⟨cv.one (WQ (dm.nil 0 M e k enc none).queue),λ_ _ h _=>h,λb ae=>by
   have:some b=eL (.slice none 0 0):=nM.1 ae
   cases this⟩
end AE
section
noncomputable section
namespace AE
theorem ZX {x:bM} (h:0<=x.1/\x.1<=15/\0<=x.2.1/\x.2.1<=15/\0<=x.2.2.1/\x.2.2.1<=15/\0<=x.2.2.2/\x.2.2.2<=15):Ci x:=λc aq=>by
 obtain⟨aM,ad,af,ay,bD,cD,cI,fK⟩:=h
 match c,aq with
 |0,_=>exact⟨aM,ad⟩
 |1,_=>exact⟨af,ay⟩
 |2,_=>exact⟨bD,cD⟩
 |3,_=>exact⟨cI,fK⟩
theorem ZY {N eH:bM} {i:Nat} (h:i<4):b_ (k6 i N eH) i=b_ eH i:=by
 unfold k6;rw[iF h,aU ar]
theorem ZZ {N eH:bM} {i:Nat}:tA (k6 i N eH) i (max (b_ N i) (b_ eH i))=k6 (i+1) N eH:=bM.ext' λc aq=>by
 unfold tA k6;rw[iF aq,iF aq,iF aq];by_cases ag:c=i
 ·subst ag;rw[aQ rfl,aQ ar]
 ·rw[aU ag]
  by_cases hl:c<i
  ·rw[aQ hl,aQ ar]
  ·rw[aU hl,aU ar]
theorem Z0 {N eH:bM} {i:Nat} (h:i<4):v_ (i+1) N eH=(v_ i N eH||decide (b_ eH i<b_ N i)):=by
 match i,h with
 |0,_=>simp [v_,b_]
 |1,_=>simp [v_,b_]
 |2,_=>simp [v_,b_]
 |3,_=>simp [v_,b_]
theorem Z1:∀(l:List Nat) (s:List Nat×List Bool),(nc l s).1.length<=s.1.length+l.length/\(nc l s).2.length=s.2.length
 |[],_=>⟨b2 _,rfl⟩
 |k::l,s=>by
  obtain⟨q1,aE⟩:=Z1 l (mw s.1 s.2 k,nw s.2 k);have cJ:=XI s.1 s.2 k;have dk:=KB s.2 k;have e:nc (k::l) s=nc l (mw s.1 s.2 k,nw s.2 k):=rfl;rw[e,List.length_cons];dsimp only at q1 aE;exact⟨ar,aE.trans dk⟩
theorem akV {B:Nat} {dx:Mem} {az:List b0} {M:Mem} {L L':List (a1 ej)} (d:Nat) {K:iR ej} {r:a1 ej} (eX:oW L d r (.arr K (.slice none 0 0) []) L') (h:bH B dx az M (ct L)):bH B dx az M (ct L'):=by
 obtain⟨ag,rfl⟩:=eX.get;rw[uN];have t:=ZW M K.e K.k K.enc;refine h.mQ d (ll ag) ⟨t.sp,λi o ag _=>ag,λb ae=> ?_⟩;rcases t.fresh b ae with ad|ad
 ·exact absurd ad (DX b)
 ·exact .inr ad
namespace Rn
def t:bL:=
.o (.dQ 0) 1 1 []<|
.o (.cG 76 1 0) 2 1 [0,74,1]<|
.o (.bF 74 2) 3 1 [1]<|
.o (.len #[74] 3 3) 4 1 [0,87]<|
.o (.bin .eql 3 4 (I 0)) 5 1 []<|
.ret 5
theorem gU:jj Tryd.prog 37 {} [0] 1=some t:=k4 au
theorem any {W:ax} {g:Nat} {A:de} {e:bW} (aN:cv (aF W) (ct (b5 g A e))):jZ ej 37 [.pointer (some ⟨g,20,none⟩)] W (b5 g A e) Unit (λ_=> .bool (decide (((e.u.bE.length:Nat):Int)=0))) λ_=>b5 g A e:=by
 refine mZ (ro:=[]) mixed gU [.pointer (some ⟨g,20,none⟩)] aN gB.none ?_;unfold t;refine cy ?_;exact oX ⟨(),rfl,rfl⟩
end Rn
namespace Z2
def t:bL:=
.o (.dQ 0) 1 1 []<|
.o (.cG 78 1 0) 2 1 [0,26,1]<|
.o (.bF 26 2) 3 1 [1]<|
.o (.len #[26] 3 3) 4 1 [0,3]<|
.o (.bin .eql 3 4 (I 0)) 5 1 []<|
.ret 5
theorem gU:jj Tryd.prog 38 {} [0] 1=some t:=k4 au
theorem any {W:ax} {g:Nat} {A:de} {e:bW} (aN:cv (aF W) (ct (b5 g A e))):jZ ej 38 [.pointer (some ⟨g,22,none⟩)] W (b5 g A e) Unit (λ_=> .bool (decide (((e.u.bu.length:Nat):Int)=0))) λ_=>b5 g A e:=by
 refine mZ (ro:=[]) mixed gU [.pointer (some ⟨g,22,none⟩)] aN gB.none ?_;unfold t;refine cy ?_;exact oX ⟨(),rfl,rfl⟩
end Z2
namespace Z3
def t:bL:=
.o (.dQ 0) 1 1 []<|
.o (.cG 73 1 0) 2 1 [0,71,1]<|
.o (.bF 71 2) 3 1 [1]<|
.o (.len #[71] 3 3) 4 1 [0,89]<|
.o (.bin .eql 3 4 (I 0)) 5 1 []<|
.ret 5
theorem gU:jj Tryd.prog 39 {} [0] 1=some t:=k4 au
theorem any {W:ax} {g:Nat} {A:de} {e:bW} (aN:cv (aF W) (ct (b5 g A e))):jZ ej 39 [.pointer (some ⟨g,19,none⟩)] W (b5 g A e) Unit (λ_=> .bool (decide (((e.u.reqs.length:Nat):Int)=0))) λ_=>b5 g A e:=by
 refine mZ (ro:=[]) mixed gU [.pointer (some ⟨g,19,none⟩)] aN gB.none ?_;unfold t;refine cy ?_;exact oX ⟨(),rfl,rfl⟩
end Z3
end AE
end
end
section
noncomputable section
namespace AE
@[reducible] def xx (e:bW):bW:={e with u:=(gJ e.table e.b e.u).2}
namespace Z4
def t:bL:=
.p7 34 0<|
.o (.bF 34 1) 2 1 [1]<|
.o (.dQ 2) 3 1 []<|
.o (.cG 80 3 8) 4 1 [20,76,1]<|
.call 37 [4] 5 1<|
.o (.un .not 5) 6 1 []<|
.eO 6 (
 .o (.bF 34 1) 7 1 [1]<|
 .o (.dQ 7) 8 1 []<|
 .o (.cG 80 8 8) 9 1 [20,76,1]<|
 .call 58 [9] (.agg ⟨[10,11,12,13,14]⟩) 5<|
 .qF 87<|
 .st 87 15 (.agg ⟨[10,11,12,13,14]⟩)<|
 .o (.bF 34 1) 16 1 [1]<|
 .o (.cG 87 15 0) 17 1 [0,3,1]<|
 .o (.bF 3 17) 18 1 [1]<|
 .call 59 [16,18,.func (.func 60) ⟨[]⟩ ⟨[1,15]⟩] (.tuple ⟨[]⟩) 0<|
 .o (.bF 34 1) 19 1 [1]<|
 .o (.dQ 19) 20 1 []<|
 .o (.cG 80 20 8) 21 1 [20,76,1]<|
 .call 37 [21] 22 1<|
 .eO 22 (
  .o (.bF 34 1) 23 1 [1]<|
  .o (.dQ 23) 24 1 []<|
  .o (.cG 80 24 9) 25 1 [21,26,1]<|
  .o (.bF 26 25) 26 1 [1]<|
  .o (.len #[26] 3 26) 27 1 [0,3]<|
  .loop [I 0] 1<|
  .o (.bin .lss 3 28 27) 29 1 []<|
  .eO 29 (
   .o (.dC 26 26 28) 30 1 [0,3,1]<|
   .o (.bF 3 30) 31 1 [1]<|
   .o (.bF 34 1) 32 1 [1]<|
   .call 35 [32,31] (.tuple ⟨[]⟩) 0<|
   .o (.bin .add 3 28 (I 1)) 33 1 []<|
   .back [33]) (
   .fT<|
   .o (.bF 34 1) 30 1 [1]<|
   .o (.dQ 30) 31 1 []<|
   .o (.cG 80 31 9) 32 1 [21,26,1]<|
   .st 26 32 (.slice none 0 0)<|
   .ret (.bool true))) (
  .ret (.bool true))) (
 .o (.bF 34 1) 7 1 [1]<|
 .o (.dQ 7) 8 1 []<|
 .o (.cG 80 8 10) 9 1 [22,78,1]<|
 .call 38 [9] 10 1<|
 .o (.un .not 10) 11 1 []<|
 .eO 11 (
  .o (.bF 34 1) 12 1 [1]<|
  .o (.dQ 12) 13 1 []<|
  .o (.cG 80 13 10) 14 1 [22,78,1]<|
  .call 64 [14] 15 1<|
  .o (.bF 34 1) 16 1 [1]<|
  .o (.dQ 16) 17 1 []<|
  .o (.cG 80 17 11) 18 1 [23,30,1]<|
  .o (.bF 30 18) 19 1 [1]<|
  .o (.dC 30 19 15) 20 1 [0,4,1]<|
  .st 4 20 (.bool false)<|
  .o (.bF 34 1) 21 1 [1]<|
  .call 65 [21,15] (.agg ⟨[22,23,24,25]⟩) 4<|
  .qF 85<|
  .st 85 26 (.agg ⟨[22,23,24,25]⟩)<|
  .loop [I 0,.bool false] 2<|
  .o (.bin .lss 3 27 (I 4)) 29 1 []<|
  .eO 29 (
   .eO 28 (
    .o (.bF 34 1) 30 1 [1]<|
    .o (.dQ 30) 31 1 []<|
    .o (.cG 80 31 5) 32 1 [17,45,1]<|
    .o (.bF 45 32) 33 1 [1]<|
    .o (.dC 85 26 27) 34 1 [1,4,3,1]<|
    .o (.bF 3 34) 35 1 [1]<|
    .o (.dC 45 33 15) 36 1 [0,85,4]<|
    .o (.dC 85 36 27) 37 1 [1,4,3,1]<|
    .o (.bF 3 37) 38 1 [1]<|
    .o (.eR #[3,3] 3 35 38) 39 1 []<|
    .st 3 37 39<|
    .o (.bin .add 3 27 (I 1)) 40 1 []<|
    .back [40,.bool true]) (
    .o (.dC 85 26 27) 30 1 [1,4,3,1]<|
    .o (.bF 3 30) 31 1 [1]<|
    .o (.bF 34 1) 32 1 [1]<|
    .o (.dQ 32) 33 1 []<|
    .o (.cG 80 33 5) 34 1 [17,45,1]<|
    .o (.bF 45 34) 35 1 [1]<|
    .o (.dC 45 35 15) 36 1 [0,85,4]<|
    .o (.dC 85 36 27) 37 1 [1,4,3,1]<|
    .o (.bF 3 37) 38 1 [1]<|
    .o (.bin .gtr 3 31 38) 39 1 []<|
    .o (.eR #[3,3] 3 31 38) 40 1 []<|
    .st 3 37 40<|
    .o (.bin .add 3 27 (I 1)) 41 1 []<|
    .back [41,39])) (
   .fT<|
   .eO 28 (
    .o (.bF 34 1) 30 1 [1]<|
    .call 59 [30,15,.func (.func 66) ⟨[]⟩ ⟨[1]⟩] (.tuple ⟨[]⟩) 0<|
    .ret (.bool true)) (
    .ret (.bool true)))) (
  .o (.bF 34 1) 12 1 [1]<|
  .o (.dQ 12) 13 1 []<|
  .o (.cG 80 13 7) 14 1 [19,73,1]<|
  .call 39 [14] 15 1<|
  .o (.un .not 15) 16 1 []<|
  .eO 16 (
   .o (.bF 34 1) 17 1 [1]<|
   .o (.dQ 17) 18 1 []<|
   .o (.cG 80 18 7) 19 1 [19,73,1]<|
   .call 67 [19] (.agg ⟨[20,21,22]⟩) 3<|
   .o (.bF 34 1) 23 1 [1]<|
   .o (.dQ 23) 24 1 []<|
   .o (.cG 80 24 5) 25 1 [17,45,1]<|
   .o (.bF 45 25) 26 1 [1]<|
   .o (.dC 45 26 20) 27 1 [0,85,4]<|
   .o (.bF 85 27) (.agg ⟨kC 4 28⟩) 4 [4]<|
   .call 63 [23,20,.agg ⟨[28,29,30,31]⟩] (.tuple ⟨[]⟩) 0<|
   .o (.bF 34 1) 32 1 [1]<|
   .o (.dQ 32) 33 1 []<|
   .o (.cG 80 33 1) 34 1 [7,28,7]<|
   .o (.cG 28 34 1) 35 1 [6,26,1]<|
   .o (.bF 26 35) 36 1 [1]<|
   .o (.cG 80 33 3) 37 1 [15,30,1]<|
   .o (.bF 30 37) 38 1 [1]<|
   .o (.dC 26 36 20) 39 1 [0,3,1]<|
   .o (.dC 30 38 20) 40 1 [0,4,1]<|
   .st 3 39 21<|
   .o (.dC 30 38 20) 41 1 [0,4,1]<|
   .st 4 41 22<|
   .ret (.bool true)) (
   .ret (.bool false))))
theorem gU:jj Tryd.prog 36 {pw:=[58,64,67,37,38,39,59,65,35,63],marks:=[34,85,87]} [0] 1=some t:=k4 au
theorem any {W:ax} {g:Nat} {A:de} {e:bW} (aN:cv (aF W) (ct (b5 g A e))) (G:gd e.table e.b e.u):
  jZ ej 36 [ch g] W (b5 g A e) de (λ_=> .bool (gJ e.table e.b e.u).1) λa_=>b5 g a_ (xx e):=by
 have ae:=G.box;have hl:=G.len;have lf:=G.HB;have BW:=G.HA;have hw:=G.aky;have ad:=G.gM;have af:=G.c2;have ay:=G.c3;have hL:∀n,n<e.u.bZ.length->Ci (e.u.aH.getD n default):=λn av=>ZX (G.li n av)
 refine mZ (ro:=[]) mixed gU [ch g] aN gB.none ?_;unfold t;refine B_ (cs:=[ch g]) U U (λb=>p9) λdv=> ?_
 refine cy ?_;refine ts (eb:=b5 g A e) (λ_=>[.bool (decide (((e.u.bE.length:Nat):Int)=0))]) (λw _ aN=>Rn.any aN) λ_=> ?_
 refine cy ?_;refine En rfl (λav=> ?_) λav=> ?_
 ·have sn:0<e.u.bE.length:=by omega
  have Z5:=G.fp _ (by rw[dh,fA sn];exact List.getElem_mem sn:e.u.bE.getD 0 default∈e.u.bE);refine cy ?_;refine ts (eb:=b5 g A e) (λ_=>kz (e.u.bE.getD 0 default)) (λw _ aN=>ZH.any aN sn) λy=> ?_
  generalize ak:e.u.bE.getD 0 default=x at Z5 ⊢;obtain⟨sd,ih⟩:=Z5;refine Eo (z:= .agg ⟨kz (0,z4)⟩) (kz (0,z4)) au rfl (λb=>p9) λou=> ?_
  refine Hk (m:=5) (us:=kz x) (cs':=kz x) U U j8 rfl ?_;refine cy ?_;generalize aw:l7 e.table e.u.lit x.2 (dZ e.b e.u.bZ x.1 6) (e.u.bE.drop 1,e.u.gone,e.u.aH)=s;have MA:(e.u.bE.drop 1).length<=e.u.bE.length:=by rw[List.length_drop];omega
  have gw:=Ri e.table e.u.lit x.2 (dZ e.b e.u.bZ x.1 6) (e.u.bE.drop 1,e.u.gone,e.u.aH);have Ln:=akm (b:=e.b) (sh:=e.u.bZ) (k:=x.1) (table:=e.table) (lit:=e.u.lit) (old:=x.2) (s:=(e.u.bE.drop 1,e.u.gone,e.u.aH)) G.go;rw[aw] at gw Ln;have ie:=Rj e.b e.u.bZ x.1 6;have eV:(gJ e.table e.b e.u)=(true,if s.1.length=0 then {e.u with bE:=s.1,gone:=[],aH:=s.2.2,bu:=(nc s.2.1 (e.u.bu,e.u.waits)).1,waits:=(nc s.2.1 (e.u.bu,e.u.waits)).2} else {e.u with bE:=s.1,gone:=s.2.1,aH:=s.2.2}):=by
   rw[Hu sn];unfold yY xr;rw[ak,aw]
  unfold xx;rw[eV];refine l6 (eb:=b5 g {A with o:=y} {e with u:={e.u with bE:=e.u.bE.drop 1}}++[a1.box dv fX [ch g],a1.box ou tB (kz x)]) (L':=λ(z:dY×dY)=>b5 g {A with o:=z.1,g:=z.2} (Cl e s)++[a1.box dv fX [ch g],a1.box ou tB (kz x)]) (N:=λ(z:dY×dY)=>b5 g {A with o:=z.1,g:=z.2} (Cl e s)++[a1.box dv fX [ch g],a1.box ou tB (kz x)]) [0,1,2,3,4,5,6,7,8,9,10,11,12,13] (λ_=>[]) (λw _ aN=> ?_) (λz=> ?_) (hL:=λz=>Hl (n:=14) U U)
  ·have:=ZS.any (e:={e with u:={e.u with bE:=e.u.bE.drop 1}}) aN x.1 ae sd hl lf BW (by show (e.u.bE.drop 1).length<=_;omega) (by show e.u.gone.length<=_;omega) (ZX ih) G.cG
   rw[aw] at this;exact this
  ·refine cy ?_
   refine ts (eb:=b5 g {A with o:=z.1,g:=z.2} (Cl e s)) (λ_=>[.bool (decide (((s.1.length:Nat):Int)=0))]) (λw _ aN=>Rn.any aN) λ_=> ?_
   refine kE rfl (λbI=> ?_) λbI=> ?_
   ·have bI:s.1.length=0:=by omega
    rw[aQ bI];refine cy ?_;refine xo (Nat×dY) (λu=>[I (u.1:Nat)]) (λu=>b5 g {A with o:=z.1,g:=z.2,s:=u.2} (Lo (Cl e s) (nc (s.2.1.take u.1) (e.u.bu,e.u.waits)))++[a1.box dv fX [ch g],a1.box ou tB (kz x)]) (λu=>u.1<=s.2.1.length) (λu=>s.2.1.length-u.1) (0,A.s) U U (Nat.zero_le _) (λu hu=> ?_);obtain⟨i,a⟩:=u;have hu:i<=s.2.1.length:=hu;dsimp only;obtain⟨cJ,dk⟩:=Z1 (s.2.1.take i) (e.u.bu,e.u.waits);have fQ:(s.2.1.take i).length<=s.2.1.length:=by rw[List.length_take];omega
    have xR:s.2.1.length<=e.u.gone.length+6:=Ln.2;dsimp only at cJ dk;refine cy ?_;refine kE rfl (λag=> ?_) λag=> ?_
    ·have ag:i<s.2.1.length:=by omega
     have aj:=Ln.1 i ag;refine cy ?_;refine ts (eb:=b5 g {A with o:=z.1,g:=z.2,s:=a} (Lo (Cl e s) (nc (s.2.1.take i) (e.u.bu,e.u.waits)))) (λ_=>[]) (λw _ aN=>Rc.any aN (s.2.1.getD i default) (by show _<(nc (s.2.1.take i) (e.u.bu,e.u.waits)).2.length;rw[dk,hw];exact aj) (by show (nc (s.2.1.take i) (e.u.bu,e.u.waits)).1.length<=_;omega)) λaW=> ?_
     refine cy ?_;refine oo (u:=(i,a)) (i+1,aW) rfl ?_ (by show i+1<=_;omega) (by show s.2.1.length-(i+1)<s.2.1.length-i;omega);obtain⟨t1,t2⟩:=akj (s:=(e.u.bu,e.u.waits)) U U ag;unfold Ay;dsimp only;rw[t1,t2]
    ·refine cy ?_
     obtain rfl:i=s.2.1.length:=by omega
     rw[List.take_length];exact pB (λM bn=>by exact(akV (L':=b5 g {A with o:=z.1,g:=(none,0),s:=a} {e with u:={e.u with bE:=s.1,gone:=[],aH:=s.2.2,bu:=(nc s.2.1 (e.u.bu,e.u.waits)).1,waits:=(nc s.2.1 (e.u.bu,e.u.waits)).2}}++[a1.box dv fX [ch g],a1.box ou tB (kz x)]) 2 (K:=uQ) j8 bn).pick Q_ rfl) ⟨{A with o:=z.1,g:=(none,0),s:=a},rfl,rfl⟩
   ·rw[aU ar]
    exact pB (λM bn=>by exact bn.pre) ⟨{A with o:=z.1,g:=z.2},rfl,rfl⟩
 ·have sn:¬0<e.u.bE.length:=by omega
  refine cy ?_;refine ts (eb:=b5 g A e) (λ_=>[.bool (decide (((e.u.bu.length:Nat):Int)=0))]) (λw _ aN=>Z2.any aN) λ_=> ?_
  refine cy ?_;refine En rfl (λlb=> ?_) λlb=> ?_
  ·have Cm:0<e.u.bu.length:=by omega
   have aj:=G.ru _ (by rw[dh,fA Cm];exact List.getElem_mem Cm:e.u.bu.getD 0 default∈e.u.bu);refine cy ?_;refine ts (eb:=b5 g A e) (λ_=>[I (e.u.bu.getD 0 default:Nat)]) (λw _ aN=>ZF.any aN Cm) λy=> ?_
   generalize akW:e.u.bu.getD 0 default=k at aj ⊢;have MA:(e.u.bu.drop 1).length<=e.u.bu.length:=by rw[List.length_drop];omega
   have apT:k<e.u.waits.length:=by omega
   have mr:k<e.u.aH.length:=by omega
   refine cy ?_;refine yT (K:=sw) (l:=e.u.waits) (j:=k) false U U j8 rfl (λ_ _=>rfl) ?_;refine cy ?_;generalize j5:v' e.table e.u.lit e.u.aH e.u.bZ e.b k=N;generalize cn:e.u.aH.getD k default=eH;have eV:(gJ e.table e.b e.u)=(true,if v_ 4 N eH=true then {e.u with aH:=e.u.aH.set k (k6 4 N eH),bu:=(su (dZ e.b e.u.bZ k 6) (e.u.bu.drop 1,e.u.waits.set k false)).1,waits:=(su (dZ e.b e.u.bZ k 6) (e.u.bu.drop 1,e.u.waits.set k false)).2} else {e.u with aH:=e.u.aH.set k (k6 4 N eH),bu:=e.u.bu.drop 1,waits:=e.u.waits.set k false}):=by
    rw[Hv sn Cm];unfold yZ Ht;rw[akW,j5,cn]
   unfold xx;rw[eV];refine l6 (v:=λ_=> .agg ⟨dM N⟩) (eb:=b5 g {A with s:=y} {e with u:={e.u with bu:=e.u.bu.drop 1,waits:=e.u.waits.set k false}}) (L':=λ_=>b5 g {A with s:=y} {e with u:={e.u with bu:=e.u.bu.drop 1,waits:=e.u.waits.set k false}}++[a1.box dv fX [ch g]]) Q_ (λ_=>dM N) (λw _ aN=>by rw[<-j5];exact ZV.any aN k ae aj hl lf BW hL (G.cG k aj)) λ_=> ?_
   refine Eo (z:= .agg ⟨dM z4⟩) (dM z4) au rfl (λb=>p9) λHz=> ?_
   refine Hk (m:=4) (us:=dM N) (cs':=dM N) U U j8 rfl ?_;refine xo Nat (λi=>[I (i:Nat),.bool (v_ i N eH)]) (λi=>b5 g {A with s:=y} {e with u:={e.u with bu:=e.u.bu.drop 1,waits:=e.u.waits.set k false,aH:=e.u.aH.set k (k6 i N eH)}}++[a1.box dv fX [ch g],a1.box Hz oZ (dM N)]) (λi=>i<=4) (λi=>4-i) 0 rfl ?_ ar (λi ag=> ?_)
   ·rw[akh,<-cn,XJ mr]
    rfl
   refine cy ?_;refine kE rfl (λbD=> ?_) λbD=> ?_
   ·have lL:i<4:=by omega
    have n3:k<(e.u.aH.set k (k6 i N eH)).length:=by rw[List.length_set];exact mr
    have DS:(e.u.aH.set k (k6 i N eH)).getD k default=k6 i N eH:=by rw[BP mr,aQ rfl]
    have bq:∀z,(e.u.aH.set k (k6 i N eH))[k]? =some z->dM (tA (k6 i N eH) i (max (b_ N i) (b_ eH i)))=(dM z).set (0+i*1) (I (max (b_ N i) (b_ eH i))):=λz bI=>by
     rw[List.getElem?_set,aQ rfl,aQ mr,cE] at bI;subst bI;exact Lk lL _
    refine Hh rfl (λhm=> ?_) λhm=> ?_
    ·refine cy ?_
     refine B' (u:=I (b_ N i)) rfl has (Az lL) ?_;refine cy ?_;refine K6 (K:=qL) (l:=e.u.aH.set k (k6 i N eH)) (j:=k) (o:=0+i*1) (u:=I (b_ eH i)) rfl (by rw[DS,<-ZY (N:=N) lL];exact Az lL) ?_;refine cy ?_;refine yT (K:=qL) (l:=e.u.aH.set k (k6 i N eH)) (j:=k) (o:=0+i*1) (tA (k6 i N eH) i (max (b_ N i) (b_ eH i))) U U j8 rfl bq ?_ (hj:=n3) (ho:=by show 0+i*1<4;omega);refine cy ?_;refine oo (i+1) ?_ ?_ ar ar
     ·rw[Z0 lL,hm]
      rfl
     ·rw[List.set_set,ZZ]
      rfl
    ·refine cy ?_
     refine B' (u:=I (b_ N i)) rfl has (Az lL) ?_;refine cy ?_;refine K6 (K:=qL) (l:=e.u.aH.set k (k6 i N eH)) (j:=k) (o:=0+i*1) (u:=I (b_ eH i)) rfl (by rw[DS,<-ZY (N:=N) lL];exact Az lL) ?_;refine cy ?_;refine yT (K:=qL) (l:=e.u.aH.set k (k6 i N eH)) (j:=k) (o:=0+i*1) (tA (k6 i N eH) i (max (b_ N i) (b_ eH i))) U U j8 rfl bq ?_ (hj:=n3) (ho:=by show 0+i*1<4;omega);refine cy ?_;refine oo (i+1) ?_ ?_ ar ar
     ·rw[Z0 lL,hm]
      rfl
     ·rw[List.set_set,ZZ]
      rfl
   ·refine cy ?_
    obtain rfl:i=4:=by omega
    refine Hh rfl (λhm=> ?_) λhm=> ?_
    ·rw[aQ hm]
     refine cy ?_;refine l6 (eb:=b5 g {A with s:=y} {e with u:={e.u with bu:=e.u.bu.drop 1,waits:=e.u.waits.set k false,aH:=e.u.aH.set k (k6 4 N eH)}}++[a1.box dv fX [ch g]]) (L':=λz=>b5 g {A with s:=z} {e with u:={e.u with aH:=e.u.aH.set k (k6 4 N eH),bu:=(su (dZ e.b e.u.bZ k 6) (e.u.bu.drop 1,e.u.waits.set k false)).1,waits:=(su (dZ e.b e.u.bZ k 6) (e.u.bu.drop 1,e.u.waits.set k false)).2}}++[a1.box dv fX [ch g],a1.box Hz oZ (dM N)]) [0,1,2,3,4,5,6,7,8,9,10,11,12] (λ_=>[]) (λw _ aN=>ZT.any (e:={e with u:={e.u with bu:=e.u.bu.drop 1,waits:=e.u.waits.set k false,aH:=e.u.aH.set k (k6 4 N eH)}}) aN k ae aj hl (by show (e.u.waits.set k false).length=_;rw[List.length_set];exact hw) (by show (e.u.bu.drop 1).length<=_;omega)) λz=> ?_
     exact pB (λM bn=>by exact bn.pre) ⟨{A with s:=z},rfl,rfl⟩
    ·rw[aU (by rw[hm];decide)]
     exact pB (λM bn=>by exact bn.pre) ⟨{A with s:=y},rfl,rfl⟩
  ·have Cm:¬0<e.u.bu.length:=by omega
   refine cy ?_;refine ts (eb:=b5 g A e) (λ_=>[.bool (decide (((e.u.reqs.length:Nat):Int)=0))]) (λw _ aN=>Z3.any aN) λ_=> ?_
   refine cy ?_;refine En rfl (λRo=> ?_) λRo=> ?_
   ·have Ey:0<e.u.reqs.length:=by omega
    have aj:=G.reqs _ (by rw[dh,fA Ey];exact List.getElem_mem Ey:e.u.reqs.getD 0 default∈e.u.reqs);unfold xx;rw[Hw sn Cm Ey];unfold Lc;refine cy ?_;refine ts (eb:=b5 g A e) (λ_=>vH (e.u.reqs.getD 0 default)) (λw _ aN=>ZJ.any aN Ey) λy=> ?_
    generalize ak:e.u.reqs.getD 0 default=x at aj ⊢;have mr:x.1<e.u.aH.length:=by omega
    have r1:x.1<e.u.lit.length:=by omega
    refine cy ?_;refine Em (K:=qL) (l:=e.u.aH) (j:=x.1) (c:=dM (e.u.aH.getD x.1 default)) U U U mz ?_;refine ts (eb:=b5 g {A with q:=y} {e with u:={e.u with reqs:=e.u.reqs.drop 1}}) (λ_=>[]) (λw _ aN=>Rd.any aN x.1 (e.u.aH.getD x.1 default) mr (by show e.u.bE.length<=_;omega) (by show e.u.gone.length<=_;omega)) λz=> ?_
    refine cy ?_;refine yT (K:=mA) (l:=e.u.lit) (j:=x.1) x.2.1 U U j8 rfl (λ_ _=>rfl) ?_;refine cy ?_;refine yT (K:=sw) (l:=e.u.bZ) (j:=x.1) x.2.2 U U j8 rfl (λ_ _=>rfl) ?_;exact pB (λM bn=>by exact bn.pre) ⟨{A with q:=y,o:=z.1,g:=z.2},rfl,rfl⟩
   ·have Ey:¬0<e.u.reqs.length:=by omega
    unfold xx;rw[Hx sn Cm Ey];exact pB (λM bn=>by exact bn.pre) ⟨A,rfl,rfl⟩
end Z4
end AE
end
end
namespace AE
namespace Z6
noncomputable def body:Code:=(Tryd.f78.body).getD .skip
def N:Nat:=14
noncomputable abbrev bN:=gk Tryd.prog Tryd.f78
def a8:b6:={sl:=cc [(1,.agg ⟨[I 0,I 0,I 0,I 0,I 0,I 0]⟩),(0,.agg ⟨[0,1,2,3,4,5]⟩)],ms:=[],A:=start}
def cj:bs:=[(.eR #[3,3] 3 0 (I 0),6),
 (.eR #[3,3] 3 1 (I 0),7),
 (.eR #[3,3] 3 2 (I 0),8),
 (.lz #[3,3] 3 3 (I 0),9),
 (.lz #[3,3] 3 4 (I 0),10),
 (.lz #[3,3] 3 5 (I 0),11),
 (.bin .geq 3 6 6,.bool true),
 (.bin .lss 3 6 9,.bool true),
 (.bin .geq 3 7 7,.bool true),
 (.bin .lss 3 7 10,.bool true),
 (.bin .geq 3 8 8,.bool true),
 (.bin .lss 3 8 11,.bool true)]
theorem e0:bN (at' 14 cj [] body a8)=some (.agg ⟨[6,7,8,9,10,11]⟩):=au
def cx:bs:=[(.eR #[3,3] 3 0 (I 0),6),
 (.eR #[3,3] 3 1 (I 0),7),
 (.eR #[3,3] 3 2 (I 0),8),
 (.lz #[3,3] 3 3 (I 0),9),
 (.lz #[3,3] 3 4 (I 0),10),
 (.lz #[3,3] 3 5 (I 0),11),
 (.bin .geq 3 6 6,.bool true),
 (.bin .lss 3 6 9,.bool true),
 (.bin .geq 3 7 7,.bool true),
 (.bin .lss 3 7 10,.bool true),
 (.bin .geq 3 8 8,.bool true),
 (.bin .lss 3 8 11,.bool false)]
theorem e1:bN (at' 14 cx [] body a8)=some (.agg ⟨[I 0,I 0,I 0,I 0,I 0,I 0]⟩):=au
def dz:bs:=[(.eR #[3,3] 3 0 (I 0),6),
 (.eR #[3,3] 3 1 (I 0),7),
 (.eR #[3,3] 3 2 (I 0),8),
 (.lz #[3,3] 3 3 (I 0),9),
 (.lz #[3,3] 3 4 (I 0),10),
 (.lz #[3,3] 3 5 (I 0),11),
 (.bin .geq 3 6 6,.bool true),
 (.bin .lss 3 6 9,.bool true),
 (.bin .geq 3 7 7,.bool true),
 (.bin .lss 3 7 10,.bool false)]
theorem e2:bN (at' 14 dz [] body a8)=some (.agg ⟨[I 0,I 0,I 0,I 0,I 0,I 0]⟩):=au
def et:bs:=[(.eR #[3,3] 3 0 (I 0),6),
 (.eR #[3,3] 3 1 (I 0),7),
 (.eR #[3,3] 3 2 (I 0),8),
 (.lz #[3,3] 3 3 (I 0),9),
 (.lz #[3,3] 3 4 (I 0),10),
 (.lz #[3,3] 3 5 (I 0),11),
 (.bin .geq 3 6 6,.bool true),
 (.bin .lss 3 6 9,.bool false)]
theorem dn:bN (at' 14 et [] body a8)=some (.agg ⟨[I 0,I 0,I 0,I 0,I 0,I 0]⟩):=au
@[reducible] noncomputable def bJ (b:bQ):List J:=[I b.1,I b.2.1,I b.2.2.1,I b.2.2.2.1,I b.2.2.2.2.1,I b.2.2.2.2.2,I (max b.1 0),I (max b.2.1 0),I (max b.2.2.1 0),I (min b.2.2.2.1 0),I (min b.2.2.2.2.1 0),I (min b.2.2.2.2.2 0)]
theorem any (W:ax) (b:bQ):Calls Tryd.prog 78 #[X.val b,.agg ⟨[I 0,I 0,I 0,I 0,I 0,I 0]⟩] W λe w'=>e= .returned (.agg ⟨[I 0,I 0,I 0,I 0,I 0,I 0]⟩)/\cb W.heap.size W w':=by
 refine jO (bJ b) body a8 N [.agg ⟨[al 0,al 1,al 2,al 3,al 4,al 5]⟩,.agg ⟨[I 0,I 0,I 0,I 0,I 0,I 0]⟩] Tryd.func78 λa ah=> ?_
 letI:=cg ah;by_cases aM:(max b.1 0)<(min b.2.2.2.1 0)
 ·by_cases ad:(max b.2.1 0)<(min b.2.2.2.2.1 0)
  ·by_cases af:(max b.2.2.1 0)<(min b.2.2.2.2.2 0)
   ·refine bK cj [] (ai (aT.pR U U U U U U) (ai (aT.pR U U U U U U) (ai (aT.pR U U U U U U) (ai (aT.s4 U U U U U U) (ai (aT.s4 U U U U U U) (ai (aT.s4 U U U U U U) (ai bC (ai bC (ai bC (ai bC (ai bC (ai bC aX)))))))))))) aY ?_ ah
    exact bP e0 λw2 br=>(by (exfalso;omega))
   ·refine bK cx [] (ai (aT.pR U U U U U U) (ai (aT.pR U U U U U U) (ai (aT.pR U U U U U U) (ai (aT.s4 U U U U U U) (ai (aT.s4 U U U U U U) (ai (aT.s4 U U U U U U) (ai bC (ai bC (ai bC (ai bC (ai bC (ai bf aX)))))))))))) aY ?_ ah
    exact bP e1 λw2 br=>(by rfl)
  ·refine bK dz [] (ai (aT.pR U U U U U U) (ai (aT.pR U U U U U U) (ai (aT.pR U U U U U U) (ai (aT.s4 U U U U U U) (ai (aT.s4 U U U U U U) (ai (aT.s4 U U U U U U) (ai bC (ai bC (ai bC (ai bf aX)))))))))) aY ?_ ah
   exact bP e2 λw2 br=>(by rfl)
 ·refine bK et [] (ai (aT.pR U U U U U U) (ai (aT.pR U U U U U U) (ai (aT.pR U U U U U U) (ai (aT.s4 U U U U U U) (ai (aT.s4 U U U U U U) (ai (aT.s4 U U U U U U) (ai bC (ai bf aX)))))))) aY ?_ ah
  exact bP dn λw2 br=>(by rfl)
end Z6
end AE
namespace AE
def Rp:J:= .agg ⟨[.int .i64 0,.int .i64 0,.int .i64 0,.int .i64 0,.int .i64 0,.int .i64 0]⟩
variable [a7]
theorem Z7 {x y r:J} {b:bQ} (hp:dP [x,y]=true) (ao:aL r=true) (bp:ew [x,y]=[X.val b,Rp]) (b1:aI r=Rp):jA Tryd.prog (78,[x,y],r):=
 mo (a:= #[X.val b,Rp]) hp ao bp b1 λw _=>Z6.any w b
end AE
end Go.Proofs.YtepcfjbfkedlpaaDoor
