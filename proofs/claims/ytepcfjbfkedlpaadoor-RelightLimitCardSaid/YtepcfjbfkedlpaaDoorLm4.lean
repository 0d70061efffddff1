/- Parts of the proof. -/
import Derived.Test.YtepcfjbfkedlpaaDoorLm3
import Derived.ProofKit
import Derived.Shelf.Bits.Mul64
import Derived.Ground.Names2Prog
set_option maxRecDepth 100000
set_option maxHeartbeats 4000000
noncomputable section
namespace Go.Proofs.YtepcfjbfkedlpaaDoor
open Go Go.Proofs Go.RowKit
namespace AE
variable {P:aS}
theorem Qn {n:Nat} {s1 s2:a7} (ha:n_ n s1 s2):∀o:Option J,sz.D1 n o=true->o.map (@aJ s1)=o.map (@aJ s2)
 |none,_=>rfl
 |some v,h=>congrArg some (kW ha v h)
theorem aid {n:Nat} {s1 s2:a7} (ha:n_ n s1 s2) (f:gh) (h:sz.v7 n f=true): @x2 s1 f= @x2 s2 f:=by
 cases f<;>simp only [sz.v7,c8] at h<;>unfold x2<;>dsimp only
 case bin=>rw[kW ha _ h.1,kW ha _ h.2]
 case un=>rw[kW ha _ h]
 case conv=>rw[kW ha _ h]
 case mg=>rw[kW ha _ h.1,Qn ha _ h.2.1,Qn ha _ h.2.2.1,Qn ha _ h.2.2.2]
 case dB=>rw[kW ha _ h.1,kW ha _ h.2]
 case fW=>rw[kW ha _ h.1,kW ha _ h.2]
 case bB=>rw[kW ha _ h]
 case cq=>rw[kW ha _ h]
 case dN=>rw[kW ha _ h]
 case len=>rw[kW ha _ h]
 case e5=>rw[kW ha _ h.1,kW ha _ h.2]
 case lS=>rw[kW ha _ h.1,kW ha _ h.2]
 case ea=>rw[kW ha _ h]
 case mB=>rw[kW ha _ h.1,kW ha _ h.2]
theorem Qo {n m:Nat} (hle:n<=m):∀o:Option J,sz.D1 n o=true->sz.D1 m o=true
 |none,_=>rfl
 |some v,h=>nm hle v h
theorem aie {n m:Nat} (hle:n<=m) {f:gh} (h:sz.v7 n f=true):sz.v7 m f=true:=by
 cases f<;>simp only [sz.v7,c8] at h ⊢
 case bin=>exact⟨nm hle _ h.1,nm hle _ h.2⟩
 case un=>exact nm hle _ h
 case conv=>exact nm hle _ h
 case mg=>exact⟨nm hle _ h.1,Qo hle _ h.2.1,Qo hle _ h.2.2.1,Qo hle _ h.2.2.2⟩
 case dB=>exact⟨nm hle _ h.1,nm hle _ h.2⟩
 case fW=>exact⟨nm hle _ h.1,nm hle _ h.2⟩
 case bB=>exact nm hle _ h
 case cq=>exact nm hle _ h
 case dN=>exact nm hle _ h
 case len=>exact nm hle _ h
 case e5=>exact⟨nm hle _ h.1,nm hle _ h.2⟩
 case lS=>exact⟨nm hle _ h.1,nm hle _ h.2⟩
 case ea=>exact nm hle _ h
 case mB=>exact⟨nm hle _ h.1,nm hle _ h.2⟩
theorem aif {n:Nat} {M:Mem} {e1 e2:List J} (ha:n_ n (cY M e1) (cY M e2)) {f:gh} {r:J} (aR:sz.v7 n f=true) (ao:kV n r=true) (h: @aV (cY M e1) P (f,r)): @aV (cY M e2) P (f,r):=by
 obtain⟨ad,ag,ay⟩:=h;refine⟨ad,ag,?_⟩;simp only at ay ⊢;rw[<-aid ha f aR,<-kW ha r ao];exact ay
theorem aih {n:Nat} {M:Mem} {e1 e2:List J} (ha:n_ n (cY M e1) (cY M e2)) {f:FuncId} {args:List J} {r:J} (aR:o9 n args=true) (ao:kV n r=true) (h: @jb (cY M e1) P (f,args,r)): @jb (cY M e2) P (f,args,r):=by
 obtain⟨ad,ag,ay⟩:=h;refine⟨ad,ag,?_⟩;simp only at ay ⊢;rw[<-BJ ha args aR,<-kW ha r ao];exact ay
theorem n_.mono {n m:Nat} {s1 s2:a7} (h:n_ n s1 s2) (hm:m<=n):n_ m s1 s2:=λk al=>h k aj
theorem n_.trans {n:Nat} {s1 s2 sb:a7} (h:n_ n s1 s2) (ag:n_ n s2 sb):n_ n s1 sb:=λk al=>(h k al).trans (ag k al)
section
variable {B:Nat} {W:ax} {az:List cb} {ro:List (iW P)}
def oa (B:Nat) (W:ax) (az:List cb) (L:List (bd P)) (env:List J) (F:j8):Prop:=∀M,bK B (aE W) az M (cP L)->∀ext,@tg (cY M (ext++env)) P F
def ob (B:Nat) (W:ax) (az:List cb) (L:List (bd P)) (env:List J) (T:ke):Prop:=∀M,bK B (aE W) az M (cP L)->∀ext,∀p∈T,@jb (cY M (ext++env)) P p
theorem oa.ext {L:List (bd P)} {env:List J} {F:j8} (h:oa B W az L env F) (vs:List J):oa B W az L (vs++env) F:=λM bw ext=>by
 have:=h M bw (ext++vs)
 rwa [List.append_assoc] at this
theorem ob.ext {L:List (bd P)} {env:List J} {T:ke} (h:ob B W az L env T) (vs:List J):ob B W az L (vs++env) T:=λM bw ext=>by
 have:=h M bw (ext++vs)
 rwa [List.append_assoc] at this
theorem oa.snoc {L:List (bd P)} {env:List J} {n:Nat} {F:j8} (av:env.length=n) (h:oa B W az L env F) {f:gh} {r:J} (aR:∀M,bK B (aE W) az M (cP L)-> @aV (cY M env) P (f,r)) (ad:sz.v7 n f=true) (ag:kV n r=true):oa B W az L env (F++[(f,r)]):=λM bw ext p hp=>by
 rcases List.mem_append.1 hp with hp|hp
 ·exact h M bw ext p hp
 ·rw[List.mem_singleton] at hp
  subst hp;exact aif (uR M M av) ad ag (aR M bw)
theorem ob.snoc {L:List (bd P)} {env:List J} {n:Nat} {T:ke} (av:env.length=n) (h:ob B W az L env T) {f:FuncId} {args:List J} {r:J} (aR:∀M,bK B (aE W) az M (cP L)-> @jb (cY M env) P (f,args,r)) (ad:o9 n args=true) (ag:kV n r=true):ob B W az L env (T++[(f,args,r)]):=λM bw ext p hp=>by
 rcases List.mem_append.1 hp with hp|hp
 ·exact h M bw ext p hp
 ·rw[List.mem_singleton] at hp
  subst hp;exact aih (uR M M av) ad ag (aR M bw)
theorem oa.marks (L:List (bd P)) (env:List J) (l:List aK):oa B W az L env (Gv l):=λM _ ext p hp=>by
 obtain⟨t,_,rfl⟩:=List.mem_map.1 hp;exact @gD (cY M (ext++env)) P (t:Int)
theorem ob.nil (L:List (bd P)) (env:List J):ob B W az L env []:=λ_ _ _ _ h=>by cases h
theorem Yv {L:List (bd P)} (dL:∀M,qh (aE W) az M->hv ro M) {M:Mem} (cO:bK B (aE W) az M (cP L)) {w:ax} (hw:∀i o,M i=some o->w.heap[i]? =some o):qj W az ro L w:=by
 have he:qh (aE W) az (aE w):=λi o ad ag=>hw i o (Gs cO i o ad ag)
 exact⟨cO.sp.mono λb o _ ho=>hw b o ho,dL _ he,he⟩
theorem Yw {L:List (bd P)} (dL:∀M,qh (aE W) az M->hv ro M) {n m:Nat} {env vs:List J} {f:FuncId} {args:List J} {r:J} (av:env.length=n) (ad:fY (vs.reverse++env)) (aL:fY env) (hm:vs.length=m) (ha:o9 n args=true) (hp:dM args=true) (ao:aM r=true)
  (ar:∀w,qj W az ro L w->Calls P f ⟨hO env n args⟩ w λe w'=>e= .returned (ex (vs.reverse++env) (n+m) r)/\cj w.heap.size w w') (M:Mem) (cO:bK B (aE W) az M (cP L)): @jb (cY M (vs.reverse++env)) P (f,args,r):=by
 refine⟨hp,ao,λw hw=> ?_⟩;have gM: @ep (cY M (vs.reverse++env)) args=hO env n args:=by
  rw[<-BJ (uR M M av) args ha];exact tt M aL av args
 have kM: @aJ (cY M (vs.reverse++env)) r=ex (vs.reverse++env) (n+m) r:=lK M ad (by simp [av,hm,Nat.add_comm]) r;simp only;rw[gM,kM];exact ar w (Yv dL cO hw)
end
theorem jq.aii [a7] [cV] [Lib P] {F:j8} {T:ke} {N d B:Nat} {w0 w:ax} {a:Act} {s:b8} {Q:Exit->Act->ax->Prop} (bf:oB Q) (cR:P.follows .mixedOrders=true) (di:tg P F) (eA:se P T) (dT:jq) (h:fA P N B w0 Q (dT.run P F T N d s)) (ah:Here N s B w0 a w):dT.lr P Q a w:=by
 cases dT with
 |k x ks=>
  obtain⟨st,ad,ag⟩:=h;letI:ej P:=⟨F⟩;letI:s' P:=⟨T⟩;have ar:=zy (gl:= .nil) (bq:=1000) cR di eA d;exact p1 cR ar ks x s st Q a w bf ad ag ah
 |ops r os ks=>
  haveI:nb Q:=⟨bf⟩
  exact FA cR di eA h ah
 |any bq os listed ks=>
  obtain⟨st,ad,_⟩:=h;cases ad
section
variable [Lib P] (cf:je) (B:Nat) (W:ax) (az:List cb) (post:J->List (bd P)->Prop)
def KU (e:Ending) (w:ax):Prop:=∃v L',e= .returned v/\post v L'/\cZ (aE W) az (aE w) (cP L')
abbrev mo (M:Mem) (env:List J) (s:b8) (a:Act) (w:ax):Prop:= @Here (cY M env) gp cf.N s B W a w
inductive np:List jk->List (ft P)->(Exit->Act->ax->Prop)->List J->Prop
 |nil (env:List J):np [] [] (@rk gp P cf.fn cf.N B W λe w=>KU W az post e w/\cj B W w) env
 |cons {c:jk} {cs:List jk} {xl:ft P} {aT:List (ft P)} {Q:Exit->Act->ax->Prop} {env df qU:List J} {R:Act->ax->Prop} (gG:env=df++qU) (av:qU.length=c.n) (h:np cs aT Q env)
   (jE:∀M nO L vs bN s a w,bK B (aE W) az M (cP L)->(∃n2,nO=n2++qU)->fY nO->xl (hO nO nO.length vs) L->cr s c.sl c.a1=some bN->D3 c.n vs bN=true->rl c.a1=true->mo cf B W M nO s a w->R a w):np (c::cs) (xl::aT) (Exit.then R (d' P c.ks Q)) env
variable {cf B W az post}
omit [Lib P] in
theorem np.ext {cs:List jk} {aT:List (ft P)} {Q:Exit->Act->ax->Prop} {env:List J} (h:np cf B W az post cs aT Q env) (df:List J):np cf B W az post cs aT Q (df++env):=by
 induction h with
 |nil env=>exact .nil _
 |cons gG av _ jE cA=>exact .cons (df:=df++_) (by rw[gG,List.append_assoc]) av cA jE
omit [Lib P] in
theorem np.calm {cs:List jk} {aT:List (ft P)} {Q:Exit->Act->ax->Prop} {env:List J} (h:np cf B W az post cs aT Q env):oB Q:=by
 induction h with
 |nil env=>exact(inferInstance:nb _).calm
 |cons gG av _ jE cA=>exact(cA.vG _).then _
def pJ (cf:je) (B:Nat) (W:ax) (az:List cb) (ro:List (iW P)) (post:J->List (bd P)->Prop) (G:jH):Prop:=
 ∀n cs dT ev sl a1 F T o t,G n cs dT ev sl a1 F T o=some t->z6 ev (b5 sl a1) sl a1->∀hY df L aT Q,dC B W az ro post n (df++hY) L aT t->(df++hY).length=n->hY.length=ev->fY (df++hY)->np cf B W az post cs aT Q hY->
  oa B W az L (df++hY) F->ob B W az L (df++hY) T->∀M,bK B (aE W) az M (cP L)->∀a w,mo cf B W M hY (b5 sl a1) a w->dT.lr P Q a w
theorem GO (n:Nat) (s:a7):n_ n s s:=λ_ _=>rfl
theorem D7 {M:Mem} {n:Nat} {e1 e2:List J} {s:b8} {sl:aF} {a1:List bx} {a:Act} {w:ax} (ha:n_ n (cY M e1) (cY M e2)) (h:z6 n s sl a1) (ah:mo cf B W M e1 s a w):mo cf B W M e2 (b5 sl a1) a w:=by
 obtain⟨bN,ho,ad,ag⟩:=h;exact @Here.move gp (cY M e1) (cY M e2) _ _ _ _ _ _ _ _ _ ho (GM ha ad) (λ_ _ h=>h) (Nat.zero_le _) (gW ag) ah
omit [Lib P] in
theorem KV {ro:List (iW P)} {G:jH} (fo:pJ cf B W az ro post G) {n:Nat} {cs:List jk} {dT:jq} {F:j8} {T:ke} {sl:aF} {a1:List bx} {go:jq->aF->List bx->Option b1} {t:bX} (h:GD G n cs dT F T sl a1 go=some t) {env:List J} {L:List (bd P)} {aT:List (ft P)} {Q:Exit->Act->ax->Prop} (hw:dC B W az ro post n env L aT t) (av:env.length=n) (ho:fY env)
  (ar:np cf B W az post cs aT Q env) (di:oa B W az L env F) (eA:ob B W az L env T) {M:Mem} (bw:bK B (aE W) az M (cP L)) {a:Act} {w:ax} (ah:sA n a1=true->mo cf B W M env (b5 (nn a1.length n sl) a1) a w):dT.lr P Q a w:=by
 rw[ah0] at h;cases af:sA n a1 with
 |false=>rw[af] at h;cases h
 |true=>
  rw[af,bF] at h;exact fo n cs dT n _ a1 _ _ _ t h (ah_ af) env [] L aT Q hw av av ho ar di eA M bw a w (ah af)
theorem uV {ro:List (iW P)} {G:jH} (fo:pJ cf B W az ro post G) {n:Nat} {cs:List jk} {dT:jq} {sl:aF} {a1:List bx} {t:bX} (h:rE P cf G n cs dT sl a1=some t) {env:List J} {L:List (bd P)} {aT:List (ft P)} {Q:Exit->Act->ax->Prop} (hw:dC B W az ro post n env L aT t) (av:env.length=n) (ho:fY env)
  (ar:np cf B W az post cs aT Q env) {M:Mem} (bw:bK B (aE W) az M (cP L)) {a:Act} {w:ax} (ah:mo cf B W M env (b5 sl a1) a w):dT.lr P Q a w:=
 KV fo h hw av ho ar (oa.marks _ _ _) (ob.nil _ _) bw λaf=>D7 (GO n _) (Yu af) ah
theorem Yx {ro:List (iW P)} {G:jH} (fo:pJ cf B W az ro post G) {n:Nat} {cs:List jk} {dT:jq} {s:b8} {t:bX} (h:KQ P cf G n cs dT s=some t) {env:List J} {L:List (bd P)} {aT:List (ft P)} {Q:Exit->Act->ax->Prop} (hw:dC B W az ro post n env L aT t) (av:env.length=n) (ho:fY env)
  (ar:np cf B W az post cs aT Q env) {M:Mem} (bw:bK B (aE W) az M (cP L)) {a:Act} {w:ax} (ah:mo cf B W M env s a w):dT.lr P Q a w:=by
 unfold KQ at h;cases aw:z1 s with
 |false=>rw[aw] at h;cases h
 |true=>
  rw[aw,bF] at h;exact KV fo h hw av ho ar (oa.marks _ _ _) (ob.nil _ _) bw λaf=>D7 (GO n _) (Ql aw af) ah
theorem Qp {a b:Option bX} {f:bX->bX->bX} {t:bX} (h:two a b f=some t):∃x y,a=some x/\b=some y/\t=f x y:=by
 unfold two at h;split at h
 ·split at h
  ·cases h;exact⟨_,_,rfl,rfl,rfl⟩
  ·cases h
 ·cases h
omit [Lib P] in
theorem Qq {ro:List (iW P)} (dL:∀M,qh (aE W) az M->hv ro M) {G:jH} (fo:pJ cf B W az ro post G) {n:Nat} {cs:List jk} {dT:jq} {ev:Nat} {sl:aF} {a1:List bx} {F:j8} {T:ke} {go:j8->Option b1} {x:gh×J×Nat×Bool} {t:bX} (h:GF P G n cs dT ev sl a1 F T go x=some t) (nF:z6 ev (b5 sl a1) sl a1)
  {hY df:List J} {L:List (bd P)} {aT:List (ft P)} {Q:Exit->Act->ax->Prop} (hw:dC B W az ro post n (df++hY) L aT t) (av:(df++hY).length=n) (fc:hY.length=ev) (ho:fY (df++hY)) (ar:np cf B W az post cs aT Q hY) (di:oa B W az L (df++hY) F) (eA:ob B W az L (df++hY) T)
  (M:Mem) (bw:bK B (aE W) az M (cP L)) (a:Act) (w:ax) (ah:mo cf B W M hY (b5 sl a1) a w):dT.lr P Q a w:=by
 obtain⟨f,r,m,b⟩:=x;unfold GF at h;simp only at h;cases hu:sz.v7 n f with
 |false=>rw[hu] at h;cases h
 |true=>
  rw[hu,bF] at h;cases b with
  |true=>
   rw[bF] at h;obtain⟨de,dv,e1,e2,rfl⟩:=Qp h;cases hw with
   |s b aR ad ag=>
    have ow:∀M,bK B (aE W) az M (cP L)-> @aV (cY M (df++hY)) P (f,.bool b):=λM bw=>aR M bw (dL M (Gs bw))
    cases b with
    |true=>exact fo n cs dT ev sl a1 _ T _ de e1 nF hY df L aT Q (ad rfl) av fc ho ar (di.snoc av ow hu rfl) eA M bw a w ah
    |false=>exact fo n cs dT ev sl a1 _ T _ dv e2 nF hY df L aT Q (ag rfl) av fc ho ar (di.snoc av ow hu rfl) eA M bw a w ah
  |false=>
   rw[eD] at h;cases ao:kV (n+m) r with
   |false=>rw[ao] at h;cases h
   |true=>
    rw[ao,bF] at h;obtain⟨k,e,rfl⟩:=Option.map_eq_some_iff.1 h;cases hw with
    |o vs hm ad aR al=>
     have hl:(vs.reverse++(df++hY)).length=n+m:=by simp only [List.length_append,List.length_reverse] at av ⊢;omega
     rw[<-List.append_assoc] at al hl;have aij:sz.v7 (n+m) f=true:=aie (Nat.le_add_right n m) hu;refine fo (n+m) cs dT ev sl a1 _ T _ k e nF hY (vs.reverse++df) L aT Q al hl fc ?_ ar ?_ ?_ M bw a w ah
     ·rw[List.append_assoc];exact ts (qg ad) ho
     ·refine oa.snoc hl ?_ (λM bw=> ?_) aij ao
      ·rw[List.append_assoc];exact di.ext _
      ·rw[List.append_assoc];exact aR M bw (dL M (Gs bw))
     ·rw[List.append_assoc];exact eA.ext _
omit [Lib P] in
theorem Qr {ro:List (iW P)} (dL:∀M,qh (aE W) az M->hv ro M) {G:jH} (fo:pJ cf B W az ro post G) {n:Nat} {cs:List jk} {dT:jq} {ev:Nat} {sl:aF} {a1:List bx} {F:j8} {T:ke} {go:ke->Option b1} {x:FuncId×List J×J×Nat×Bool} {t:bX} (h:GG G n cs dT ev sl a1 F T go x=some t) (nF:z6 ev (b5 sl a1) sl a1)
  {hY df:List J} {L:List (bd P)} {aT:List (ft P)} {Q:Exit->Act->ax->Prop} (hw:dC B W az ro post n (df++hY) L aT t) (av:(df++hY).length=n) (fc:hY.length=ev) (ho:fY (df++hY)) (ar:np cf B W az post cs aT Q hY) (di:oa B W az L (df++hY) F) (eA:ob B W az L (df++hY) T)
  (M:Mem) (bw:bK B (aE W) az M (cP L)) (a:Act) (w:ax) (ah:mo cf B W M hY (b5 sl a1) a w):dT.lr P Q a w:=by
 obtain⟨f,args,r,m,b⟩:=x;unfold GG at h;simp only at h;cases hu:o9 n args&&dM args with
 |false=>rw[hu] at h;cases h
 |true=>
  rw[hu,bF] at h;simp only [c8] at hu;obtain⟨hu,hp⟩:=hu;cases b with
  |true=>
   rw[bF] at h;obtain⟨de,dv,e1,e2,rfl⟩:=Qp h;cases hw with
   |cs b A9 ad ag=>
    have ow:∀M,bK B (aE W) az M (cP L)-> @jb (cY M (df++hY)) P (f,args,.bool b):=λM bw=>Yw (vs:=[]) (m:=0) dL av ho ho rfl hu hp rfl A9 M bw
    cases b with
    |true=>exact fo n cs dT ev sl a1 F _ _ de e1 nF hY df L aT Q (ad rfl) av fc ho ar di (eA.snoc av ow hu rfl) M bw a w ah
    |false=>exact fo n cs dT ev sl a1 F _ _ dv e2 nF hY df L aT Q (ag rfl) av fc ho ar di (eA.snoc av ow hu rfl) M bw a w ah
  |false=>
   rw[eD] at h;cases ao:kV (n+m) r&&aM r with
   |false=>rw[ao] at h;cases h
   |true=>
    rw[ao,bF] at h;simp only [c8] at ao;obtain⟨ao,AS⟩:=ao;obtain⟨k,e,rfl⟩:=Option.map_eq_some_iff.1 h;cases hw with
    |c vs hm ad A9 al=>
     have hl:(vs.reverse++(df++hY)).length=n+m:=by simp only [List.length_append,List.length_reverse] at av ⊢;omega
     have mb:fY (vs.reverse++(df++hY)):=ts (qg ad) ho;rw[<-List.append_assoc] at al hl;refine fo (n+m) cs dT ev sl a1 F _ _ k e nF hY (vs.reverse++df) L aT Q al hl fc ?_ ar ?_ ?_ M bw a w ah
     ·rw[List.append_assoc];exact mb
     ·rw[List.append_assoc];exact di.ext _
     ·refine ob.snoc hl ?_ (λM bw=> ?_) (DZ (Nat.le_add_right n m) _ hu) ao
      ·rw[List.append_assoc];exact eA.ext _
      ·rw[List.append_assoc];exact Yw dL av mb ho hm hu hp AS A9 M bw
theorem aik {ro:List (iW P)} {G:jH} (fo:pJ cf B W az ro post G) {n:Nat} {cs:List jk} {x:ll} {s:b8} {t:bX} (h:P3 P cf G n cs x s=some t) {env:List J} {L:List (bd P)} {aT:List (ft P)} {Q:Exit->Act->ax->Prop} (hw:dC B W az ro post n env L aT t) (av:env.length=n) (ho:fY env)
  (ar:np cf B W az post cs aT Q env) {M:Mem} (bw:bK B (aE W) az M (cP L)) {a:Act} {w:ax} (ah:mo cf B W M env s a w):Q x.exit' a w:=by
 unfold P3 at h;split at h
 ·split at h
  ·rename_i v aC
   cases h;cases ar;cases hw with
   |ret L' hL hp=>
    letI:=cY M env;letI:=gp;refine VZ aC (λw2 hl ai=> ?_) a w ah;refine⟨⟨_,L',?_,hp,(hL M bw).done ai⟩,hl⟩;rw[lK M ho av v]
  ·split at h
   ·rename_i t x AN
    cases hp:aM x with
    |false=>rw[hp] at h;cases h
    |true=>
     rw[hp,bF,cQ] at h;subst h;cases ar;cases hw with
     |tv i hL aq ha aw aC ai L' eA ail=>
      letI:=cY M env;letI:=gp;obtain⟨st,e,c0⟩:=OU (R:=λe w=>KU W az post e w/\cj B W w) AN hp ((lK M ho av x).trans aq) (bw.box i (l3 hL)) ha aw aC (ai _) (λw2 hl DU=>⟨⟨_,L',rfl,ail,(eA M bw).done DU⟩,hl⟩);cases e;exact c0 a w ah
   ·cases h
 ·rename_i c cs'
  cases ar with
  | @cons _ _ xl ao' ao_ _ df qU R gG iy AR jE=>
    split at h
    ·split at h
     ·rename_i bN ig
      cases af:D3 c.n (KL bN c.m c.n) bN&&rl c.a1 with
      |false=>rw[af] at h;cases h
      |true=>
       rw[af,bF,cQ] at h;subst h;simp only [c8] at af;cases hw with
       |back GQ=>exact jE M env L _ bN s a w bw ⟨df,gG⟩ ho (by rw[av];exact GQ) ig af.1 af.2 ah
     ·cases h
    ·rename_i aq
     obtain⟨k,e,rfl⟩:=Option.map_eq_some_iff.1 h;cases hw with
     |fH al=>
      have:=Yx fo e al av ho AR bw ah;exact Ju (P:=P) (y:= .skip) (λh=>aq h) this _
theorem aim {ro:List (iW P)} {G:jH} (fo:pJ cf B W az ro post G) {n:Nat} {cs:List jk} {body:Code} {s:b8} {ks:List fl} {t:bX} (h:P4 P cf G n cs body s ks=some t) {env:List J} {L:List (bd P)} {aT:List (ft P)} {Q:Exit->Act->ax->Prop} (hw:dC B W az ro post n env L aT t) (av:env.length=n) (ho:fY env)
  (ar:np cf B W az post cs aT Q env) {M:Mem} (bw:bK B (aE W) az M (cP L)) {a:Act} {w:ax} (ah:mo cf B W M env s a w):(Code.loop body).wpIn (Fr none) 0 P (d' P ks Q) a w:=by
 unfold P4 at h;split at h
 ·rename_i m hm
  exact wpIn_loop_rounds m (Yx fo h hw av ho ar bw ah)
 split at h
 ·rename_i qi o_ vs s9
  split at h
  ·rename_i bN ig
   cases af:D3 n vs bN&&rl o_ with
   |false=>rw[af] at h;cases h
   |true=>
    rw[af,bF] at h;simp only [c8] at af;obtain⟨k,e,rfl⟩:=Option.map_eq_some_iff.1 h;cases hw with
    |loop bt br ca gf iR mh hm ad aL hL bh al=>
     letI:=gp;refine VO (N:=cf.N) (B:=B) (w0:=W) (X:=Mem×bt) (λx=>cY x.1 ((br x.2).reverse++env)) (b5 qi o_) (λx=>bK B (aE W) az x.1 (cP (ca x.2))/\gf x.2) (λx=>iR x.2) (λx aq eG w1 lW=> ?_) (M,mh) ⟨hL M bw,bh⟩ ?_
     ·obtain⟨nj,u⟩:=x
      obtain⟨su,iH⟩:=aq;refine uV (dT:= .k .normal [.na body]) (cs:=⟨qi,o_,n,vs.length,ks⟩::cs) (Q:=Exit.then (λa6 w'=>∃x':Mem×bt,(bK B (aE W) az x'.1 (cP (ca x'.2))/\gf x'.2)/\iR x'.2<iR u/\mo cf B W x'.1 ((br x'.2).reverse++env) (b5 qi o_) a6 w') (d' P ks Q)) fo e (al u iH) (by simp [av,hm,Nat.add_comm]) (ts (qg (ad u)) ho) ?_ su lW;refine .cons (df:=(br u).reverse) (qU:=env) rfl av (ar.ext _) ?_;intro nk nO kp Yy ain s2 a2 w2 Qs BP AK GQ dg Qt jm hV;obtain⟨n2,BP⟩:=BP;obtain⟨u',Qu,By,mE,eA⟩:=GQ;exact⟨(nk,u'),⟨eA nk Qs,Qu⟩,By,@Here.move gp (cY nk nO) (cY nk ((br u').reverse++env)) _ _ _ _ _ _ _ _ _ dg (Qm BP av AK (ad u') mE.symm Qt) (λ_ _ h=>h) (Nat.zero_le _) (gW jm) hV⟩
     ·exact @Here.move gp (cY M env) (cY M ((br mh).reverse++env)) _ _ _ _ _ _ _ _ _ ig (Qm (n2:=[]) rfl av ho (ad mh) (by rw[av];exact aL.symm) af.1) (λ_ _ h=>h) (Nat.zero_le _) (gW af.2) ah
  ·cases h
 ·cases h
theorem GR {M:Mem} {n:Nat} {env:List J} {v u:J} {s:b8} {sl:aF} {a1:List bx} {a:Act} {w:ax} (aC: @aJ (cY M env) v= @aJ (cY M env) u) (h:uT n v u s sl a1=true) (ah:mo cf B W M env s a w):mo cf B W M env (b5 sl a1) a w:=by
 unfold uT at h;simp only [c8] at h;obtain⟨ad,ag⟩:=h;split at ad
 ·rename_i bN ho
  exact @Here.move gp (cY M env) (cY M env) _ _ _ _ _ _ _ _ _ ho (aia (GO n _) aC ad) (λ_ _ h=>h) (Nat.zero_le _) (gW ag) ah
 ·cases ad
theorem Qv {ro:List (iW P)} {G:jH} (fo:pJ cf B W az ro post G) {n:Nat} {cs:List jk} {v:J} {s:b8} {iA jf:jq} {t:bX} (h:GK P cf G n cs v s iA jf=some t) {env:List J} {L:List (bd P)} {aT:List (ft P)} {Q:Exit->Act->ax->Prop} (hw:dC B W az ro post n env L aT t) (av:env.length=n) (ho:fY env)
  (ar:np cf B W az post cs aT Q env) {M:Mem} (bw:bK B (aE W) az M (cP L)) {a:Act} {w:ax} (ah:mo cf B W M env s a w):∃b,@aJ (cY M env) v= .bool b/\(bif b then iA else jf).lr P Q a w:=by
 unfold GK at h;split at h
 ·rename_i b gX
  cases af:uT n v (.bool b) s (kE n v (.bool b) s).1 (kE n v (.bool b) s).2 with
  |false=>rw[af] at h;cases h
  |true=>
   rw[af,bF] at h;obtain⟨k,e,rfl⟩:=Option.map_eq_some_iff.1 h;have key:∀b',ex env n v= .bool b'->b'=b->dC B W az ro post n env L aT k->∃b,@aJ (cY M env) v= .bool b/\(bif b then iA else jf).lr P Q a w:=λb' aq eh al=>by
    subst eh;have ai: @aJ (cY M env) v= .bool b':=(lK M ho av v).trans aq;exact⟨b',ai,uV fo e al av ho ar bw (GR (by rw[ai];rfl) af ah)⟩
   cases b with
   |true=>
    rw[bF] at hw;cases hw with
    |e_ b aq ad ag=>
     cases b with
     |true=>exact key _ aq rfl (ad rfl)
     |false=>cases ag rfl
   |false=>
    rw[eD] at hw;cases hw with
    |e_ b aq ad ag=>
     cases b with
     |true=>cases ad rfl
     |false=>exact key _ aq rfl (ag rfl)
 cases af:uT n v (.bool true) s (kE n v (.bool true) s).1 (kE n v (.bool true) s).2&&uT n v (.bool false) s (kE n v (.bool false) s).1 (kE n v (.bool false) s).2 with
 |false=>rw[af] at h;cases h
 |true=>
  rw[af,bF] at h;simp only [c8] at af;obtain⟨de,dv,e1,e2,rfl⟩:=Qp h;cases hw with
  |e_ b aq ad ag=>
   have ai: @aJ (cY M env) v= .bool b:=(lK M ho av v).trans aq;refine⟨b,ai,?_⟩;cases b with
   |true=>exact uV fo e1 (ad rfl) av ho ar bw (GR (by rw[ai];rfl) af.1 ah)
   |false=>exact uV fo e2 (ag rfl) av ho ar bw (GR (by rw[ai];rfl) af.2 ah)
theorem aio {ro:List (iW P)} {G:jH} (fo:pJ cf B W az ro post G) {n:Nat} {cs:List jk} {v:J} {s:b8} {x y:Code} {ks:List fl} {qi:aF} {o_:List bx} {m:Nat} {t:bX} (h:P9 P cf G n cs v s x y ks qi o_ m=some t) {env:List J} {L:List (bd P)} {aT:List (ft P)} {Q:Exit->Act->ax->Prop} (hw:dC B W az ro post n env L aT t) (av:env.length=n) (ho:fY env)
  (ar:np cf B W az post cs aT Q env) {M:Mem} (bw:bK B (aE W) az M (cP L)) {a:Act} {w:ax} (ah:mo cf B W M env s a w):∃b,@aJ (cY M env) v= .bool b/\(if b then x else y).wpIn (Fr none) 0 P (d' P ks Q) a w:=by
 unfold P9 at h;cases af:uT n v (.bool true) s (kE n v (.bool true) s).1 (kE n v (.bool true) s).2&&uT n v (.bool false) s (kE n v (.bool false) s).1 (kE n v (.bool false) s).2 with
 |false=>rw[af] at h;cases h
 |true=>
  rw[af,bF] at h;simp only [c8] at af;split at h
  ·rename_i de e1
   split at h
   ·rename_i dv e2
    obtain⟨k,e3,rfl⟩:=Option.map_eq_some_iff.1 h;cases hw with
    |vZ b aq bt br ca gf hm Iy ad ag al=>
     have ai: @aJ (cY M env) v= .bool b:=(lK M ho av v).trans aq;refine⟨b,ai,?_⟩
     let R:Act->ax->Prop:=λa6 w'=>∃x':Mem×bt,(bK B (aE W) az x'.1 (cP (ca x'.2))/\gf x'.2)/\mo cf B W x'.1 ((br x'.2).reverse++env) (b5 qi o_) a6 w'
     have Yz:np cf B W az post (⟨qi,o_,n,m,ks⟩::cs) ((λcN L'=>∃u',gf u'/\cN=br u'/\pI B W az L' (ca u'))::aT) (Exit.then R (d' P ks Q)) env:=by
      refine .cons (df:=[]) (qU:=env) rfl av ar ?_;intro nk nO kp Yy ain s2 a2 w2 Qs BP AK GQ dg Qt jm hV;obtain⟨n2,BP⟩:=BP;obtain⟨u',Qu,mE,eA⟩:=GQ;exact⟨(nk,u'),⟨eA nk Qs,Qu⟩,@Here.move gp (cY nk nO) (cY nk ((br u').reverse++env)) _ _ _ _ _ _ _ _ _ dg (Qm BP av AK (Iy u') mE.symm Qt) (λ_ _ h=>h) (Nat.zero_le _) (gW jm) hV⟩
     have fU:∀e a6 w',Exit.then R (d' P ks Q) e a6 w'->d' P ks Q e a6 w':=λe a6 w' hp=>by
      cases e with
      |normal=>
       obtain⟨⟨nj,u⟩,⟨su,iH⟩,lW⟩:=hp;exact uV (dT:= .k .normal ks) fo e3 (al u iH) (by simp [av,hm,Nat.add_comm]) (ts (qg (Iy u)) ho) (ar.ext _) su lW
      |_=>exact hp
     cases b with
     |true=>exact wpIn_mono (uV (dT:= .k .normal [.na x]) fo e1 (ad rfl) av ho Yz bw (GR (by rw[ai];rfl) af.1 ah)) fU
     |false=>exact wpIn_mono (uV (dT:= .k .normal [.na y]) fo e2 (ag rfl) av ho Yz bw (GR (by rw[ai];rfl) af.2 ah)) fU
   ·cases h
  ·cases h
theorem YA {M:Mem} {env:List J} {s:b8} {a:Act} {w:ax} {c:Operand} (hp:aM (dH .nil s.sl c)=true) (ah:mo cf B W M env s a w):a.eval c= @aJ (cY M env) (dH .nil s.sl c):=by
 letI:=cY M env;obtain⟨⟨φ,ds,ad,ag,ay,bG,_⟩,cJ,cU⟩:=ah;exact aD.jj _ hp (gU (iG φ) ag.get c)
end
end AE
namespace AE
variable {P:aS} [Lib P] {cf:je} {B:Nat} {W:ax} {az:List cb} {post:J->List (bd P)->Prop} {ro:List (iW P)}
omit [Lib P] in
theorem xm {N n:Nat} {s:b8} {dst:Option Tmp} {r:J} {q:aF×List bx} (h:uU N n s dst r=some q):∃ef bN,cr s ef q.2=some bN/\oH n bN/\rl q.2=true/\g' N ef dst r=some q.1/\Nat.blt n eZ=true:=by
 unfold uU at h;dsimp only at h;cases af:Nat.blt n eZ&&(z1 s&&sA n (zZ n s).2) with
 |false=>rw[af] at h;cases h
 |true=>
  rw[af,bF] at h;simp only [c8] at af;obtain⟨aA,aw,af⟩:=af;obtain⟨bN,ho,ad,ag⟩:=Ql aw af;split at h
  ·rename_i sl hp
   cases h;exact⟨_,bN,ho,ad,ag,hp,aA⟩
  ·cases h
theorem YB (M M':Mem) {env:List J} {n:Nat} (av:env.length=n):n_ n (cY M env) (cY M' env):=uR M M' (df:=[]) av
theorem uW {M:Mem} {n:Nat} {env:List J} {v:J} (aA:Nat.blt n eZ=true) (av:env.length=n) (ho:fY env) (ad:o3 v=v): @aJ (cY M (v::env)) (ak n)=v:=by
 rw[lK M (env:=v::env) (n:=n+1) ⟨ad,ho⟩ (by simp [av])];show (bif Nat.beq 0 0 then (bif Nat.blt n eZ then look (v::env) (n+1) n else .pointer (some ⟨n-eZ,0,none⟩)) else .complex .f64 n 0)=v;rw[show Nat.beq 0 0=true from rfl,bF,aA,bF];unfold look;rw[show Nat.beq (n+1-1) n=true by rw[Nat.add_sub_cancel];exact Nat.beq_refl n,bF]
omit [Lib P] in
theorem wb (L:List (bd P)) (i:Nat) (r:bd P):cP (L.set i r)=(cP L).set i r.res:=List.map_set
structure qk (cf:je) (B:Nat) (W:ax) (az:List cb) (ro:List (iW P)) (post:J->List (bd P)->Prop) (NX:Nat->aF->List bx->Option bX) (o:Option b1) (n:Nat) (env:List J) (L:List (bd P)) (aT:List (ft P)) (Q:Exit->Act->ax->Prop) (M:Mem):Prop where
 dL:∀M,qh (aE W) az M->hv ro M
 av:env.length=n
 ho:fY env
 bw:bK B (aE W) az M (cP L)
 cont:∀{m:Nat} {sl:aF} {a1:List bx} {k:bX} {df:List J} {L':List (bd P)} {M':Mem} {a:Act} {w:ax},NX (n+m) sl a1=some k->dC B W az ro post (n+m) (df++env) L' aT k->df.length=m->fY df->bK B (aE W) az M' (cP L')->mo cf B W M' (df++env) (b5 sl a1) a w->wpListIn (Fr none) 0 P (kP o) (d' P (gC o) Q) (kO o) a w
section
variable {NX:Nat->aF->List bx->Option bX} {n:Nat} {env:List J} {L:List (bd P)} {aT:List (ft P)} {Q:Exit->Act->ax->Prop} {M:Mem} {o:Option b1}
omit [Lib P] in
theorem qk.rest (H:qk cf B W az ro post NX o n env L aT Q M) {m:Nat} {sl:aF} {a1:List bx} {k:bX} (h:NX (n+m) sl a1=some k) {df:List J} {L':List (bd P)} (hw:dC B W az ro post (n+m) (df++env) L' aT k) (hm:df.length=m) (ad:fY df) {M':Mem} (qM:bK B (aE W) az M' (cP L')) {a:Act} {w:ax} (ah:mo cf B W M' (df++env) (b5 sl a1) a w):
 wpListIn (Fr none) 0 P (kP o) (d' P (gC o) Q) (kO o) a w:=H.cont h hw hm ad qM ah
omit [Lib P] in
theorem aip (H:qk cf B W az ro post NX o n env L aT Q M) {e:lu} (he:PL cf n o=some e) {k:bX} (h:NX (n+e.2.2.2) e.2.1 e.2.2.1=some k) (hw:dC B W az ro post n env L aT (e.1 k)): @fA (cY M env) gp P cf.N B W Q o:=by
 unfold PL at he;split at he
 ·rename_i t p x c0
  cases af:aM p&&aM x with
  |false=>rw[af] at he;cases he
  |true=>
   rw[af,bF] at he;simp only [c8] at af;obtain⟨hp,aq⟩:=af;obtain⟨q,bf,rfl⟩:=Option.map_eq_some_iff.1 he;obtain⟨ef,bN,dg,ig,jm,eL,_⟩:=xm bf;letI:=gp;have hm:∀M',fO (cY M env) (cY M' env) bN:=λM'=>GM (YB M M' H.av) ig
   have hE:=λv=>lK M H.ho H.av v
   cases hw with
   |Qh i hL BQ BR hj hu ad cv al=>
    refine WA (bm:=env.reverse) rfl c0 cv dg eL hp aq ((hE p).trans BQ) ((hE x).trans BR) hu ad (H.bw.box i (l3 hL)) hj hm (λM' lo cC a6 w ah=> ?_) (Nat.zero_le _) (gW jm);refine H.rest (m:=0) (df:=[]) h al rfl trivial (M':=M') ?_ ah;rw[wb];exact H.bw.lZ i (l3 hL) (vO lo cC)
   |Yl i hL BQ BR hj hu ad cv al=>
    refine OO (bm:=env.reverse) rfl c0 cv dg eL hp aq ((hE p).trans BQ) ((hE x).trans BR) hu ad (H.bw.box i (l3 hL)) hj hm (λM' lo cC a6 w ah=> ?_) (Nat.zero_le _) (gW jm);refine H.rest (m:=0) (df:=[]) h al rfl trivial (M':=M') ?_ ah;rw[wb];exact H.bw.lZ i (l3 hL) (vO lo cC)
   | @Ym _ _ _ _ _ _ _ _ d K v l i j y u hL BQ ai BR hj hu ad bE cv al=>
     refine WJ (bm:=env.reverse) rfl c0 cv K.len hj bE dg eL hp aq ((hE p).trans BQ) ((hE x).trans BR) hu ad (H.bw.arr d (l3 hL)) ai hm (λM' lo cC a6 w ah=> ?_) (Nat.zero_le _) (gW jm);refine H.rest (m:=0) (df:=[]) h al rfl trivial (M':=M') ?_ ah;rw[wb];exact H.bw.lZ d (l3 hL) (Bu lo cC)
   | @ah5 _ _ _ _ _ _ _ _ d K v l i y hL BQ ai BR cv al=>
     refine afr (bm:=env.reverse) rfl c0 cv K.len K.one dg eL hp aq ((hE p).trans BQ) ((hE x).trans BR) (H.bw.arr d (l3 hL)) ai hm (λM' lo cC a6 w ah=> ?_) (Nat.zero_le _) (gW jm);refine H.rest (m:=0) (df:=[]) h al rfl trivial (M':=M') ?_ ah;rw[wb];exact H.bw.lZ d (l3 hL) (Bu lo cC)
 ·cases he
omit [Lib P] in
theorem xn (H:qk cf B W az ro post NX o n env L aT Q M) {bN:eH} (ig:oH n bN) (M':Mem) (v:J):fO (cY M env) (cY M' (v::env)) bN:=GM (uR M M' (df:=[v]) H.av) ig
omit [Lib P] in
theorem aiq (H:qk cf B W az ro post NX o n env L aT Q M) {e:lu} (he:PN P cf n o=some e) {k:bX} (h:NX (n+e.2.2.2) e.2.1 e.2.2.1=some k) (hw:dC B W az ro post n env L aT (e.1 k)): @fA (cY M env) gp P cf.N B W Q o:=by
 unfold PN at he;split at he
 ·rename_i vs x uh
  cases hp:aM vs with
  |false=>rw[hp] at he;cases he
  |true=>
   rw[hp,bF] at he;split at he
   ·rename_i c fT
    cases zv:dM c with
    |false=>rw[zv] at he;cases he
    |true=>
     rw[zv,bF] at he;obtain⟨q,bf,rfl⟩:=Option.map_eq_some_iff.1 he;obtain⟨ef,bN,dg,ig,jm,eL,aA⟩:=xm bf;letI:=gp;have hE:=λv=>lK M H.ho H.av v
     have KW:=λv=>tt M H.ho H.av v
     have cv:∀K:ju P,P.underlying (yH o)=some (.slice K.e)->PM P (yH o)=K.k:=λK aN=>by
      unfold PM elemOf;rw[aN];simp only;rw[K.size]
     cases hw with
     | @Yn _ _ _ _ _ _ _ _ d K v l lx hL aw aq aN iS af al=>
       obtain⟨KX,z,ai,bW,wc,jY,mj⟩:=K.info;refine Wb (l':=l++lx) (bm:=λa c=>(.slice a (l++lx).length c::env).reverse) (eO:=ak n) rfl uh aN ai bW wc jY mj K.pos K.len K.one dg eL rfl (eP v)
        (FC hp ((hE vs).trans aw) (H.bw.arr d (l3 hL))) (Dy (by rw[cv K aN] at fT;exact fT) K.len K.pos ((KW c).trans aq)) iS af (λM' a c=>xn H ig M' _) (λM' a c=>uW aA H.av H.ho rfl)
        (λM' a c lo cC eA aR a6 w ah=> ?_) (Nat.zero_le _) (gW jm)
       refine H.rest (m:=1) (df:=[.slice a (l++lx).length c]) h (al a c) rfl ⟨rfl,trivial⟩ (M':=M') ?_ ah;rw[wb];exact H.bw.lZ d (l3 hL) (ON lo cC aR)
     | @ah6 _ _ _ _ _ _ _ _ d K v l lx hL aw aq aN iS af al=>
       obtain⟨KX,z,ai,bW,wc,jY,mj⟩:=K.info;refine J3 (l':=l++lx) (bm:=λa c=>(.slice a (l++lx).length c::env).reverse) (eO:=ak n) rfl uh aN ai bW wc jY mj K.pos K.len K.one dg eL rfl (eP v)
        (J4 hp ((hE vs).trans aw) (H.bw.iT d (l3 hL))) (Dy (by rw[cv K aN] at fT;exact fT) K.len K.pos ((KW c).trans aq)) iS af (λM' a c=>xn H ig M' _) (λM' a c=>uW aA H.av H.ho rfl)
        (λM' a c lo cC aR a6 w ah=> ?_) (Nat.zero_le _) (gW jm)
       refine H.rest (m:=1) (df:=[.slice a (l++lx).length c]) h (al a c) rfl ⟨rfl,trivial⟩ (M':=M') ?_ ah;rw[wb];exact H.bw.lZ d (l3 hL) (FN lo cC aR)
   ·cases he
 ·cases he
omit [Lib P] in
theorem air (H:qk cf B W az ro post NX o n env L aT Q M) {e:lu} (he:PO cf n o=some e) {k:bX} (h:NX (n+e.2.2.2) e.2.1 e.2.2.1=some k) (hw:dC B W az ro post n env L aT (e.1 k)): @fA (cY M env) gp P cf.N B W Q o:=by
 unfold PO at he;split at he
 ·rename_i vs x uh
  cases af:aM vs&&aM x with
  |false=>rw[af] at he;cases he
  |true=>
   rw[af,bF] at he;simp only [c8] at af;obtain⟨hp,lq⟩:=af;obtain⟨q,bf,rfl⟩:=Option.map_eq_some_iff.1 he;obtain⟨ef,bN,dg,ig,jm,eL,aA⟩:=xm bf;letI:=gp;have hE:=λv=>lK M H.ho H.av v
   cases hw with
   | @ah7 _ _ _ _ _ _ _ _ d K v l lL lx hL aw aq aN jZ iS af al=>
     obtain⟨KX,z,ai,bW,wc,jY,mj⟩:=K.info;refine Wb (l':=l++lx) (bm:=λa c=>(.slice a (l++lx).length c::env).reverse) (eO:=ak n) rfl uh aN ai bW wc jY mj K.pos K.len K.one dg eL rfl (eP v)
      (FC hp ((hE vs).trans aw) (H.bw.arr d (l3 hL))) (zG lq ((hE x).trans aq) λw hw=>(jZ M H.bw (H.dL M (Gs H.bw))).reads K.len hw) iS af (λM' a c=>xn H ig M' _) (λM' a c=>uW aA H.av H.ho rfl)
      (λM' a c lo cC eA aR a6 w ah=> ?_) (Nat.zero_le _) (gW jm)
     refine H.rest (m:=1) (df:=[.slice a (l++lx).length c]) h (al a c) rfl ⟨rfl,trivial⟩ (M':=M') ?_ ah;rw[wb];exact H.bw.lZ d (l3 hL) (ON lo cC aR)
   | @Yo _ _ _ _ _ _ _ _ d K v l lL lx hL aw aq aN jZ iS af al=>
     obtain⟨KX,z,ai,bW,wc,jY,mj⟩:=K.info;refine J3 (l':=l++lx) (bm:=λa c=>(.slice a (l++lx).length c::env).reverse) (eO:=ak n) rfl uh aN ai bW wc jY mj K.pos K.len K.one dg eL rfl (eP v)
      (J4 hp ((hE vs).trans aw) (H.bw.iT d (l3 hL))) (zG lq ((hE x).trans aq) λw hw=>(jZ M H.bw (H.dL M (Gs H.bw))).reads K.len hw) iS af (λM' a c=>xn H ig M' _) (λM' a c=>uW aA H.av H.ho rfl)
      (λM' a c lo cC aR a6 w ah=> ?_) (Nat.zero_le _) (gW jm)
     refine H.rest (m:=1) (df:=[.slice a (l++lx).length c]) h (al a c) rfl ⟨rfl,trivial⟩ (M':=M') ?_ ah;rw[wb];exact H.bw.lZ d (l3 hL) (FN lo cC aR)
 ·cases he
omit [Lib P] in
theorem D8 (L:List (bd P)) (r:bd P):cP (L++[r])=cP L++[r.res]:=List.map_append
omit [Lib P] in
theorem ais (H:qk cf B W az ro post NX o n env L aT Q M) {e:lu} (he:PQ cf n o=some e) {k:bX} (h:NX (n+e.2.2.2) e.2.1 e.2.2.1=some k) (hw:dC B W az ro post n env L aT (e.1 k)): @fA (cY M env) gp P cf.N B W Q o:=by
 unfold PQ at he;split at he
 ·rename_i t x c0
  cases lq:aM x with
  |false=>rw[lq] at he;cases he
  |true=>
   rw[lq,bF] at he;obtain⟨q,bf,rfl⟩:=Option.map_eq_some_iff.1 he;obtain⟨ef,bN,dg,ig,jm,eL,aA⟩:=xm bf;letI:=gp;have hE:=λv=>lK M H.ho H.av v
   cases hw with
   | @mk _ _ _ _ _ _ _ K z m aN bW aq iS af ar al=>
     obtain⟨KX,YC,ai,bW,wc,jY,qz⟩:=bW;refine WO (l':=List.replicate m z) (bm:=λa c=>(.slice a (List.replicate m z).length c::env).reverse) (eO:=ak n) rfl c0 aN ai bW wc jY qz K.len dg eL rfl lq ((hE x).trans aq) iS af ar (λM' a c=>xn H ig M' _) (λM' a c=>uW aA H.av H.ho rfl)
      (λM' a c lo cC aR a6 w ah=> ?_) (Nat.zero_le _) (gW jm)
     refine H.rest (m:=1) (df:=[.slice a (List.replicate m z).length c]) h (al a c) rfl ⟨rfl,trivial⟩ (M':=M') ?_ ah;rw[D8];exact H.bw.new (JZ lo cC aR)
 ·cases he
omit [Lib P] in
theorem ait (H:qk cf B W az ro post NX o n env L aT Q M) {e:lu} (he:PR cf n o=some e) {k:bX} (h:NX (n+e.2.2.2) e.2.1 e.2.2.1=some k) (hw:dC B W az ro post n env L aT (e.1 k)): @fA (cY M env) gp P cf.N B W Q o:=by
 unfold PR at he;split at he
 ·rename_i t x c0
  cases lq:aM x with
  |false=>rw[lq] at he;cases he
  |true=>
   rw[lq,bF] at he;obtain⟨q,bf,rfl⟩:=Option.map_eq_some_iff.1 he;obtain⟨ef,bN,dg,ig,jm,eL,aA⟩:=xm bf;letI:=gp;have hE:=λv=>lK M H.ho H.av v
   cases hw with
   | @lt _ _ _ _ _ _ _ K y u aN bW oo aq hu al=>
     obtain⟨YC,bW⟩:=bW;refine agk (l':=[y]) (bm:=λa c=>(.slice a [y].length c::env).reverse) (eO:=ak n) rfl c0 aN K.size bW K.pos oo K.len dg eL rfl lq ((hE x).trans aq) hu (λM' a c=>xn H ig M' _) (λM' a c=>uW aA H.av H.ho rfl)
      (λM' a c lo cC aR a6 w ah=> ?_) (Nat.zero_le _) (gW jm)
     refine H.rest (m:=1) (df:=[.slice a [y].length c]) h (al a c) rfl ⟨rfl,trivial⟩ (M':=M') ?_ ah;rw[D8];exact H.bw.new (JZ lo cC aR)
 ·cases he
omit [Lib P] in
theorem aiu (H:qk cf B W az ro post NX o n env L aT Q M) {e:lu} (he:PS cf n o=some e) {k:bX} (h:NX (n+e.2.2.2) e.2.1 e.2.2.1=some k) (hw:dC B W az ro post n env L aT (e.1 k)): @fA (cY M env) gp P cf.N B W Q o:=by
 unfold PS at he;split at he
 ·rename_i t xs c0
  cases lq:dM xs with
  |false=>rw[lq] at he;cases he
  |true=>
   rw[lq,bF] at he;obtain⟨q,bf,rfl⟩:=Option.map_eq_some_iff.1 he;obtain⟨ef,bN,dg,ig,jm,eL,aA⟩:=xm bf;letI:=gp;cases hw with
   | @zX _ _ _ _ _ _ _ K l us aN bW oo aq hu al=>
     obtain⟨YC,bW⟩:=bW;refine ahK (bm:=λa c=>(.slice a l.length c::env).reverse) (eO:=ak n) c0 aN K.size bW K.pos oo K.len dg eL rfl lq ((tt M H.ho H.av xs).trans aq) hu (λM' a c=>xn H ig M' _) (λM' a c=>uW aA H.av H.ho rfl)
      (λM' a c lo cC aR a6 w ah=> ?_) (Nat.zero_le _) (gW jm)
     refine H.rest (m:=1) (df:=[.slice a l.length c]) h (al a c) rfl ⟨rfl,trivial⟩ (M':=M') ?_ ah;rw[D8];exact H.bw.new (JZ lo cC aR)
 ·cases he
omit [Lib P] in
theorem aiv (H:qk cf B W az ro post NX o n env L aT Q M) {e:lu} (he:PT cf n o=some e) {k:bX} (h:NX (n+e.2.2.2) e.2.1 e.2.2.1=some k) (hw:dC B W az ro post n env L aT (e.1 k)): @fA (cY M env) gp P cf.N B W Q o:=by
 unfold PT at he;split at he
 ·rename_i vs x uh
  cases hp:aM vs with
  |false=>rw[hp] at he;cases he
  |true=>
   rw[hp,bF] at he;split at he
   ·rename_i c fT
    cases zv:dM c with
    |false=>rw[zv] at he;cases he
    |true=>
     rw[zv,bF] at he;obtain⟨q,bf,rfl⟩:=Option.map_eq_some_iff.1 he;obtain⟨ef,bN,dg,ig,jm,eL,_⟩:=xm bf;letI:=gp;have hm:∀M',fO (cY M env) (cY M' env) bN:=λM'=>GM (YB M M' H.av) ig
     have hE:=λv=>lK M H.ho H.av v
     have KW:=λv=>tt M H.ho H.av v
     cases hw with
     | @sm _ _ _ _ _ _ _ _ i g ty e cs us j m wR hL aw aq aN bW aL sT ad hj al=>
       have hlen:us.length=c.length:=by rw[<-aq,XW]
       refine agq (bm:=env.reverse) (n:=us.length) rfl uh aN bW dg (by rw[hlen];exact eL) hp ((hE vs).trans aw) (Dy (enc:=λu:J=>[u]) fT (λ_=>rfl) cw ((KW c).trans (aq.trans (by simp)))) rfl aL sT ad (H.bw.box i (l3 hL)) hj hm (λM' lo cC a6 w ah=> ?_) (Nat.zero_le _) (gW jm);refine H.rest (m:=0) (df:=[]) h al rfl trivial (M':=M') ?_ ah;rw[wb];exact H.bw.lZ i (l3 hL) (vO lo cC)
   ·cases he
 ·cases he
omit [Lib P] in
theorem aiw (H:qk cf B W az ro post NX o n env L aT Q M) {e:lu} (he:PU cf n o=some e) {k:bX} (h:NX (n+e.2.2.2) e.2.1 e.2.2.1=some k) (hw:dC B W az ro post n env L aT (e.1 k)): @fA (cY M env) gp P cf.N B W Q o:=by
 unfold PU at he;split at he
 ·rename_i t x c0
  cases lq:aM x with
  |false=>rw[lq] at he;cases he
  |true=>
   rw[lq,bF] at he;obtain⟨q,bf,rfl⟩:=Option.map_eq_some_iff.1 he;obtain⟨ef,bN,dg,ig,jm,eL,aA⟩:=xm bf;letI:=gp;have hE:=λv=>lK M H.ho H.av v
   cases hw with
   | @tu _ _ _ _ _ _ _ u cs aq hu al=>
     refine xe (bm:=λg=>(.pointer (some ⟨g,0,none⟩)::env).reverse) (eO:=ak n) c0 lq ((hE x).trans aq) hu dg eL rfl (λM' g=>xn H ig M' _) (λM' g=>uW aA H.av H.ho rfl)
      (λM' g GU lo cC a6 w ah=> ?_) (Nat.zero_le _) (gW jm)
     refine H.rest (m:=1) (df:=[.pointer (some ⟨g,0,none⟩)]) h (al g) rfl ⟨rfl,trivial⟩ (M':=M') ?_ ah;rw[D8];exact H.bw.new (tl lo GU cC)
 ·cases he
omit [Lib P] in
theorem aix (H:qk cf B W az ro post NX o n env L aT Q M) {e:lu} (he:PV cf n o=some e) {k:bX} (h:NX (n+e.2.2.2) e.2.1 e.2.2.1=some k) (hw:dC B W az ro post n env L aT (e.1 k)): @fA (cY M env) gp P cf.N B W Q o:=by
 unfold PV at he;split at he
 ·rename_i t c0
  obtain⟨q,bf,rfl⟩:=Option.map_eq_some_iff.1 he;obtain⟨ef,bN,dg,ig,jm,eL,aA⟩:=xm bf;letI:=gp;cases hw with
  | @qR _ _ _ _ _ _ z cs bW hu al=>
    refine OH (bm:=λg=>(.pointer (some ⟨g,0,none⟩)::env).reverse) (eO:=ak n) c0 bW dg eL rfl (λM' g=>xn H ig M' _) (λM' g=>uW aA H.av H.ho rfl)
     (λM' g yp GU aiy cC a6 w ah=> ?_) (Nat.zero_le _) (gW jm)
    refine H.rest (m:=1) (df:=[.pointer (some ⟨g,0,none⟩)]) h (al g) rfl ⟨rfl,trivial⟩ (M':=M') ?_ ah;rw[D8];exact H.bw.new (tl (B:=B) (jr.mk' yp (by rw[aiy,hu])) GU cC)
 ·cases he
theorem aiz (H:qk cf B W az ro post NX o n env L aT Q M) {e:lu} (he:PW P cf n o=some e) {k:bX} (h:NX (n+e.2.2.2) e.2.1 e.2.2.1=some k) (hw:dC B W az ro post n env L aT (e.1 k)): @fA (cY M env) gp P cf.N B W Q o:=by
 unfold PW at he;split at he
 ·rename_i f args r m rY
  cases af:aM r&&(o9 n args&&dM args) with
  |false=>rw[af] at he;cases he
  |true=>
   rw[af,bF] at he;simp only [c8] at af;obtain⟨AS,apa,Qw⟩:=af;obtain⟨q,bf,rfl⟩:=Option.map_eq_some_iff.1 he;obtain⟨ef,bN,dg,ig,jm,eL,aA⟩:=xm bf;letI:=gp;have zk:∃bH,vH P o=some (f,args,bH):=by
    unfold PF at rY;split at rY
    ·rename_i iQ gx bH zk
     cases af:dM gx&&o9 n gx with
     |false=>rw[af] at rY;cases rY
     |true=>
      rw[af,bF] at rY;split at rY
      ·cases rY;exact⟨bH,zk⟩
      ·cases rY
    ·cases rY
   obtain⟨bH,zk⟩:=zk;have J2:sj P o=(f,args,bH):=by unfold sj;rw[zk];rfl
   cases hw with
   | @call _ _ _ _ _ _ _ _ _ Y is ik vs kp wa hl hm ad A9 al=>
     refine WQ (bm:=λy=>((vs y).reverse++env).reverse) (r:=λy=>ex ((vs y).reverse++env) (n+m) r) (xf:=λy=>cP (kp y++wa y)) H.bw is (λy=>cP (kp y)) (λy=>cP (wa y)) (by rw[zk];rfl) (by rw[J2]) (by rw[J2]) dg eL (by rw[List.length_map];exact ik)
      (λM' y=>lK M' (ts (qg (ad y)) H.ho) (by have:=H.av;simp only [List.length_append,List.length_reverse,hm];omega) r) (λy=>List.map_append) (λw hw cX aI=> ?_) (λy M'=>GM (uR M M' H.av) ig) (λM' y cO a6 w ah=> ?_) (λy=>by rw[List.length_map];exact hl y) Qw AS (Nat.zero_le _) (gW jm)
     ·rw[tt M H.ho H.av args]
      exact A9 w (Yv H.dL H.bw hw) cX aI
     ·refine H.rest (m:=m) (df:=(vs y).reverse) h (al y) (by rw[List.length_reverse,hm]) (qg (ad y)) (M':=M') ?_ ah
      rw[show cP (v_ L is (kp y)++wa y)=cP (v_ L is (kp y))++cP (wa y) from List.map_append,Yk];exact cO
 ·cases he
theorem aiA {G:jH} {cs:List jk} (H:qk cf B W az ro post NX o n env L aT Q M) (fo:pJ cf B W az ro post G) (ar:np cf B W az post cs aT Q env) {op:Oper} {r:List Oper} {os:Array Oper} {s:b8} {ks:List fl} {e:lu} (he:PX n (some (.oper op r os s ks))=some e) {k:bX} (h:rE P cf G (n+e.2.2.2) cs (.ops (op::r) os ks) e.2.1 e.2.2.1=some k) (hw:dC B W az ro post n env L aT (e.1 k)): @fA (cY M env) gp P cf.N B W Q (some (.oper op r os s ks)):=by
 unfold PX at he;split at he
 ·rename_i t b N2
  split at he
  ·rename_i c m cap Qw
   split at he
   ·rename_i bN ig
    cases af:PG n bN&&(rl (tw (b9 (some (.oper op r os s ks))).A b 0)&&(dM c&&(Nat.blt n eZ&&(Nat.ble (tw (b9 (some (.oper op r os s ks))).A b 0).length b&&(Nat.blt 0 m&&Nat.ble m cap))))) with
    |false=>rw[af] at he;cases he
    |true=>
     rw[af,bF] at he;simp only [c8] at af;obtain⟨kk,jC,ud,pw,L9,L_,Ma⟩:=af;obtain⟨sl,fj,rfl⟩:=Option.map_eq_some_iff.1 he;letI:=gp;cases hw with
     | @uS _ _ _ _ _ _ _ _ K xs aq hm al=>
       refine uM (q:=n) (bm:=λg=>(.slice (some ⟨g,0,none⟩) m cap::env).reverse) Qw K.len hm (Nat.blt_eq.mp L_) (Nat.ble_eq.mp Ma) ud ((tt M H.ho H.av c).trans aq) (Nat.ble_eq.mp L9) ig (λM' g=>xn H (ah8 kk) M' _) fj (λg=> ?_) (λM' g lV yp GU cC JY=> ?_) (Nat.zero_le _) (gW jC)
       ·exact(@IW (cY M (.slice (some ⟨g,0,none⟩) m cap::env)) n).symm.trans (uW pw H.av H.ho rfl)
       ·refine⟨_,rfl,λa w ah=> ?_⟩
        refine uV fo h (al g) (by simp [H.av]) ⟨rfl,H.ho⟩ (ar.ext [_]) (M:=M') ?_ ah;rw[D8];exact H.bw.new (sq lV GU cC JY)
   ·cases he
  ·cases he
 ·cases he
omit [Lib P] in
theorem yK {a b:Option lu} {e:lu} (h:v8 a b=some e):a=some e\/b=some e:=by
 unfold v8 at h;split at h
 ·exact .inl h
 ·exact .inr h
theorem YD (H:qk cf B W az ro post NX o n env L aT Q M) {e:lu} (he:KM P cf n o=some e) {k:bX} (h:NX (n+e.2.2.2) e.2.1 e.2.2.1=some k) (hw:dC B W az ro post n env L aT (e.1 k)): @fA (cY M env) gp P cf.N B W Q o:=by
 unfold KM at he;rcases yK he with he|he
 ·exact aip H he h hw
 rcases yK he with he|he
 ·exact aiq H he h hw
 rcases yK he with he|he
 ·exact air H he h hw
 rcases yK he with he|he
 ·exact ais H he h hw
 rcases yK he with he|he
 ·exact ait H he h hw
 rcases yK he with he|he
 ·exact aiu H he h hw
 rcases yK he with he|he
 ·exact aiv H he h hw
 rcases yK he with he|he
 ·exact aiw H he h hw
 rcases yK he with he|he
 ·exact aix H he h hw
 ·exact aiz H he h hw
end
section
variable {G:jH} {n:Nat} {env:List J} {L:List (bd P)} {aT:List (ft P)} {cs:List jk} {Q:Exit->Act->ax->Prop} {M:Mem}
structure BS (cf:je) (B:Nat) (W:ax) (az:List cb) (ro:List (iW P)) (post:J->List (bd P)->Prop) (G:jH) (n:Nat) (env:List J) (L:List (bd P)) (aT:List (ft P)) (cs:List jk) (Q:Exit->Act->ax->Prop) (M:Mem):Prop where
 dL:∀M,qh (aE W) az M->hv ro M
 fo:pJ cf B W az ro post G
 av:env.length=n
 ho:fY env
 ar:np cf B W az post cs aT Q env
 bw:bK B (aE W) az M (cP L)
theorem BS.rD (H:BS cf B W az ro post G n env L aT cs Q M) (o:Option b1):qk cf B W az ro post (λgd sl a1=>rE P cf G gd cs (X9 o) sl a1) o n env L aT Q M where
 dL:=H.dL
 av:=H.av
 ho:=H.ho
 bw:=H.bw
 cont h hw hm ad qM ah:=uV H.fo h hw (by have:=H.av;simp only [List.length_append];omega) (ts ad H.ho) (H.ar.ext _) qM ah
theorem aiB (H:BS cf B W az ro post G n env L aT cs Q M) {o:Option b1} {t:bX} (h:P' P cf G n cs o=some t) (hw:dC B W az ro post n env L aT t): @fA (cY M env) gp P cf.N B W Q o:=by
 unfold P' at h;split at h
 ·rename_i pB sl a1 m he
  obtain⟨k,al,rfl⟩:=Option.map_eq_some_iff.1 h;exact YD (H.rD o) he al hw
 ·cases h
end
omit [Lib P] in
theorem Qx:∀(a b:bX),kf a b=true->a=b:=by
 intro a
 induction a<;>intro b h<;>cases b<;>simp only [kf,c8,Bool.false_eq_true,P5,decide_eq_true_eq] at h
 case o.o cA _ _ _ _ _=>rw[Ng h.1,hM _ _ h.2.1,cI h.2.2.1,h.2.2.2.1,cA _ h.2.2.2.2]
 case s.s sQ sR _ _ _ _=>rw[Ng h.1,h.2.1,sQ _ h.2.2.1,sR _ h.2.2.2]
 case c.c cA _ _ _ _ _=>rw[cI h.1,q9 _ _ h.2.1,hM _ _ h.2.2.1,cI h.2.2.2.1,cA _ h.2.2.2.2]
 case cs.cs sQ sR _ _ _ _=>rw[cI h.1,q9 _ _ h.2.1,sQ _ h.2.2.1,sR _ h.2.2.2]
 case e_.e_ sQ sR _ _ _=>rw[hM _ _ h.1,sQ _ h.2.1,sR _ h.2.2]
 case vZ.vZ sQ sR aiC _ _ _ _ _=>rw[hM _ _ h.1,sQ _ h.2.1,sR _ h.2.2.1,cI h.2.2.2.1,aiC _ h.2.2.2.2]
 case no.no=>rfl
 case zX.zX cA _ _ _=>rw[cI h.1,q9 _ _ h.2.1,cA _ h.2.2]
 case alt.alt sQ sR _ _=>rw[sQ _ h.1,sR _ h.2]
 case tv.tv=>rw[cI h.1,hM _ _ h.2]
 case sm.sm cA _ _ _ _=>rw[cI h.1,hM _ _ h.2.1,q9 _ _ h.2.2.1,cA _ h.2.2.2]
 case ret.ret=>rw[hM _ _ h]
 case back.back=>rw[q9 _ _ h]
 case loop.loop cA _ _ _=>rw[q9 _ _ h.1,cI h.2.1,cA _ h.2.2]
 case fH.fH cA _=>rw[cA _ h]
 case st.st cA _ _ _ _=>rw[cI h.1,hM _ _ h.2.1,hM _ _ h.2.2.1,cA _ h.2.2.2]
 case yF.yF cA _ _ _ _=>rw[cI h.1,hM _ _ h.2.1,q9 _ _ h.2.2.1,cA _ h.2.2.2]
 case xk.xk cA _ _ _ _=>rw[cI h.1,hM _ _ h.2.1,hM _ _ h.2.2.1,cA _ h.2.2.2]
 case mk.mk cA _ _ _=>rw[cI h.1,hM _ _ h.2.1,cA _ h.2.2]
 case uS.uS cA _ _ _ _=>rw[q9 _ _ h.1,cI h.2.1,cI h.2.2.1,cA _ h.2.2.2]
 case lt.lt cA _ _ _=>rw[cI h.1,hM _ _ h.2.1,cA _ h.2.2]
 case tu.tu cA _ _ _=>rw[cI h.1,hM _ _ h.2.1,cA _ h.2.2]
 case qR.qR cA _ _=>rw[cI h.1,cA _ h.2]
 case call.call cA _ _ _ _ _=>rw[cI h.1,q9 _ _ h.2.1,hM _ _ h.2.2.1,cI h.2.2.2.1,cA _ h.2.2.2.2]
omit [Lib P] in
theorem aiD {x:bX} {n:Nat} {env:List J} {L:List (bd P)} {aT:List (ft P)}:∀(t:bX),GH x t=true->dC B W az ro post n env L aT t->dC B W az ro post n env L aT x:=by
 intro t
 induction t with
 |alt a b _ cA=>
  intro h hw;cases hw with
  |alt ad ag=>
   have h:(kf x a||GH x b)=true:=h;rw[Bool.or_eq_true] at h;rcases h with h|h
   ·rw[Qx _ _ h];exact ad
   ·exact cA h ag
 |_=>exact λh hw=>by rw[Qx _ _ h];exact hw
omit [Lib P] in
theorem Qy {n:Nat} {env:List J} {L:List (bd P)} {aT:List (ft P)}:∀{l:List (Option bX)} {t:bX},KR l=some t->dC B W az ro post n env L aT t->∀x∈l,∃y,x=some y/\dC B W az ro post n env L aT y
 |[],_,h,_=>by cases h
 |[a],t,h,hw=>λx aq=>by
  rw[List.mem_singleton] at aq;rw[aq];exact⟨t,h,hw⟩
 |a::b::r,t,h,hw=>by
  unfold KR at h;split at h
  ·rename_i x y ao
   cases he:GH x y with
   |false=>
    rw[he,eD,cQ] at h;subst h;cases hw with
    |alt ad ag=>
     intro z bW;rcases List.mem_cons.1 bW with rfl|bW
     ·exact⟨x,rfl,ad⟩
     ·exact Qy ao ag z bW
   |true=>
    rw[he,bF,cQ] at h;subst h;intro z bW;rcases List.mem_cons.1 bW with rfl|bW
    ·exact⟨x,rfl,aiD _ he hw⟩
    ·exact Qy ao hw z bW
  ·cases h
omit [Lib P] in
theorem aiE {os:Array Oper} {K:Act->ax->Prop} {Q:Exit->Act->ax->Prop} {i:Nat} {o:Oper} {a:Act} {w:ax} (ho:os[i]? =some o) (h:wpListIn (Fr none) 0 P os (Exit.then K Q) [o] a w):wpOpIn (Fr none) 0 P os Q i K a w:=by
 unfold wpListIn at h;unfold wpOpIn;rw[ho];simp only;split at h
 ·rename_i jP
  rw[aY jP];unfold Oper.wpIn at h ⊢;refine⟨h.1,?_⟩;have ag:=h.2;generalize (o.semAt (Fr none).round a.eval).run P w=r at ag;cases r with
  |ok x w'=>cases x<;>exact ag
  |halt x w'=>cases x<;>exact ag
 ·rename_i jP
  rw[a_ jP];exact h
section
variable {G:jH} {n:Nat} {env:List J} {L:List (bd P)} {aT:List (ft P)} {cs:List jk} {Q:Exit->Act->ax->Prop} {M:Mem}
omit [Lib P] in
theorem YE (fo:pJ cf B W az ro post G) {dT:jq} {F:j8} {T:ke} {sl:aF} {a1:List bx} {t:bX} (h:GI G n cs dT F T sl a1=some t) (hw:dC B W az ro post n env L aT t) (av:env.length=n) (ho:fY env) (ar:np cf B W az post cs aT Q env) (di:oa B W az L env F) (eA:ob B W az L env T) (bw:bK B (aE W) az M (cP L)) {a:Act} {w:ax} (ah:mo cf B W M env (b5 sl a1) a w):dT.lr P Q a w:=
 KV fo h hw av ho ar di eA bw λaf=>D7 (GO n _) (Yu af) ah
omit [Lib P] in
theorem YF (fo:pJ cf B W az ro post G) {dT:jq} {F:j8} {T:ke} {s:b8} {t:bX} (h:KS G n cs dT F T s=some t) (hw:dC B W az ro post n env L aT t) (av:env.length=n) (ho:fY env) (ar:np cf B W az post cs aT Q env) (di:oa B W az L env F) (eA:ob B W az L env T) (bw:bK B (aE W) az M (cP L)) {a:Act} {w:ax} (ah:mo cf B W M env s a w):dT.lr P Q a w:=by
 unfold KS at h;cases aw:z1 s with
 |false=>rw[aw] at h;cases h
 |true=>
  rw[aw,bF] at h;exact KV fo h hw av ho ar di eA bw λaf=>D7 (GO n _) (Ql aw af) ah
omit [Lib P] in
theorem Qz [ej P] {N:Nat} {os:Array Oper} {l:Array Bool} {sl:aF}:∀{r8:List Nat} {i:Nat} {eK:aF},GJ P N os l sl r8=some (i,eK)->i∈r8/\KT P N os l sl i=some eK
 |[],i,eK,h=>by cases h
 |j::r,i,eK,h=>by
  unfold GJ at h;split at h
  ·rename_i q bf
   cases h;exact⟨List.mem_cons_self,bf⟩
  ·obtain⟨ad,ag⟩:=Qz h
   exact⟨List.mem_cons_of_mem _ ad,ag⟩
omit [Lib P] in
theorem aiF [a7] {φ:b4} {ρ':Operand->J} {o:Oper} {t:Operand} {i:Nat} {x v:J} (aq:aD φ x (ρ' t)) (h:EP x i=some v) (cz:o.op= .extract t i):∃aB,(∀w,(execOp ρ' o).run P w= .ok (.value aB) w)/\aD φ v aB:=by
 cases x with
 |tuple cs=>
  obtain⟨cs⟩:=cs;have h:cs[i]? =some v:=h;cases bf:ρ' t with
  |tuple cs'=>
   rw[bf] at aq;cases aq with
   |tuple _ _ ad ag=>
    obtain⟨cg,_⟩:=List.getElem?_eq_some_iff.1 h;have r1:i<cs'.size:=by rw[<-ad];simpa using cg
    refine⟨cs'[i],λw=> ?_,?_⟩
    ·unfold execOp
     rw[cz];simp [bf,Instr.extract,r1,Sem.run,pure]
    ·have:=ag i (by simpa using cg)
     simp only [fk,List.getElem?_toArray,h,Option.getD_some] at this;simpa [r1] using this
  |_=>rw[bf] at aq;cases aq
 |_=>cases h
omit [Lib P] in
theorem aiG [a7] [ej P] (di:q' P) {φ:b4} {ρ ρ':Operand->J} {o:Oper} {v:J} (c5:∀x,aD φ (ρ x) (ρ' x)) (h:P7 P ρ o=some v):(∃aB,(∀w,(execOp ρ' o).run P w= .ok (.value aB) w)/\aD φ v aB)/\D5 o=true:=by
 unfold P7 at h;unfold D5;split at h
 ·rename_i c x y cz
  split at h
  ·rename_i b ar
   cases h;have af:=c5 c;rw[ar] at af;have eh:ρ' c= .bool b:=by
    generalize ρ' c=u at af;cases af;rfl
   refine⟨⟨bif b then ρ' x else ρ' y,λw=> ?_,?_⟩,by rw[cz]⟩
   ·unfold execOp
    rw[cz];simp only [eh];cases b<;>rfl
   ·cases b
    ·exact c5 y
    ·exact c5 x
  ·cases h
 ·rename_i t i cz
  refine⟨aiF (c5 t) h cz,by rw[cz]⟩
 case h_9 c cz=>
  split at h
  ·rename_i b af
   split at h
   ·rename_i f aR
    cases hp:CZ f with
    |false=>rw[hp] at h;cases h
    |true=>
     rw[hp,bF] at h;exact⟨C2 di c5 h λiQ ow=>by rw[aR] at ow;cases ow;exact hp,by rw[cz];dsimp only;rw[af]⟩
   ·cases h
  ·cases h
 case h_10 cz=>exact⟨C2 di c5 h λf aR=>by unfold qD at aR;rw[cz] at aR;cases aR;rfl,by rw[cz]⟩
 all_goals first
  |(rename_i cz;refine⟨E' di c5 h,by rw[cz]⟩)
  |cases h
omit [Lib P] in
theorem YG [a7] {N:Nat} {ds:List Deferred} {os:Array Oper} {φ:b4} {sl:aF} {a:Act} {o:Oper} {b:Bool} (aw:fE N ds φ sl a) (h:P6 N os sl o=some b):Region.wanted o (yielded os a.tmps)=b:=by
 unfold P6 at h;unfold Region.wanted;split at h
 ·rename_i aA
  rw[aA];cases h;rfl
 ·rename_i j want aA
  rw[aA];dsimp only;split at h
  ·rename_i t aN
   cases cg:Nat.blt t N with
   |false=>rw[cg] at h;cases h
   |true=>
    rw[cg,bF] at h;split at h
    ·rename_i b' eh
     cases h;have aC:=aw.get t _ eh;have af:a.tmps.getD t undef= .bool b':=by
      generalize a.tmps.getD t undef=u at aC;cases aC;rfl
     have zV:t<a.tmps.size:=by rw[aw.size];exact Nat.blt_eq.mp cg
     have bE:yielded os a.tmps j=some b':=by
      unfold yielded;have bg:((os[j]?).bind (·.dst)).bind (a.tmps[·]?)=some (.bool b'):=by
       have:(os[j]?).bind (·.dst)=some t:=aN;rw[this];simp only [Option.bind_some];rw[fk,Array.getElem?_eq_getElem zV] at af;rw[Array.getElem?_eq_getElem zV];exact congrArg some af
      rw[bg]
     rw[bE];cases b'<;>cases want<;>rfl
    ·cases h
  ·cases h
omit [Lib P] in
theorem YH [a7] [ej P] (di:q' P) {N:Nat} {ds:List Deferred} {os:Array Oper} {Q:Exit->Act->ax->Prop} (oA:Region.noSelect os=true) (qG:∀c a w,¬Q (.panic c) a w) {φ:b4} {w:ax} {bq:Nat} {l:Array Bool} {sl eK:aF} {i:Nat} {a:Act} (aw:fE N ds φ sl a) (ai:i∈Region.ready .any os l) (h:KT P N os l sl i=some eK)
  (al:∀a6,fE N ds φ eK a6->wpAnyIn (Fr none) 0 P .any os Q bq (l.setIfInBounds i true) a6 w):wpAnyIn (Fr none) 0 P .any os Q (bq+1) l a w:=by
 have about:∀{o:Oper},D5 o=true->∀w,o.about P w a.eval=none:=by
  intro o ho w;unfold Oper.about;unfold D5 at ho;split at ho
  ·rename_i c ar
   split at ho
   ·rename_i b af
    unfold resolve;simp only [ar,af];rfl
   ·cases ho
  ·rename_i av
   split
   ·rename_i c ar
    exact absurd ar (av c)
   ·rfl
 unfold KT at h;split at h
 ·rename_i o ho
  split at h
  ·rename_i aA
   have w3:=YG aw aA;split at h
   ·rename_i v qC
    cases A0:Region.free .any os l i with
    |false=>rw[A0] at h;cases h
    |true=>
     rw[A0,bF] at h;obtain⟨⟨aB,fy,aC⟩,iy⟩:=aiG di (gU (iG φ) aw.get) qC;exact wpAnyIn_take (F:=Fr none) rfl ho oA A0 (List.contains_iff_mem.2 ai) (λc a w h=>absurd h (qG c _ w)) ⟨.inl ⟨w3,fy⟩,about iy⟩ (al _ (aw.put aC h))
   ·cases h
  ·rename_i aA
   have w3:=YG aw aA;cases af:D5 o&&Region.free .any os l i with
   |false=>rw[af] at h;cases h
   |true=>
    rw[af,bF] at h;rw[c8] at af;exact wpAnyIn_take (F:=Fr none) rfl ho oA af.2 (List.contains_iff_mem.2 ai) (λc a w h=>absurd h (qG c _ w)) ⟨.inr ⟨w3,rfl⟩,about af.1⟩ (al _ (aw.put (aD.zc φ) h))
  ·cases h
 ·cases h
omit [Lib P] in
theorem YI [a7] [ej P] (di:q' P) {N:Nat} {ds:List Deferred} {os:Array Oper} {Q:Exit->Act->ax->Prop} (oA:Region.noSelect os=true) (qG:∀c a w,¬Q (.panic c) a w) {φ:b4} {w:ax}:∀(bq:Nat) (l:Array Bool) (sl:aF) (a:Act),fE N ds φ sl a->
  (∀a6,fE N ds φ (D6 P N os bq l sl).2.2 a6->wpAnyIn (Fr none) 0 P .any os Q (D6 P N os bq l sl).1 (D6 P N os bq l sl).2.1 a6 w)->wpAnyIn (Fr none) 0 P .any os Q bq l a w
 |0,l,sl,a,aw,al=>al a aw
 |bq+1,l,sl,a,aw,al=>by
  unfold D6 at al;split at al
  ·rename_i i eK ai
   obtain⟨ad,ag⟩:=Qz ai;exact YH di oA qG aw ad ag λa6 o0=>YI di oA qG bq _ eK a6 o0 al
  ·exact al a aw
theorem aiH (cR:P.follows .mixedOrders=true) (H:BS cf B W az ro post G n env L aT cs Q M) {bq:Nat} {os:Array Oper} {listed:Array Bool} {ks:List fl} {s:b8} {F:j8} {T:ke} {i:Nat} {t:bX} (h:anyOp P cf G n cs bq os listed ks s F T i=some t) (hw:dC B W az ro post n env L aT t) (di:oa B W az L env F) (eA:ob B W az L env T) {a:Act} {w:ax} (ah:mo cf B W M env s a w):
  wpOpIn (Fr none) 0 P os (d' P ks Q) i (wpAnyIn (Fr none) 0 P .any os (d' P ks Q) bq (listed.setIfInBounds i true)) a w:=by
 unfold anyOp at h;split at h
 ·cases h
 ·rename_i o ho
  refine aiE ho ?_;letI:=cY M env;letI:=gp;split at h
  ·rename_i eK bH c0
   letI:ej P:=⟨F⟩;letI:s' P:=⟨T⟩;have c4:=zy (gl:= .nil) (bq:=1000) cR (di M H.bw []) (λp hp=>(eA M H.bw [] p hp).N6) cf.d;exact VN (l1:=[o]) (s:=s) c4 [] (by simp only [wV,c0]) ah λa6 w' yg=>YF (dT:= .any bq os (listed.setIfInBounds i true) ks) H.fo h hw H.av H.ho H.ar di eA H.bw yg
  ·split at h
   ·rename_i pB dO Yh m he
    obtain⟨k,al,rfl⟩:=Option.map_eq_some_iff.1 h;have aiI:qk cf B W az ro post (λgd sl a1=>GI G gd cs (.any bq os (listed.setIfInBounds i true) ks) (Gv cf.marks) [] sl a1) (some (.oper o [] os s [])) n env L aT (Exit.then (wpAnyIn (Fr none) 0 P .any os (d' P ks Q) bq (listed.setIfInBounds i true)) (d' P ks Q)) M:=
     {dL:=H.dL,av:=H.av,ho:=H.ho,bw:=H.bw
      cont:=λh hw hm ad qM ah=>YE (dT:= .any bq os (listed.setIfInBounds i true) ks) H.fo h hw (by have:=H.av;simp only [List.length_append];omega) (ts ad H.ho) (H.ar.ext _) (oa.marks _ _ _) (ob.nil _ _) qM ah}
    obtain⟨st,c0,hK⟩:=YD aiI he al hw;cases c0;exact hK a w ah
   ·cases h
theorem aiJ (cR:P.follows .mixedOrders=true) (H:BS cf B W az ro post G n env L aT cs Q M) {bq:Nat} {os:Array Oper} {listed:Array Bool} {ks:List fl} {sl:aF} {a1:List bx} {F:j8} {T:ke} {t:bX} (h:P8 P cf G n cs bq os listed ks sl a1 F T=some t) (hw:dC B W az ro post n env L aT t) (di:oa B W az L env F) (eA:ob B W az L env T) {a:Act} {w:ax} (ah:mo cf B W M env (b5 sl a1) a w):
  wpAnyIn (Fr none) 0 P .any os (d' P ks Q) bq listed a w:=by
 unfold P8 at h;split at h
 ·rename_i ao
  exact wpAnyIn_done ao (uV (dT:= .k .normal ks) H.fo h hw H.av H.ho H.ar H.bw ah) bq
 ·rename_i r8 c1
  split at h
  ·cases h
  ·rename_i bq
   split at h
   ·rename_i i eK wc
    cases oA:Region.noSelect os with
    |false=>rw[oA] at h;cases h
    |true=>
     rw[oA,bF] at h;obtain⟨ad,ag⟩:= @Qz P ⟨F⟩ _ _ _ _ _ _ _ wc;obtain⟨⟨φ,ds,q1,aH,b0,eF,hz⟩,ld,oX⟩:=ah;letI:=cY M env;letI:=gp;have YJ:oB (d' P ks Q):=H.ar.calm.vG ks;refine @YH P (cY M env) ⟨F⟩ (di M H.bw []) _ _ _ _ oA YJ _ _ _ _ _ _ _ _ aH ad ag λa6 o0=> ?_
     refine @YI P (cY M env) ⟨F⟩ (di M H.bw []) _ _ _ _ oA YJ _ _ bq _ _ a6 o0 λa2 aiK=> ?_
     exact YE (dT:= .any _ os _ ks) H.fo h hw H.av H.ho H.ar di eA H.bw ⟨⟨φ,ds,q1,aiK,b0,eF,hz⟩,ld,oX⟩
   ·refine wpAnyIn_all rfl c1 λi ai=> ?_
    obtain⟨y,e,bE⟩:=Qy h hw _ (List.mem_map.2 ⟨i,ai,rfl⟩);exact aiH cR H e bE di eA ah
end
theorem aiL (cR:P.follows .mixedOrders=true) {G:jH} {n:Nat} {env:List J} {L:List (bd P)} {aT:List (ft P)} {cs:List jk} {Q:Exit->Act->ax->Prop} {M:Mem} (H:BS cf B W az ro post G n env L aT cs Q M) {Qa:Option J} {F:j8} {T:ke} {o:Option b1} {t:bX} (h:P_ P cf G n cs Qa F T o=some t) (hw:dC B W az ro post n env L aT t) (di:oa B W az L env F) (eA:ob B W az L env T): @fA (cY M env) gp P cf.N B W Q o:=by
 letI:=gp;unfold P_ at h;split at h
 ·rename_i id os s ks
  split at h
  ·rename_i v
   refine⟨_,rfl,λa w ah=> ?_⟩;obtain⟨b,af,al⟩:=Qv H.fo h hw H.av H.ho H.ar H.bw ah;cases b with
   |true=>exact al
   |false=>exact al
  ·refine⟨_,rfl,λa w ah=>wpIn_region_any cR ?_⟩
   have bf:mo cf B W M env s a {w with drawn:=w.drawn+1}:= @Here.quiet (cY M env) gp _ _ _ _ _ _ _ ah ⟨⟨rfl,rfl,rfl,ch _,λ_ _=>rfl⟩,ch _⟩;exact YF (dT:= .any os.size os (Array.replicate os.size false) ks) H.fo h hw H.av H.ho H.ar di eA H.bw bf
 ·exact⟨_,rfl,λa w ah=>aik H.fo h hw H.av H.ho H.ar H.bw ah⟩
 ·exact⟨_,rfl,λa w ah=>aim H.fo h hw H.av H.ho H.ar H.bw ah⟩
 ·rename_i c x y s ks
  cases hp:aM (dH .nil s.sl c) with
  |false=>rw[hp] at h;cases h
  |true=>
   rw[hp,bF] at h;refine⟨_,rfl,λa w ah=> ?_⟩;split at h
   ·obtain⟨b,af,al⟩:=aio H.fo h hw H.av H.ho H.ar H.bw ah
    exact wpIn_cond (t:=b) ((YA hp ah).trans af) al
   obtain⟨b,af,al⟩:=Qv H.fo h hw H.av H.ho H.ar H.bw ah;refine wpIn_cond (t:=b) ((YA hp ah).trans af) ?_;cases b with
   |true=>exact al
   |false=>exact al
 ·rename_i op r os s ks
  split at h
  ·rename_i v aC
   refine⟨_,rfl,λa w ah=> ?_⟩;obtain⟨b,af,al⟩:=Qv H.fo h hw H.av H.ho H.ar H.bw ah;cases b with
   |true=>exact al
   |false=>exact al
  ·split at h
   ·rename_i pB sl a1 m he
    obtain⟨k,al,rfl⟩:=Option.map_eq_some_iff.1 h;exact aiA (H.rD (some (.oper op r os s ks))) H.fo H.ar he al hw
   ·exact aiB H h hw
 ·cases h
theorem aiM (cR:P.follows .mixedOrders=true) (dL:∀M,qh (aE W) az M->hv ro M) {G:jH} (fo:pJ cf B W az ro post G):pJ cf B W az ro post (Qd P cf G):=by
 intro n cs dT ev sl a1 F T o t h nF hY df L aT Q hw av fc ho ar di eA M bw a w ah;unfold Qd at h;split at h
 ·exact Qq dL fo h nF hw av fc ho ar di eA M bw a w ah
 ·exact Qr dL fo h nF hw av fc ho ar di eA M bw a w ah
 ·split at h
  ·exact Qq dL fo h nF hw av fc ho ar di eA M bw a w ah
  ·exact Qr dL fo h nF hw av fc ho ar di eA M bw a w ah
  ·have H:BS cf B W az ro post G n (df++hY) L aT cs Q M:=⟨dL,fo,av,ho,ar.ext df,bw⟩
   letI:=cY M (df++hY);letI:=gp;exact jq.aii ar.calm cR (di M bw []) (λp hp=>(eA M bw [] p hp).N6) dT (aiL cR H h hw di eA) (D7 (e1:=hY) (e2:=df++hY) (uR M M fc) nF ah)
theorem aiN (cR:P.follows .mixedOrders=true) (dL:∀M,qh (aE W) az M->hv ro M) {G:jH} (fo:pJ cf B W az ro post G):pJ cf B W az ro post (Qg P cf G):=by
 intro n cs dT ev sl a1 F T o t h nF hY df L aT Q hw av fc ho ar di eA M bw a w ah;unfold Qg at h;split at h
 ·rename_i bq os listed ks
  split at h
  ·exact Qq dL fo h nF hw av fc ho ar di eA M bw a w ah
  ·exact Qr dL fo h nF hw av fc ho ar di eA M bw a w ah
  ·exact aiJ cR ⟨dL,fo,av,ho,ar.ext df,bw⟩ h hw di eA (D7 (e1:=hY) (e2:=df++hY) (uR M M fc) nF ah)
 ·exact aiM cR dL fo n cs dT ev sl a1 F T o t h nF hY df L aT Q hw av fc ho ar di eA M bw a w ah
theorem QA (cR:P.follows .mixedOrders=true) (dL:∀M,qh (aE W) az M->hv ro M):∀bq,pJ cf B W az ro post (gen P cf bq)
 |0=>λ_ _ _ _ _ _ _ _ _ _ h=>by cases h
 |bq+1=>aiN cR dL (QA cR dL bq)
def YK (a:Option bX) (t:bX):Bool:=match a with
 |some x=>kf x t
 |none=>false
theorem mO {a:Option bX} {t:bX} (h:YK a t=true):a=some t:=by
 unfold YK at h;split at h
 ·rw[Qx _ _ h]
 ·cases h
theorem aiO (cR:P.follows .mixedOrders=true) {f:FuncId} {h:D0} {args vs:List J} {n:Nat} {t:bX} (aA:kr P f h args n=some t) (dL:∀M,qh (aE W) [] M->hv ro M) (av:vs.length=n) (ho:fY vs)
  (hw:dC W.heap.size W [] ro post n vs.reverse [] [] t):Calls P f ⟨hO vs.reverse n args⟩ W λe w=>KU W [] post e w/\cj W.heap.size W w:=by
 unfold kr at aA;split at aA
 ·rename_i fn mZ
  split at aA
  ·rename_i c QB
   split at aA
   ·rename_i sl gK
    dsimp only at aA;cases hp:dM args with
    |false=>rw[hp] at aA;cases aA
    |true=>
     rw[hp,bF] at aA;have hl:vs.reverse.length=n:=by simpa using av
     have mb:=qg ho;letI:=cY (aE W) vs.reverse;rw[<-tt (aE W) mb hl args];refine V2 mZ QB gK hp rfl (λi o h=>h) λa ah=> ?_
     letI:=gp;exact uV (cf:=⟨h,args.length+(fn.ntmps-args.length),fn⟩) (dT:= .k .normal [.na c]) (QA cR dL 10000) aA hw hl mb (.nil _) (bK.o5 W) ah
   ·cases aA
  ·cases aA
 ·cases aA
theorem aiP (cR:P.follows .mixedOrders=true) {f:FuncId} {h:D0} {args vs:List J} {n:Nat} {t:bX} (aA:kr P f h args n=some t) (L:List (bd P)) (aI:cH (aE W) (cP L)) (dL:∀M,qh (aE W) (cP L) M->hv ro M) (av:vs.length=n) (ho:fY vs)
  (hw:dC 0 W (cP L) ro post n vs.reverse L [] t):Calls P f ⟨hO vs.reverse n args⟩ W λe w=>KU W (cP L) post e w/\cj 0 W w:=by
 unfold kr at aA;split at aA
 ·rename_i fn mZ
  split at aA
  ·rename_i c QB
   split at aA
   ·rename_i sl gK
    dsimp only at aA;cases hp:dM args with
    |false=>rw[hp] at aA;cases aA
    |true=>
     rw[hp,bF] at aA;have hl:vs.reverse.length=n:=by simpa using av
     have mb:=qg ho;letI:=cY (aE W) vs.reverse;rw[<-tt (aE W) mb hl args];refine V_ mZ QB gK hp rfl (λi o h=>h) λa ah=> ?_
     letI:=gp;exact uV (cf:=⟨h,args.length+(fn.ntmps-args.length),fn⟩) (dT:= .k .normal [.na c]) (QA cR dL 10000) aA hw hl mb (.nil _) (bK.start W _ aI) ah
   ·cases aA
  ·cases aA
 ·cases aA
end AE
namespace AE
variable {P:aS} {B:Nat} {W:ax} {az:List cb} {ro:List (iW P)} {post:J->List (bd P)->Prop}
structure X (B:Nat) (W:ax) (az:List cb) (ro:List (iW P)) (post:J->List (bd P)->Prop) (n:Nat) (env:List J) (L:List (bd P)) (aT:List (ft P)) (t:bX):Prop where
 go:env.length=n->fY env->dC B W az ro post n env L aT t
instance apb {n:Nat} {env:List J} {L:List (bd P)} {aT:List (ft P)} {t:bX}:CoeFun (X B W az ro post n env L aT t) λ_=>env.length=n->fY env->dC B W az ro post n env L aT t:=⟨X.go⟩
inductive mP.{u} {α:Type u}:List α->α->Prop
 |z {a:α} {r:List α}:mP (a::r) a
 |s {x a:α} {r:List α} (h:mP r a):mP (x::r) a
inductive pK.{u} {α:Type u}:List α->Nat->α->α->List α->Prop
 |z {a b:α} {r:List α}:pK (a::r) 0 a b (b::r)
 |s {d:Nat} {x a b:α} {r eo:List α} (h:pK r d a b eo):pK (x::r) (d+1) a b (x::eo)
inductive xo.{u} {α:Type u}:List α->Nat->α->List α->Prop
 |z {a b:α} {r:List α}:xo (a::r) 0 b (b::r)
 |s {x b:α} {i:Nat} {r eo:List α} (h:xo r i b eo):xo (x::r) (i+1) b (x::eo)
inductive uX.{u} {α:Type u}:List α->α->List α->Prop
 |z {a:α}:uX [] a [a]
 |s {x a:α} {r eo:List α} (h:uX r a eo):uX (x::r) a (x::eo)
theorem mP.get.{u} {α:Type u} {l:List α} {a:α} (h:mP l a):∃i:Nat,l[i]? =some a:=by
 induction h with
 |z=>exact⟨0,rfl⟩
 |s _ cA=>obtain⟨i,ai⟩:=cA;exact⟨i+1,by simpa using ai⟩
theorem pK.get.{u} {α:Type u} {l l':List α} {d:Nat} {a b:α} (h:pK l d a b l'):l[d]? =some a/\l'=l.set d b:=by
 induction h with
 |z=>exact⟨rfl,rfl⟩
 |s _ cA=>exact⟨by simpa using cA.1,by rw[cA.2];rfl⟩
theorem xo.eq.{u} {α:Type u} {l l':List α} {i:Nat} {b:α} (h:xo l i b l'):l'=l.set i b/\i<l.length:=by
 induction h with
 |z=>exact⟨rfl,by simp⟩
 |s _ cA=>exact⟨by rw[cA.1];rfl,by simp;exact cA.2⟩
theorem uX.eq.{u} {α:Type u} {l l':List α} {a:α} (h:uX l a l'):l'=l++[a]:=by
 induction h with
 |z=>rfl
 |s _ cA=>rw[cA];rfl
inductive l5 (ro:List (iW P)) (L:List (bd P)) (K:ju P) (v:J) (l:List K.α):Prop
 |ro (h:mP ro ⟨K,v,l⟩)
 |arr (h:mP L (.arr K v l))
 |iT (h:mP L (.iT K v l))
 |red (h:mP L (.red K v l))
theorem l5.sk {ro:List (iW P)} {L:List (bd P)} {K:ju P} {v:J} {l:List K.α} (h:l5 ro L K v l) {M:Mem} (bw:bK B (aE W) az M (cP L)) (dL:hv ro M):cE M K.k K.enc v l:=by
 cases h with
 |ro h=>obtain⟨i,ai⟩:=h.get;exact dL i _ ai
 |arr h=>obtain⟨i,ai⟩:=h.get;exact PA bw ai rfl
 |iT h=>obtain⟨i,ai⟩:=h.get;exact PA bw ai rfl
 |red h=>obtain⟨i,ai⟩:=h.get;exact PA bw ai rfl
theorem l5.at {ro:List (iW P)} {L:List (bd P)} {K:ju P} {v:J} {l:List K.α} (h:l5 ro L K v l) {w:ax} (hw:qj W az ro L w):cE (aE w) K.k K.enc v l:=by
 cases h with
 |ro h=>obtain⟨i,ai⟩:=h.get;exact hw.ro i _ ai
 |arr h=>obtain⟨i,ai⟩:=h.get;exact PB hw.own ai rfl
 |iT h=>obtain⟨i,ai⟩:=h.get;exact PB hw.own ai rfl
 |red h=>obtain⟨i,ai⟩:=h.get;exact PB hw.own ai rfl
theorem D9 {ro:List (iW P)} {L:List (bd P)} {K:ju P} {v:J} {l:List K.α} (h:l5 ro L K v l:=by first|(apply l5.ro;(repeat (first|exact mP.z|apply mP.s));done)|(apply l5.arr;(repeat (first|exact mP.z|apply mP.s));done)|(apply l5.iT;(repeat (first|exact mP.z|apply mP.s));done)|(apply l5.red;(repeat (first|exact mP.z|apply mP.s));done)):l5 ro L K v l:=h
theorem has {α:Type 1} {l:List α} {a:α} (h:mP l a:=by repeat (first|exact mP.z|apply mP.s)):mP l a:=h
section
variable {n q:Nat} {ah:List Nat} {env:List J} {L:List (bd P)} {aT:List (ft P)} {k de dv:bX}
theorem GV {gq:a7} {f:gh} {r eo:J} (h: @aV gq P (f,r)) (he: @aJ gq eo= @aJ gq r) (ao:aM eo=true:=by rfl): @aV gq P (f,eo):=by
 obtain⟨ad,ag,ay⟩:=h;refine⟨ad,ao,?_⟩;simp only at ay ⊢;rw[he];exact ay
theorem QC:∀(m q:Nat),aM (.agg ⟨l4 m q⟩)=true
 |0,_=>rfl
 |m+1,q=>by
  have:=QC m (q+1);unfold aM at this ⊢;unfold l4 dM;rw[this];rfl
theorem YL {env:List J} {n:Nat}:∀(m i:Nat) (c:List J),(∀j,j<m->ex env n (ak (i+j))=c.getD j undef)->c.length=m->hO env n (l4 m i)=c
 |0,i,c,_,ar=>by rw[List.length_eq_zero_iff.1 ar];rfl
 |m+1,i,[],_,ar=>by simp at ar
 |m+1,i,u::c,h,ar=>by
  unfold l4 hO;have aL:=h 0 aj;rw[Nat.add_zero] at aL;rw[aL,YL m (i+1) c (λj hj=>by have:=h (j+1) aj;rw[show i+(j+1)=i+1+j by omega] at this;simpa using this) (by simpa using ar)];rfl
theorem aiQ {env c:List J} {n m:Nat} (av:env.length=n) (ar:c.length=m) (aA:n+m<eZ):hO (c.reverse++env) (n+m) (l4 m n)=c:=by
 refine YL m n c (λj hj=> ?_) ar;show (bif Nat.beq 0 0 then (bif Nat.blt (n+j) eZ then look (c.reverse++env) (n+m) (n+j) else .pointer (some ⟨n+j-eZ,0,none⟩)) else .complex .f64 (n+j) 0)=_;rw[show Nat.beq 0 0=true from rfl,bF,show Nat.blt (n+j) eZ=true from Nat.blt_eq.mpr aj,bF,KF _ _ _ (by simp [av,ar];omega),List.reverse_append,List.reverse_reverse,dq,List.getElem?_append_right (by simp [av]),show n+j-env.reverse.length=j by simp [av],dq,gi aj];rfl
theorem nq {f:gh} (v:J) (aR:∀M,bK B (aE W) az M (cP L)->hv ro M->(∀x,@aJ (cY M (v::env)) x=ex (v::env) (q+1) x)-> @aJ (cY M (v::env)) (ak q)=v-> @aV (cY M (v::env)) P (f,ak q)) (h:X B W az ro post (q+1) (v::env) L aT k) (ad:o3 v=v) (aA:Nat.blt q eZ=true) (bf:n=q):X B W az ro post n env L aT (.o f (ak q) 1 ah k):=by
 subst bf;refine⟨λav ho=> ?_⟩;have mb:fY (v::env):=⟨ad,ho⟩;have gb:(v::env).length=n+1:=by simp [av]
 exact .o [v] rfl ⟨ad,trivial⟩ (λM bw ao=>aR M bw ao (λx=>lK M mb gb x) (uW aA av ho ad)) (h gb mb)
section
variable {t:aK} {x y:J} {gB:IntKind} {a b:Int}
theorem yL {op:BinOp} {v:J} (cz:yl op=true) (aC:w_ op gB a b=v) (ad:o3 v=v) (aq:ex (v::env) (q+1) x= .int gB a) (bE:ex (v::env) (q+1) y= .int gB b) (h:X B W az ro post (q+1) (v::env) L aT k) (fe:aM x=true) (jQ:aM y=true) (aA:Nat.blt q eZ=true) (bf:n=q):X B W az ro post n env L aT (.o (.bin op t x y) (ak q) 1 ah k):=
 nq v (λM _ _ ai aw=> @aV.bi (cY M (v::env)) P op t x y (ak q) gB a b fe jQ rfl cz ((ai x).trans aq) ((ai y).trans bE) (aw.trans aC.symm)) h ad aA bf
theorem aiR (aq:ex (.bool (decide (a<b))::env) (q+1) x= .int gB a) (bE:ex (.bool (decide (a<b))::env) (q+1) y= .int gB b) (h:X B W az ro post (q+1) (.bool (decide (a<b))::env) L aT k) (fe:aM x=true:=by rfl) (jQ:aM y=true:=by rfl) (aA:Nat.blt q eZ=true:=by rfl) (bf:n=q:=by rfl):X B W az ro post n env L aT (.o (.bin .lss t x y) (ak q) 1 ah k):=yL U U U aq bE h fe jQ aA bf
theorem aiS (aq:ex (.bool (decide (a<=b))::env) (q+1) x= .int gB a) (bE:ex (.bool (decide (a<=b))::env) (q+1) y= .int gB b) (h:X B W az ro post (q+1) (.bool (decide (a<=b))::env) L aT k) (fe:aM x=true:=by rfl) (jQ:aM y=true:=by rfl) (aA:Nat.blt q eZ=true:=by rfl) (bf:n=q:=by rfl):X B W az ro post n env L aT (.o (.bin .leq t x y) (ak q) 1 ah k):=yL U U U aq bE h fe jQ aA bf
theorem aiT (aq:ex (.bool (decide (b<a))::env) (q+1) x= .int gB a) (bE:ex (.bool (decide (b<a))::env) (q+1) y= .int gB b) (h:X B W az ro post (q+1) (.bool (decide (b<a))::env) L aT k) (fe:aM x=true:=by rfl) (jQ:aM y=true:=by rfl) (aA:Nat.blt q eZ=true:=by rfl) (bf:n=q:=by rfl):X B W az ro post n env L aT (.o (.bin .gtr t x y) (ak q) 1 ah k):=yL U U U aq bE h fe jQ aA bf
theorem aiU (aq:ex (.bool (decide (b<=a))::env) (q+1) x= .int gB a) (bE:ex (.bool (decide (b<=a))::env) (q+1) y= .int gB b) (h:X B W az ro post (q+1) (.bool (decide (b<=a))::env) L aT k) (fe:aM x=true:=by rfl) (jQ:aM y=true:=by rfl) (aA:Nat.blt q eZ=true:=by rfl) (bf:n=q:=by rfl):X B W az ro post n env L aT (.o (.bin .geq t x y) (ak q) 1 ah k):=yL U U U aq bE h fe jQ aA bf
theorem YM (aq:ex (.bool (decide (a=b))::env) (q+1) x= .int gB a) (bE:ex (.bool (decide (a=b))::env) (q+1) y= .int gB b) (h:X B W az ro post (q+1) (.bool (decide (a=b))::env) L aT k) (fe:aM x=true:=by rfl) (jQ:aM y=true:=by rfl) (aA:Nat.blt q eZ=true:=by rfl) (bf:n=q:=by rfl):X B W az ro post n env L aT (.o (.bin .eql t x y) (ak q) 1 ah k):=yL U U U aq bE h fe jQ aA bf
theorem QD (aq:ex (.bool (decide (a≠b))::env) (q+1) x= .int gB a) (bE:ex (.bool (decide (a≠b))::env) (q+1) y= .int gB b) (h:X B W az ro post (q+1) (.bool (decide (a≠b))::env) L aT k) (fe:aM x=true:=by rfl) (jQ:aM y=true:=by rfl) (aA:Nat.blt q eZ=true:=by rfl) (bf:n=q:=by rfl):X B W az ro post n env L aT (.o (.bin .neq t x y) (ak q) 1 ah k):=yL (op:= .neq) rfl (congrArg Value.bool (by by_cases h:a=b<;>simp [h])) rfl aq bE h fe jQ aA bf
theorem YN (aq:ex (.int .i64 (a+b)::env) (q+1) x= .int .i64 a) (bE:ex (.int .i64 (a+b)::env) (q+1) y= .int .i64 b) (h:X B W az ro post (q+1) (.int .i64 (a+b)::env) L aT k) (sB: -9223372036854775808<=a+b:=by omega) (GX:a+b<=9223372036854775807:=by omega) (fe:aM x=true:=by rfl) (jQ:aM y=true:=by rfl) (aA:Nat.blt q eZ=true:=by rfl) (bf:n=q:=by rfl):X B W az ro post n env L aT (.o (.bin .add t x y) (ak q) 1 ah k):=yL rfl (congrArg (Value.int .i64) (wrap64 sB GX)) rfl aq bE h fe jQ aA bf
theorem aiV (aq:ex (.int .i64 (a-b)::env) (q+1) x= .int .i64 a) (bE:ex (.int .i64 (a-b)::env) (q+1) y= .int .i64 b) (h:X B W az ro post (q+1) (.int .i64 (a-b)::env) L aT k) (sB: -9223372036854775808<=a-b:=by omega) (GX:a-b<=9223372036854775807:=by omega) (fe:aM x=true:=by rfl) (jQ:aM y=true:=by rfl) (aA:Nat.blt q eZ=true:=by rfl) (bf:n=q:=by rfl):X B W az ro post n env L aT (.o (.bin .sub t x y) (ak q) 1 ah k):=yL rfl (congrArg (Value.int .i64) (wrap64 sB GX)) rfl aq bE h fe jQ aA bf
theorem aiW (aq:ex (.int .i64 (a*b)::env) (q+1) x= .int .i64 a) (bE:ex (.int .i64 (a*b)::env) (q+1) y= .int .i64 b) (h:X B W az ro post (q+1) (.int .i64 (a*b)::env) L aT k) (sB: -9223372036854775808<=a*b:=by omega) (GX:a*b<=9223372036854775807:=by omega) (fe:aM x=true:=by rfl) (jQ:aM y=true:=by rfl) (aA:Nat.blt q eZ=true:=by rfl) (bf:n=q:=by rfl):X B W az ro post n env L aT (.o (.bin .mul t x y) (ak q) 1 ah k):=yL rfl (congrArg (Value.int .i64) (wrap64 sB GX)) rfl aq bE h fe jQ aA bf
theorem aiX (aq:ex (.int .i64 (a/b)::env) (q+1) x= .int .i64 a) (bE:ex (.int .i64 (a/b)::env) (q+1) y= .int .i64 b) (h:X B W az ro post (q+1) (.int .i64 (a/b)::env) L aT k) (aL:0<=a/\a<=9223372036854775807:=by omega) (af:1<=b:=by omega) (fe:aM x=true:=by rfl) (jQ:aM y=true:=by rfl) (aA:Nat.blt q eZ=true:=by rfl) (bf:n=q:=by rfl):X B W az ro post n env L aT (.o (.bin .quo t x y) (ak q) 1 ah k):=
 nq _ (λM _ _ ai aw=> @aV.quo (cY M (_::env)) P t x y (ak q) a b aL af fe jQ rfl ((ai x).trans aq) ((ai y).trans bE) aw) h rfl aA bf
theorem KY (aq:ex (.int .i64 (a%b)::env) (q+1) x= .int .i64 a) (bE:ex (.int .i64 (a%b)::env) (q+1) y= .int .i64 b) (h:X B W az ro post (q+1) (.int .i64 (a%b)::env) L aT k) (aL:0<=a/\a<=9223372036854775807:=by omega) (af:1<=b:=by omega) (fe:aM x=true:=by rfl) (jQ:aM y=true:=by rfl) (aA:Nat.blt q eZ=true:=by rfl) (bf:n=q:=by rfl):X B W az ro post n env L aT (.o (.bin .rem t x y) (ak q) 1 ah k):=
 nq _ (λM _ _ ai aw=> @aV.rem (cY M (_::env)) P t x y (ak q) a b aL af fe jQ rfl ((ai x).trans aq) ((ai y).trans bE) aw) h rfl aA bf
theorem aiY {c7:Array aK} (aq:ex (.int gB (max a b)::env) (q+1) x= .int gB a) (bE:ex (.int gB (max a b)::env) (q+1) y= .int gB b) (h:X B W az ro post (q+1) (.int gB (max a b)::env) L aT k) (fe:aM x=true:=by rfl) (jQ:aM y=true:=by rfl) (aA:Nat.blt q eZ=true:=by rfl) (bf:n=q:=by rfl):X B W az ro post n env L aT (.o (.e5 c7 t x y) (ak q) 1 ah k):=
 nq _ (λM _ _ ai aw=> @aV.p2 (cY M (_::env)) P c7 t x y (ak q) gB a b fe jQ rfl ((ai x).trans aq) ((ai y).trans bE) aw) h rfl aA bf
theorem aiZ {c7:Array aK} (aq:ex (.int gB (min a b)::env) (q+1) x= .int gB a) (bE:ex (.int gB (min a b)::env) (q+1) y= .int gB b) (h:X B W az ro post (q+1) (.int gB (min a b)::env) L aT k) (fe:aM x=true:=by rfl) (jQ:aM y=true:=by rfl) (aA:Nat.blt q eZ=true:=by rfl) (bf:n=q:=by rfl):X B W az ro post n env L aT (.o (.lS c7 t x y) (ak q) 1 ah k):=
 nq _ (λM _ _ ai aw=> @aV.tf (cY M (_::env)) P c7 t x y (ak q) gB a b fe jQ rfl ((ai x).trans aq) ((ai y).trans bE) aw) h rfl aA bf
end
theorem QE {x:J} {b:Bool} (aq:ex (.bool (!b)::env) (q+1) x= .bool b) (h:X B W az ro post (q+1) (.bool (!b)::env) L aT k) (fe:aM x=true:=by rfl) (aA:Nat.blt q eZ=true:=by rfl) (bf:n=q:=by rfl):X B W az ro post n env L aT (.o (.un .not x) (ak q) 1 ah k):=
 nq _ (λM _ _ ai aw=>by
  have:= @aV.Ot (cY M (_::env)) P x b (!b) fe ((ai x).trans aq) rfl
  exact GV this (by rw[aw];rfl)) h rfl aA bf
theorem ai0 {t:aK} {x y:J} {a b:Bool} (aq:ex (.bool (a==b)::env) (q+1) x= .bool a) (bE:ex (.bool (a==b)::env) (q+1) y= .bool b) (h:X B W az ro post (q+1) (.bool (a==b)::env) L aT k) (aN:P.underlying t=some .bool:=by kernel_rfl) (fe:aM x=true:=by rfl) (jQ:aM y=true:=by rfl) (aA:Nat.blt q eZ=true:=by rfl) (bf:n=q:=by rfl):X B W az ro post n env L aT (.o (.bin .eql t x y) (ak q) 1 ah k):=
 nq _ (λM _ _ ai aw=>GV (@aV.FD (cY M (_::env)) P t x y a b _ aN fe jQ ((ai x).trans aq) ((ai y).trans bE) rfl) (by rw[aw];rfl)) h rfl aA bf
theorem ai1 {t:aK} {x y:J} {a b:Bool} (aq:ex (.bool (!(a==b))::env) (q+1) x= .bool a) (bE:ex (.bool (!(a==b))::env) (q+1) y= .bool b) (h:X B W az ro post (q+1) (.bool (!(a==b))::env) L aT k) (aN:P.underlying t=some .bool:=by kernel_rfl) (fe:aM x=true:=by rfl) (jQ:aM y=true:=by rfl) (aA:Nat.blt q eZ=true:=by rfl) (bf:n=q:=by rfl):X B W az ro post n env L aT (.o (.bin .neq t x y) (ak q) 1 ah k):=
 nq _ (λM _ _ ai aw=>GV (@aV.aft (cY M (_::env)) P t x y a b _ aN fe jQ ((ai x).trans aq) ((ai y).trans bE) rfl) (by rw[aw];rfl)) h rfl aA bf
def oI (v:J) (j k o:Nat):J:=hd v (j*k+o)
def kX (c:List J):Nat->List J->List J
 |0,e=>e
 |m+1,e=>c.getD m undef::kX c m e
theorem z8:∀(m:Nat) (c e:List J),kX c m e=((List.range m).map λi=>c.getD i undef).reverse++e
 |0,c,e=>rfl
 |m+1,c,e=>by
  unfold kX;rw[z8 m c e,List.range_succ];simp
theorem BU (c:List J) (m:Nat) (h:c.length=m):(List.range m).map (λi=>c.getD i undef)=c:=by
 apply List.ext_getElem
 ·simp [h]
 ·intro i ad ag
  simp only [List.getElem_map,List.getElem_range];rw[dq,gi ag];rfl
theorem YO {α:Type} {l:List α} {j:Nat} (d:α) (h:j<l.length):l[j]? =some (l.getD j d):=by
 rw[dq,gi h];rfl
section
variable {t:aK} {x y i:J} {gB:IntKind} {K:ju P} {v:J} {l:List K.α}
theorem ai2 {a:Option Addr} {m c e:Nat} {ty:aK} (aq:ex (.int .i64 (m:Nat)::env) (q+1) x= .slice a m c) (h:X B W az ro post (q+1) (.int .i64 (m:Nat)::env) L aT k) (aN:P.underlying t=some (.slice e):=by kernel_rfl) (fe:aM x=true:=by rfl) (aA:Nat.blt q eZ=true:=by rfl) (bf:n=q:=by rfl):X B W az ro post n env L aT (.o (.len #[t] ty x) (ak q) 1 [0,e] k):=
 nq _ (λM _ _ ai aw=> @aV.len (cY M (_::env)) P t ty e x (ak q) a m c fe rfl aN ((ai x).trans aq) aw) h rfl aA bf
theorem KZ {j e bc:Nat} (aq:ex (oI v j K.k 0::env) (q+1) x=v) (ai:ex (oI v j K.k 0::env) (q+1) i= .int gB (j:Nat)) (h:X B W az ro post (q+1) (oI v j K.k 0::env) L aT k) (aw:l5 ro L K v l:=by exact D9) (hj:j<l.length:=by omega) (aN:P.underlying t=some (.slice K.e):=by kernel_rfl) (fe:aM x=true:=by rfl) (pi:aM i=true:=by rfl) (aA:Nat.blt q eZ=true:=by rfl) (bf:n=q:=by rfl):
  X B W az ro post n env L aT (.o (.dB t x i) (ak q) 1 [0,e,bc] k):=
 nq _ (λM bw ao qV tA=> @aV.Fz (cY M (_::env)) P K.α K.k K.enc v l (aw.sk bw ao) t K.e x i (ak q) j gB hj fe pi rfl aN K.size ((qV x).trans aq) ((qV i).trans ai) tA) h rfl aA bf
theorem ai3 {a:Int} {e bc:Nat} (aq:ex (oI v a.toNat K.k 0::env) (q+1) x=v) (ai:ex (oI v a.toNat K.k 0::env) (q+1) i= .int gB a) (h:X B W az ro post (q+1) (oI v a.toNat K.k 0::env) L aT k) (aw:l5 ro L K v l:=by exact D9) (aL:0<=a:=by omega) (hj:a.toNat<l.length:=by omega) (aN:P.underlying t=some (.slice K.e):=by kernel_rfl) (fe:aM x=true:=by rfl) (pi:aM i=true:=by rfl) (aA:Nat.blt q eZ=true:=by rfl) (bf:n=q:=by rfl):
  X B W az ro post n env L aT (.o (.dB t x i) (ak q) 1 [0,e,bc] k):=
 KZ aq (by rw[ai,Int.toNat_of_nonneg aL]) h aw hj aN fe pi aA bf
theorem ai4 {j o off ty bc f:Nat} (aq:ex (oI v j K.k (o+off)::env) (q+1) x=oI v j K.k o) (h:X B W az ro post (q+1) (oI v j K.k (o+off)::env) L aT k) (aw:l5 ro L K v l:=by exact D9) (hj:j<l.length:=by omega) (aR:((P.fieldsOf t)[f]?).map (λf=>(f.type,f.offset))=some (ty,off):=by kernel_rfl) (aN:bk P (underlying t)=some (.struct (P.fieldsOf t)):=by kernel_rfl) (hm:bk P (sizeOf ty)=some bc:=by kernel_rfl) (aL:bc≠0:=by decide) (fe:aM x=true:=by rfl) (aA:Nat.blt q eZ=true:=by rfl) (bf:n=q:=by rfl):
  X B W az ro post n env L aT (.o (.cq t x f) (ak q) 1 [off,ty,bc] k):=
 nq _ (λM bw ao qV tA=>by
  obtain⟨iv,yq,ai5⟩:=Option.map_eq_some_iff.1 aR;cases ai5
  exact @aV.VX (cY M (oI v j K.k (o+iv.offset)::env)) P t x (ak q) v f (j*K.k+o) (j*K.k+(o+iv.offset)) (P.fieldsOf t) iv bc fe rfl aN yq hm aL (@Ow (cY M (oI v j K.k (o+iv.offset)::env)) _ _ _ _ _ (aw.sk bw ao) j hj) aj ((qV x).trans aq) tA) h rfl aA bf
theorem ai6 {j o c m e bc:Nat} (aq:ex (oI v j K.k (o+c*bc)::env) (q+1) x=oI v j K.k o) (ai:ex (oI v j K.k (o+c*bc)::env) (q+1) i= .int gB (c:Nat)) (h:X B W az ro post (q+1) (oI v j K.k (o+c*bc)::env) L aT k) (aw:l5 ro L K v l:=by exact D9) (hj:j<l.length:=by omega) (ar:c<m:=by omega) (aN:P.underlying t=some (.array m e):=by kernel_rfl) (bW:bk P (sizeOf e)=some bc:=by kernel_rfl) (fe:aM x=true:=by rfl) (pi:aM i=true:=by rfl) (aA:Nat.blt q eZ=true:=by rfl) (bf:n=q:=by rfl):
  X B W az ro post n env L aT (.o (.dB t x i) (ak q) 1 [1,m,e,bc] k):=
 nq _ (λM bw ao qV tA=> @aV.afv (cY M (oI v j K.k (o+c*bc)::env)) P t e x i (ak q) v m bc c (j*K.k+o) (j*K.k+(o+c*bc)) gB fe pi rfl aN bW (@Ow (cY M (oI v j K.k (o+c*bc)::env)) _ _ _ _ _ (aw.sk bw ao) j hj) ar aj ((qV x).trans aq) ((qV i).trans ai) tA) h rfl aA bf
theorem K0 {j o bc:Nat} {u:J} (aq:ex (u::env) (q+1) x=oI v j K.k o) (hu:(K.enc (l.getD j K.KG))[o]? =some u) (h:X B W az ro post (q+1) (u::env) L aT k) (aw:l5 ro L K v l:=by exact D9) (hj:j<l.length:=by omega) (ad:o3 u=u:=by rfl) (ha:bk P (isAgg t)=some false:=by kernel_rfl) (fe:aM x=true:=by rfl) (aA:Nat.blt q eZ=true:=by rfl) (bf:n=q:=by rfl):
  X B W az ro post n env L aT (.o (.bB t x) (ak q) 1 [bc] k):=
 nq _ (λM bw ao qV tA=> @aV.VY (cY M (_::env)) P K.α K.k K.enc v l (aw.sk bw ao) t x (ak q) j (j*K.k+o) o (l.getD j K.KG) u (YO _ hj) fe rfl ha rfl hu ((qV x).trans aq) tA) h ad aA bf
theorem YP {f:gh} {m:Nat} (c:List J) (ar:c.length=m) (ad:fY c) (aR:∀M,bK B (aE W) az M (cP L)->hv ro M->(∀x,@aJ (cY M (kX c m env)) x=ex (kX c m env) (q+m) x)-> @aJ (cY M (kX c m env)) (.agg ⟨l4 m q⟩)= .agg ⟨c⟩-> @aV (cY M (kX c m env)) P (f,.agg ⟨l4 m q⟩)) (h:X B W az ro post (q+m) (kX c m env) L aT k) (aA:Nat.blt (q+m) eZ=true) (bf:n=q):
  X B W az ro post n env L aT (.o f (.agg ⟨l4 m q⟩) m ah k):=by
 subst bf;refine⟨λav ho=> ?_⟩;have e:kX c m env=c.reverse++env:=by rw[z8,BU c m ar]
 have mb:fY (c.reverse++env):=ts (qg ad) ho;have gb:(c.reverse++env).length=n+m:=by simp [av,ar];omega
 have al:=h;rw[e] at al;refine .o c ar ad (λM bw ao=> ?_) (al gb mb);have:=aR M bw ao;rw[e] at this;refine this (λx=>lK M mb gb x) ?_;rw[lK M mb gb];show Value.agg ⟨hO (c.reverse++env) (n+m) (l4 m n)⟩= .agg ⟨c⟩;rw[aiQ av ar (Nat.blt_eq.mp aA)]
theorem K1 {j o bc:Nat} {c:List J} (aq:ex env n x=oI v j K.k o) (hu:c=((K.enc (l.getD j K.KG)).drop o).take bc) (ar:c.length=bc) (ad:fY c) (h:X B W az ro post (q+bc) (kX c bc env) L aT k) (aw:l5 ro L K v l:=by exact D9) (hj:j<l.length:=by omega) (ha:bk P (isAgg t)=some true:=by kernel_rfl) (bW:bk P (sizeOf t)=some bc:=by kernel_rfl) (fe:aM x=true:=by rfl) (QF:kV n x=true:=by rfl) (aA:Nat.blt (q+bc) eZ=true:=by rfl) (bf:n=q:=by rfl):
  X B W az ro post n env L aT (.o (.bB t x) (.agg ⟨l4 bc q⟩) bc [bc] k):=⟨λav ho=>
 YP c ar ad (λM bw ao qV tA=> @aV.afu (cY M (kX c bc env)) P K.α K.k K.enc v l (aw.sk bw ao) t x _ j (j*K.k+o) o bc (l.getD j K.KG) c (YO _ hj) fe (QC bc q) ha bW rfl ar (λi u ai=>by
  rw[hu,List.getElem?_take] at ai;split at ai
  ·rw[List.getElem?_drop] at ai;exact ai
  ·cases ai) (by
   have e:kX c bc env=c.reverse++env:=by rw[z8,BU c bc ar]
   rw[e,<-kW (uR M M av) x QF,lK M ho av,aq];rfl) tA) h aA bf av ho⟩
end
section
variable {t:aK} {x y i:J} {g ty:Nat} {cs:List J}
theorem ai7 {a:Addr} (aq:ex (.pointer (some a)::env) (q+1) x= .pointer (some a)) (h:X B W az ro post (q+1) (.pointer (some a)::env) L aT k) (fe:aM x=true:=by rfl) (aA:Nat.blt q eZ=true:=by rfl) (bf:n=q:=by rfl):X B W az ro post n env L aT (.o (.dN x) (ak q) 1 ah k):=
 nq _ (λM _ _ ai aw=> @aV.Wy (cY M (_::env)) P x (ak q) a fe rfl ((ai x).trans aq) aw) h rfl aA bf
theorem ai8 {o off f:Nat} {K2 bc:Nat} (aq:ex (.pointer (some ⟨g,o+off,none⟩)::env) (q+1) x= .pointer (some ⟨g,o,none⟩)) (h:X B W az ro post (q+1) (.pointer (some ⟨g,o+off,none⟩)::env) L aT k) (aR:((P.fieldsOf t)[f]?).map (λf=>(f.type,f.offset))=some (K2,off):=by kernel_rfl) (aN:bk P (underlying t)=some (.struct (P.fieldsOf t)):=by kernel_rfl) (hm:bk P (sizeOf K2)=some bc:=by kernel_rfl) (aL:bc≠0:=by decide) (fe:aM x=true:=by rfl) (aA:Nat.blt q eZ=true:=by rfl) (bf:n=q:=by rfl):
  X B W az ro post n env L aT (.o (.cq t x f) (ak q) 1 [off,K2,bc] k):=
 nq _ (λM _ _ ai aw=> @aV.Wz (cY M (_::env)) P t x (ak q) f g o K2 off bc aR aN hm aL fe rfl ((ai x).trans aq) aw) h rfl aA bf
theorem YQ {o j m e bc:Nat} {gB:IntKind} (aq:ex (.pointer (some ⟨g,o+j*bc,none⟩)::env) (q+1) x= .pointer (some ⟨g,o,none⟩)) (ai:ex (.pointer (some ⟨g,o+j*bc,none⟩)::env) (q+1) i= .int gB (j:Nat)) (h:X B W az ro post (q+1) (.pointer (some ⟨g,o+j*bc,none⟩)::env) L aT k) (hj:j<m:=by omega) (aN:P.underlying t=some (.array m e):=by kernel_rfl) (bW:bk P (sizeOf e)=some bc:=by kernel_rfl) (fe:aM x=true:=by rfl) (pi:aM i=true:=by rfl) (aA:Nat.blt q eZ=true:=by rfl) (bf:n=q:=by rfl):
  X B W az ro post n env L aT (.o (.dB t x i) (ak q) 1 [1,m,e,bc] k):=
 nq _ (λM _ _ qV aw=> @aV.We (cY M (_::env)) P t e x i (ak q) g o m bc j gB fe pi rfl aN bW ((qV x).trans aq) ((qV i).trans ai) hj aw) h rfl aA bf
theorem BV {o bc:Nat} {u:J} (aq:ex (u::env) (q+1) x= .pointer (some ⟨g,o,none⟩)) (hL:mP L (.box g ty cs)) (hu:cs[o]? =some u) (h:X B W az ro post (q+1) (u::env) L aT k) (ad:o3 u=u:=by rfl) (ha:bk P (isAgg t)=some false:=by kernel_rfl) (fe:aM x=true:=by rfl) (aA:Nat.blt q eZ=true:=by rfl) (bf:n=q:=by rfl):
  X B W az ro post n env L aT (.o (.bB t x) (ak q) 1 [bc] k):=
 nq _ (λM bw _ qV tA=> @aV.Wx (cY M (_::env)) P B g o ty t cs x (ak q) u (hL.get.elim λd bg=>bw.box d (l3 bg)) hu fe rfl ha ((qV x).trans aq) tA) h ad aA bf
theorem yM {o bc:Nat} {c:List J} (aq:ex env n x= .pointer (some ⟨g,o,none⟩)) (hL:mP L (.box g ty cs)) (hu:c=(cs.drop o).take bc) (ar:c.length=bc) (ad:fY c) (h:X B W az ro post (q+bc) (kX c bc env) L aT k) (ha:bk P (isAgg t)=some true:=by kernel_rfl) (bW:bk P (sizeOf t)=some bc:=by kernel_rfl) (fe:aM x=true:=by rfl) (QF:kV n x=true:=by rfl) (aA:Nat.blt (q+bc) eZ=true:=by rfl) (bf:n=q:=by rfl):
  X B W az ro post n env L aT (.o (.bB t x) (.agg ⟨l4 bc q⟩) bc [bc] k):=⟨λav ho=>
 YP c ar ad (λM bw ao qV tA=> @aV.J1 (cY M (kX c bc env)) P B g o bc ty t cs c x _ (hL.get.elim λd bg=>bw.box d (l3 bg)) hu fe (QC bc q) ha bW ar (by
   have e:kX c bc env=c.reverse++env:=by rw[z8,BU c bc ar]
   rw[e,<-kW (uR M M av) x QF,lK M ho av,aq]) tA) h aA bf av ho⟩
end
theorem l6 {x:J} {p:Prop} [Decidable p] (aq:ex env n x= .bool (decide p)) (ad:p->X B W az ro post n env L aT de) (ag:¬p->X B W az ro post n env L aT dv):X B W az ro post n env L aT (.e_ x de dv):=⟨λav ho=>
 .e_ _ aq (λh=>ad (of_decide_eq_true h) av ho) (λh=>ag (of_decide_eq_false h) av ho)⟩
theorem D' {x:J} {p:Prop} [Decidable p] (aq:ex env n x= .bool (!decide p)) (ad:¬p->X B W az ro post n env L aT de) (ag:p->X B W az ro post n env L aT dv):X B W az ro post n env L aT (.e_ x de dv):=⟨λav ho=>
 .e_ _ aq (λh=>ad (by simpa using h) av ho) (λh=>ag (by simpa using h) av ho)⟩
theorem GY {x:J} (aq:ex env n x= .bool true) (h:X B W az ro post n env L aT de):X B W az ro post n env L aT (.e_ x de dv):=⟨λav ho=> .e_ _ aq (λ_=>h av ho) (λh=>by cases h)⟩
theorem K3 {x:J} (aq:ex env n x= .bool false) (h:X B W az ro post n env L aT dv):X B W az ro post n env L aT (.e_ x de dv):=⟨λav ho=> .e_ _ aq (λh=>by cases h) (λ_=>h av ho)⟩
theorem ai9 {t:aK} {x:J} {a:Addr} (aq:ex (.bool false::env) (q+1) x= .pointer (some a)) (h:X B W az ro post (q+1) (.bool false::env) L aT k) (aN:P.underlying t=some (.pointer (P.pointee t)):=by kernel_rfl) (fe:aM x=true:=by rfl) (aA:Nat.blt q eZ=true:=by rfl) (bf:n=q:=by rfl):X B W az ro post n env L aT (.o (.bin .eql t x (.pointer none)) (ak q) 1 ah k):=
 nq _ (λM _ _ ai aw=>GV (@aV.XP (cY M (_::env)) P t x a fe aN ((ai x).trans aq)) (by rw[aw];rfl)) h rfl aA bf
theorem D_ {x:J} {b:Bool} (aq:ex env n x= .bool b) (ad:b=true->X B W az ro post n env L aT de) (ag:b=false->X B W az ro post n env L aT dv):X B W az ro post n env L aT (.e_ x de dv):=⟨λav ho=>
 .e_ _ aq (λh=>ad h av ho) (λh=>ag h av ho)⟩
theorem ql {x:J} (h:post (ex env n x) L):X B W az ro post n env L aT (.ret x):=⟨λ_ _=> .ret L (pI.refl L) h⟩
theorem YR {xl:ft P} (h:X B W az ro post n env L aT k):X B W az ro post n env L (xl::aT) (.fH k):=⟨λav ho=> .fH (h av ho)⟩
end
end AE
namespace AE
variable {P:aS} {B:Nat} {W:ax} {az:List cb} {ro:List (iW P)} {post:J->List (bd P)->Prop}
theorem lM.{u} {α:Type u} {l l':List α} {d:Nat} {a b:α} (h:pK l d a b l':=by repeat (first|exact pK.z|apply pK.s)):pK l d a b l':=h
theorem GZ.{u} {α:Type u} {l l':List α} {i:Nat} {b:α} (h:xo l i b l':=by repeat (first|exact xo.z|apply xo.s)):xo l i b l':=h
theorem wg.{u} {α:Type u} {l l':List α} {a:α} (h:uX l a l':=by repeat (first|exact uX.z|apply uX.s)):uX l a l':=h
theorem oc {l:List J} (h:fY l:=by repeat (first|exact trivial|refine⟨rfl,?_⟩)):fY l:=h
section
variable {n q:Nat} {env:List J} {L L':List (bd P)} {aT:List (ft P)} {k de dv:bX}
section
variable {t:aK} {p x:J}
theorem G0 {d g ty j:Nat} {cs cs':List J} {u:J} (hp:ex env n p= .pointer (some ⟨g,j,none⟩)) (aq:ex env n x=u) (fq:pK L d (.box g ty cs) (.box g ty cs') L') (aw:xo cs j u cs') (h:X B W az ro post n env L' aT k) (hu:u.cells= #[u]:=by rfl) (ad:u.oneCell'=true:=by rfl) (bW:bk P (sizeOf t)=some 1:=by kernel_rfl):
  X B W az ro post n env L aT (.st t p x k):=⟨λav ho=>by
 obtain⟨ai,rfl⟩:=fq.get;obtain⟨rfl,hj⟩:=aw.eq
 exact .Qh d ai hp aq hj hu ad bW (h av ho)⟩
theorem YS {d g ty j:Nat} {cs cs':List J} {u:J} (hp:ex env n p= .pointer (some ⟨g,j,none⟩)) (aq:ex env n x=u) (fq:pK L d (.box g ty cs) (.box g ty cs') L') (aw:cs'=cs.set j u) (h:X B W az ro post n env L' aT k) (hj:j<cs.length) (hu:u.cells= #[u]:=by rfl) (ad:u.oneCell'=true:=by rfl) (bW:bk P (sizeOf t)=some 1:=by kernel_rfl):
  X B W az ro post n env L aT (.st t p x k):=⟨λav ho=>by
 obtain⟨ai,rfl⟩:=fq.get;subst aw
 exact .Qh d ai hp aq hj hu ad bW (h av ho)⟩
theorem BW {K:ju P} {v:J} {l mf:List K.α} {d j o:Nat} {u:J} (y:K.α) (hp:ex env n p=oI v j K.k o) (aq:ex env n x=u) (fq:pK L d (.arr K v l) (.arr K v mf) L') (hl:mf=l.set j y) (bE:∀z,l[j]? =some z->K.enc y=(K.enc z).set o u) (h:X B W az ro post n env L' aT k) (hj:j<l.length:=by omega) (ho:o<K.k:=by decide) (hu:u.cells= #[u]:=by rfl) (ad:u.oneCell'=true:=by rfl) (bW:bk P (sizeOf t)=some 1:=by kernel_rfl):
  X B W az ro post n env L aT (.st t p x k):=⟨λav mb=>by
 obtain⟨ai,rfl⟩:=fq.get;subst hl
 exact .Ym d j o y ai hp hj aq ho hu ad bE bW (h av mb)⟩
theorem G1 {d g ty j m:Nat} {cs cs' us:List J} (hp:ex env n p= .pointer (some ⟨g,j,none⟩)) (aq:ex env n x= .agg ⟨us⟩) (fq:pK L d (.box g ty cs) (.box g ty cs') L') (aw:cs'=cs.take j++us++cs.drop (j+m)) (h:X B W az ro post n env L' aT k) (hj:j+m<=cs.length:=by exact gI rfl) (hu:us.length=m:=by rfl) (ad:∀u∈us,u.oneCell'=true:=by repeat (first|exact FU|refine p_ rfl ?_)) (bW:bk P (sizeOf t)=some m:=by kernel_rfl):
  X B W az ro post n env L aT (.st t p x k):=⟨λav ho=>by
 obtain⟨ai,rfl⟩:=fq.get;subst aw
 exact .Yl d ai hp aq hj hu ad bW (h av ho)⟩
end
theorem ai' {t:aK} {s:J} {c us cs cs':List J} {d g ty j m wR e:Nat} (aw:ex env n s= .slice (some ⟨g,j,none⟩) m wR) (aq:hO env n c=us) (fq:pK L d (.box g ty cs) (.box g ty cs') L') (he:cs'=cs.take j++us++cs.drop (j+us.length)) (h:X B W az ro post n env L' aT k)
  (aL:0<us.length:=by exact gI rfl) (hm:us.length<=m:=by exact gI rfl) (hj:j+us.length<=cs.length:=by exact gI rfl) (ad:∀u∈us,u.oneCell'=true:=by repeat (first|exact FU|refine p_ rfl ?_)) (aN:P.underlying t=some (.slice e):=by kernel_rfl) (bW:(P.info? e).map (·.size)=some 1:=by kernel_rfl):
  X B W az ro post n env L aT (.sm t s c k):=⟨λav ho=>by
 obtain⟨ai,rfl⟩:=fq.get;subst he
 exact .sm d ai aw aq aN bW aL hm ad hj (h av ho)⟩
theorem QG {t:aK} {x:J} {g ty:Nat} {cs:List J} {L':List (bd P)} (aq:ex env n x= .pointer (some ⟨g,0,none⟩)) (hL:mP L (.box g ty cs)) (eA:∀M,bK B (aE W) az M (cP L)->bK B (aE W) az M (cP L')) (h:post (.agg ⟨cs⟩) L') (ha:bk P (isAgg t)=some true:=by kernel_rfl) (aw:bk P (sizeOf t)=some cs.length:=by kernel_rfl) (aC:aM (.agg ⟨cs⟩)=true:=by rfl) (ai:∀gq,@aJ gq (.agg ⟨cs⟩)= .agg ⟨cs⟩:=by exact λ_=>rfl):
 X B W az ro post n env L aT (.tv t x):=⟨λ_ _=>hL.get.elim λi aA=> .tv i aA aq ha aw aC ai L' eA h⟩
section
variable {t:aK} {s x:J} {c:List J} {K:ju P} {v:J} {l:List K.α}
theorem ai_ {d:Nat} {L':Option Addr->Nat->List (bd P)} (lx:List K.α) (aw:ex env n s=v) (fq:∀a c,pK L d (.arr K v l) (.arr K (.slice a (l++lx).length c) (l++lx)) (L' a c)) (aq:hO env n c=lx.flatMap K.enc) (h:∀a c,X B W az ro post (n+1) (.slice a (l++lx).length c::env) (L' a c) aT k) (iS:l.length+lx.length<=maxLen) (af:(l.length+lx.length)*K.bytes<=140737488355328) (aN:P.underlying t=some (.slice K.e):=by kernel_rfl):
  X B W az ro post n env L aT (.yF t s c k):=⟨λav ho=>
 .Yn d lx (fq none 0).get.1 aw aq aN iS af λa c=>(fq a c).get.2▸h a c (by simp [av]) ⟨rfl,ho⟩⟩
theorem YT {d:Nat} {L':Option Addr->Nat->List (bd P)} {lL:J} {lx:List K.α} (aw:ex env n s=v) (aq:ex env n x=lL) (fq:∀a c,pK L d (.iT K v l) (.iT K (.slice a (l++lx).length c) (l++lx)) (L' a c)) (jZ:l5 ro L K lL lx) (h:∀a c,X B W az ro post (n+1) (.slice a (l++lx).length c::env) (L' a c) aT k) (iS:l.length+lx.length<=maxLen) (af:(l.length+lx.length)*K.bytes<=140737488355328) (aN:P.underlying t=some (.slice K.e):=by kernel_rfl):
  X B W az ro post n env L aT (.xk t s x k):=⟨λav ho=>
 .Yo d lL lx (fq none 0).get.1 aw aq aN (λ_ bw ao=>jZ.sk bw ao) iS af λa c=>(fq a c).get.2▸h a c (by simp [av]) ⟨rfl,ho⟩⟩
theorem YU {m cap:Nat} {L':Nat->List (bd P)} (K:ju P) (xs:List K.α) (aq:hO env n c=xs.flatMap K.enc) (fq:∀g,uX L (.red K (.slice (some ⟨g,0,none⟩) m cap) xs) (L' g)) (h:∀g,X B W az ro post (n+1) (.slice (some ⟨g,0,none⟩) m cap::env) (L' g) aT k) (hm:xs.length=m:=by rfl):X B W az ro post n env L aT (.uS c m cap k):=⟨λav ho=>
 .uS K xs aq hm λg=>(fq g).eq▸h g (by simp [av]) ⟨rfl,ho⟩⟩
theorem QH {L':Nat->List (bd P)} {u:J} {cs:List J} (aq:ex env n x=u) (hu:u.cells=⟨cs⟩) (fq:∀g,uX L (.box g t cs) (L' g)) (h:∀g,X B W az ro post (n+1) (.pointer (some ⟨g,0,none⟩)::env) (L' g) aT k):X B W az ro post n env L aT (.tu t x k):=⟨λav ho=>
 .tu aq hu λg=>(fq g).eq▸h g (by simp [av]) ⟨rfl,ho⟩⟩
theorem Ea {L':Nat->List (bd P)} {z:J} (cs:List J) (bW:bk P (zeroValue t)=some z) (hu:z.cells=⟨cs⟩) (fq:∀g,uX L (.box g t cs) (L' g)) (h:∀g,X B W az ro post (n+1) (.pointer (some ⟨g,0,none⟩)::env) (L' g) aT k):X B W az ro post n env L aT (.qR t k):=⟨λav ho=>
 .qR bW hu λg=>(fq g).eq▸h g (by simp [av]) ⟨rfl,ho⟩⟩
end
section
variable {f:FuncId} {args:List J} {r:J} {m:Nat}
theorem rF {v:J} (ar:∀w,qj W az ro L w->Calls P f ⟨hO env n args⟩ w λe w'=>e= .returned v/\cj w.heap.size w w') (h:X B W az ro post (q+1) (v::env) L aT k) (ad:o3 v=v:=by rfl) (aA:Nat.blt q eZ=true:=by rfl) (bf:n=q:=by rfl):X B W az ro post n env L aT (.c f args (ak q) 1 k):=by
 subst bf;refine⟨λav ho=> ?_⟩;have gb:(v::env).length=n+1:=by simp [av]
 refine .c [v] rfl ⟨ad,trivial⟩ (λw hw=> ?_) (h gb ⟨ad,ho⟩);have:=uW (M:=λ_=>none) aA av ho ad;rw[lK (λ_=>none) (env:=v::env) (n:=n+1) ⟨ad,ho⟩ gb] at this;show Calls P f _ w λe w'=>e= .returned (ex (v::env) (n+1) (ak n))/\_
 rw[this];exact ar w hw
theorem QI (vs:List J) {rv:J} (ar:∀w,qj W az ro L w->Calls P f ⟨hO env n args⟩ w λe w'=>e= .returned rv/\cj w.heap.size w w') (ao:ex (kX vs m env) (n+m) r=rv) (h:X B W az ro post (n+m) (kX vs m env) L aT k) (ad:fY vs:=by exact oc) (hm:vs.length=m:=by rfl):X B W az ro post n env L aT (.c f args r m k):=by
 refine⟨λav ho=> ?_⟩;have e:kX vs m env=vs.reverse++env:=by rw[z8,BU vs m hm]
 rw[e] at h ao;refine .c vs hm ad (λw hw=> ?_) (h (by simp [av,hm];omega) (ts (qg ad) ho));rw[ao];exact ar w hw
theorem YV {b:Bool} (ar:∀w,qj W az ro L w->Calls P f ⟨hO env n args⟩ w λe w'=>e= .returned (.bool b)/\cj w.heap.size w w') (ad:b=true->X B W az ro post n env L aT de) (ag:b=false->X B W az ro post n env L aT dv):X B W az ro post n env L aT (.cs f args de dv):=⟨λav ho=>
 .cs b ar (λh=>ad h av ho) (λh=>ag h av ho)⟩
theorem aja (Y:Type) (is:List Nat) (vs:Y->List J) (kp wa:Y->List (bd P)) {L':Y->List (bd P)} (ar:∀w,qj W az ro L w->cH (aE w) (pick (cP L) is)->Calls P f ⟨hO env n args⟩ w λe w'=>(∃y,e= .returned (ex (kX (vs y) m env) (n+m) r)/\cZ (aE w) (pick (cP L) is) (aE w') (cP (kp y++wa y)))/\cj 0 w w')
  (hL:∀y,v_ L is (kp y)++wa y=L' y) (h:∀y,X B W az ro post (n+m) (kX (vs y) m env) (L' y) aT k) (ik:j6 L.length is=true:=by rfl) (hl:∀y,(kp y).length=is.length:=by exact λ_=>rfl) (hm:∀y,(vs y).length=m:=by exact λ_=>rfl) (ad:∀y,fY (vs y):=by exact λ_=>oc):X B W az ro post n env L aT (.call f args r m k):=by
 refine⟨λav ho=> ?_⟩;have e:∀y,kX (vs y) m env=(vs y).reverse++env:=λy=>by rw[z8,BU _ m (hm y)]
 refine .call Y is ik vs kp wa hl hm ad (λw hw _ aI=> ?_) (λy=> ?_)
 ·refine(ar w hw aI).mono λe' w' h=> ?_
  obtain⟨⟨y,bE,aw⟩,hl⟩:=h;exact⟨⟨y,by rw[<-e y];exact bE,aw⟩,hl⟩
 ·have:=h y (by rw[e y];simp [av,hm y];omega) (by rw[e y];exact ts (qg (ad y)) ho)
  rw[e y,<-hL y] at this;exact this
end
theorem xp {vs:List J} {m:Nat} (bt:Type) (br:bt->List J) (ca:bt->List (bd P)) (gf:bt->Prop) (iR:bt->Nat) (mh:bt) (aL:hO env n vs=br mh) (hL:L=ca mh) (bh:gf mh)
  (h:∀u,gf u->X B W az ro post (n+m) (kX (br u) m env) (ca u) ((λcN L'=>∃u',gf u'/\iR u'<iR u/\cN=br u'/\pI B W az L' (ca u'))::aT) k) (hm:∀u,(br u).length=m:=by exact λ_=>rfl) (ad:∀u,fY (br u):=by exact λ_=>oc):X B W az ro post n env L aT (.loop vs m k):=⟨λav ho=>by
 refine .loop bt br ca gf iR mh hm ad aL (hL▸pI.refl L) bh λu hu=> ?_
 have e:kX (br u) m env=(br u).reverse++env:=by rw[z8,BU _ m (hm u)]
 have:=h u hu (by rw[e];simp [av,hm u];omega) (by rw[e];exact ts (qg (ad u)) ho);rw[e] at this
 exact this⟩
theorem pL {bt:Type} {br:bt->List J} {ca:bt->List (bd P)} {gf:bt->Prop} {iR:bt->Nat} {u:bt} {vs:List J} (u':bt) (aC:hO env n vs=br u') (hL:L=ca u') (bh:gf u') (By:iR u'<iR u):
 X B W az ro post n env L ((λcN L'=>∃u',gf u'/\iR u'<iR u/\cN=br u'/\pI B W az L' (ca u'))::aT) (.back vs):=⟨λ_ _=> .back ⟨u',bh,By,aC,hL▸pI.refl L⟩⟩
end
theorem ajb {n:Nat} {env:List J} {L:List (bd P)} {aT:List (ft P)} {k de dv:bX} {x:J} {m:Nat} {p:Prop} [Decidable p] (bt:Type) (br:bt->List J) (ca:bt->List (bd P)) (gf:bt->Prop) (aq:ex env n x= .bool (decide p))
  (ad:p->X B W az ro post n env L ((λcN L'=>∃u',gf u'/\cN=br u'/\pI B W az L' (ca u'))::aT) de) (ag:¬p->X B W az ro post n env L ((λcN L'=>∃u',gf u'/\cN=br u'/\pI B W az L' (ca u'))::aT) dv)
  (h:∀u,gf u->X B W az ro post (n+m) (kX (br u) m env) (ca u) aT k) (hm:∀u,(br u).length=m:=by exact λ_=>rfl) (ho:∀u,fY (br u):=by exact λ_=>oc):X B W az ro post n env L aT (.vZ x de dv m k):=⟨λav mb=>by
 refine .vZ _ aq bt br ca gf hm ho (λaf=>ad (of_decide_eq_true af) av mb) (λaf=>ag (of_decide_eq_false af) av mb) λu hu=> ?_
 have e:kX (br u) m env=(br u).reverse++env:=by rw[z8,BU _ m (hm u)]
 have:=h u hu (by rw[e];simp [av,hm u];omega) (by rw[e];exact ts (qg (ho u)) mb);rw[e] at this
 exact this⟩
theorem QJ {n:Nat} {env:List J} {L:List (bd P)} {aT:List (ft P)} {bt:Type} {br:bt->List J} {ca:bt->List (bd P)} {gf:bt->Prop} {vs:List J} (u':bt) (aC:hO env n vs=br u') (hL:L=ca u') (bh:gf u'):
 X B W az ro post n env L ((λcN L'=>∃u',gf u'/\cN=br u'/\pI B W az L' (ca u'))::aT) (.back vs):=⟨λ_ _=> .back ⟨u',bh,aC,hL▸pI.refl L⟩⟩
structure ajc (q:Prop):Prop where
 go:q
theorem cL {p q:Prop} (k:q) (h:ajc q->p:=by
 intro oj
 repeat (first
  |refine aiR U U ?_|refine aiS U U ?_|refine aiT U U ?_|refine aiU U U ?_|refine YM U U ?_|refine QD U U ?_
  |refine YN U U ?_|refine aiV U U ?_|refine aiW U U ?_|refine aiY U U ?_|refine aiZ U U ?_|refine aiX U U ?_|refine KY U U ?_
  |refine QE rfl ?_|refine ai2 rfl ?_|refine ai7 rfl ?_|refine ai8 rfl ?_|refine BV rfl has rfl ?_|refine KZ U U ?_|refine ai3 U U ?_|refine ai4 rfl ?_|refine ai6 U U ?_|refine K0 U U ?_|refine YQ U U ?_
  |refine ai0 U U ?_|refine ai1 U U ?_|refine G0 U U lM GZ ?_|refine YR ?_)
 exact oj.go):p:=h ⟨k⟩
end AE
namespace AE
variable {P:aS} {B:Nat} {W:ax} {az:List cb} {ro:List (iW P)} {post:J->List (bd P)->Prop}
def uY.{u} {α:Type u}:List α->List Nat->List α->List α
 |L,i::is,R::js=>uY (L.set i R) is js
 |L,[],js=>L++js
 |L,_::_,[]=>L
theorem YW.{u} {α:Type u}:∀(is:List Nat) (L js:List α),is.length<=js.length->v_ L is (js.take is.length)++js.drop is.length=uY L is js
 |[],L,js,_=>by simp [v_,uY]
 |i::is,L,[],h=>by simp at h
 |i::is,L,R::js,h=>by
  simp only [List.length_cons,List.take_succ_cons,List.drop_succ_cons];exact YW is (L.set i R) js (by simpa using h)
def mq (P:aS) (f:FuncId) (args:List J) (W:ax) (L:List (bd P)) (Y:Type) (v:Y->J) (N:Y->List (bd P)):Prop:=
 Calls P f ⟨args⟩ W λx w'=>(∃y,x= .returned (v y)/\cZ (aE W) (cP L) (aE w') (cP (N y)))/\cj 0 W w'
abbrev K4 (P:aS) (f:FuncId) (args:List J) (W:ax) (v:J):Prop:=Calls P f ⟨args⟩ W λe w'=>e= .returned v/\cj W.heap.size W w'
section
variable {n:Nat} {env:List J} {L:List (bd P)} {aT:List (ft P)} {k:bX} {f:FuncId} {args:List J} {r:J} {m:Nat}
theorem lN {er:List (bd P)} {Y:Type} {v:Y->J} {N L':Y->List (bd P)} {a6:List J} (is:List Nat) (vs:Y->List J) (ar:∀w,qj W az ro L w->cH (aE w) (cP er)->mq P f a6 w er Y v N)
  (h:∀y,X B W az ro post (n+m) (kX (vs y) m env) (L' y) aT k) (ao:∀y,ex (kX (vs y) m env) (n+m) r=v y:=by exact λ_=>rfl) (hL:∀y,uY L is (N y)=L' y:=by exact λ_=>rfl) (hp:pick (cP L) is=cP er:=by rfl) (ik:j6 L.length is=true:=by rfl)
  (hl:∀y,is.length<=(N y).length:=by exact λ_=>gI rfl) (hm:∀y,(vs y).length=m:=by exact λ_=>rfl) (ad:∀y,fY (vs y):=by exact λ_=>oc) (ha:hO env n args=a6:=by rfl):X B W az ro post n env L aT (.call f args r m k):=
 aja Y is vs (λy=>(N y).take is.length) (λy=>(N y).drop is.length) (λw hw aI=>by
  rw[hp] at aI ⊢;rw[ha];refine(ar w hw aI).mono λe w' aq=> ?_
  obtain⟨⟨y,bE,aN⟩,hl⟩:=aq
  exact⟨⟨y,by rw[bE,ao y],by rw[List.take_append_drop];exact aN⟩,hl⟩) (λy=>(YW is L (N y) (hl y)).trans (hL y)) h ik (λy=>by rw[List.length_take];exact Nat.min_eq_left (hl y)) hm ad
end
theorem hv.nil (M:Mem):hv ([]:List (iW P)) M:=λi r h=>by simp at h
theorem hv.cons {r:iW P} {l:List (iW P)} {M:Mem} (h:r.ok M) (hl:hv l M):hv (r::l) M:=λi q bf=>by
 cases i with
 |zero=>simp only [List.getElem?_cons_zero,cQ] at bf;subst bf;exact h
 |succ i=>exact hl i q (by simpa using bf)
theorem hv.ext {l:List (iW P)} (h:hv l (aE W)):∀M,qh (aE W) [] M->hv l M:=λ_ bw i r ao=>cE.mono (h i r ao) λi o ai=>bw i o ai (DI i)
theorem hv.none {az:List cb}:∀M,qh (aE W) az M->hv ([]:List (iW P)) M:=λM _=> .nil M
section
variable [Lib P] {f:FuncId} {h:D0} {args a6:List J} {n:Nat} {t:bX}
theorem pM {L:List (bd P)} {Y:Type} {v:Y->J} {N:Y->List (bd P)} (cR:P.follows .mixedOrders=true) (aA:kr P f h args n=some t) (vs:List J) (aI:cH (aE W) (cP L)) (dL:∀M,qh (aE W) (cP L) M->hv ro M)
  (aq:X 0 W (cP L) ro (λx L'=>∃y,x=v y/\L'=N y) n vs.reverse L [] t) (ha:hO vs.reverse n args=a6:=by rfl) (av:vs.length=n:=by rfl) (ho:fY vs:=by exact oc):mq P f a6 W L Y v N:=by
 subst ha;refine(aiP cR aA L aI dL av ho (aq (by simp [av]) (qg ho))).mono λe w q=> ?_
 obtain⟨⟨x,L',rfl,⟨y,rfl,rfl⟩,eA⟩,ag⟩:=q;exact⟨⟨y,rfl,eA⟩,ag⟩
theorem K5 {v:J} (cR:P.follows .mixedOrders=true) (aA:kr P f h args n=some t) (vs:List J) (dL:hv ro (aE W))
  (aq:X W.heap.size W [] ro (λx _=>x=v) n vs.reverse [] [] t) (ha:hO vs.reverse n args=a6:=by rfl) (av:vs.length=n:=by rfl) (ho:fY vs:=by exact oc):K4 P f a6 W v:=by
 subst ha;refine(aiO cR aA dL.ext av ho (aq (by simp [av]) (qg ho))).mono λe w q=> ?_
 obtain⟨⟨x,L',rfl,rfl,eA⟩,ag⟩:=q;exact⟨rfl,ag⟩
end
end AE
namespace AE
variable {P:aS} {B:Nat} {W:ax} {az:List cb} {ro:List (iW P)} {post:J->List (bd P)->Prop}
theorem ajd {t e:aK} {n j:Nat} {cs:List J} {k:IntKind} {u:J} (aN:P.underlying t=some (.array n e)) (cv:bk P (sizeOf e)=some 1) (ha:bk P (isAgg e)=some false) (hj:j<n) (hu:cs[j]? =some u) (w:ax):(Instr.index t (.agg ⟨cs⟩) (.int k (j:Nat))).run P w= .ok u w:=by
 have ad:(asIntOf (.int k (j:Nat))).run P w= .ok (k,((j:Nat):Int)) w:=rfl;have ah:(0:Int)<=((j:Nat):Int)/\((j:Nat):Int)<((n:Nat):Int):=⟨aj,aj⟩;unfold Instr.index;simp only [Sem.run_bind,ad,Result.andThen_ok,run_underlying aN];rw[aY ah];simp only [Sem.run_bind,jD cv w,Result.andThen_ok];unfold part;simp only [Sem.run_bind,jD ha w,Result.andThen_ok];simp [hu]
theorem aV.aje [a7] {t e:aK} {x i r:J} {n j:Nat} {cs:List J} {k:IntKind} {u:J} (aq:aM x=true) (ai:aM i=true) (ao:aM r=true) (aN:P.underlying t=some (.array n e)) (cv:bk P (sizeOf e)=some 1) (ha:bk P (isAgg e)=some false) (hj:j<n) (hu:cs[j]? =some u)
  (ex:aJ x= .agg ⟨cs⟩) (hE:aJ i= .int k (j:Nat)) (ca:aJ r=u):aV P (.fW t x i,r):=by
 refine Dz (by simp [oy,aq,ai]) ao rfl λeb ec w _=> ?_
 show (gn eb ec (.fW t (aJ x) (aJ i))).run P w=_;rw[ex,hE,ca];unfold gn;simp only [Sem.run_bind,ajd aN cv ha hj hu w,Result.andThen_ok];rfl
section
variable {n q:Nat} {ah:List Nat} {env:List J} {L:List (bd P)} {aT:List (ft P)} {k:bX} {t:aK} {x y i:J}
theorem YX {m e j:Nat} {gB:IntKind} {cs:List J} {u:J} (aq:ex (u::env) (q+1) x= .agg ⟨cs⟩) (ai:ex (u::env) (q+1) i= .int gB (j:Nat)) (hu:cs[j]? =some u) (h:X B W az ro post (q+1) (u::env) L aT k) (hj:j<m:=by omega) (ad:o3 u=u:=by rfl) (aN:P.underlying t=some (.array m e):=by kernel_rfl) (cv:bk P (sizeOf e)=some 1:=by kernel_rfl) (ha:bk P (isAgg e)=some false:=by kernel_rfl) (fe:aM x=true:=by rfl) (pi:aM i=true:=by rfl) (aA:Nat.blt q eZ=true:=by rfl) (bf:n=q:=by rfl):
  X B W az ro post n env L aT (.o (.fW t x i) (ak q) 1 [1,m,e,1] k):=
 nq _ (λM _ _ lQ aw=> @aV.aje P (cY M (_::env)) t e x i (ak q) m j cs gB u fe pi rfl aN cv ha hj hu ((lQ x).trans aq) ((lQ i).trans ai) aw) h ad aA bf
theorem QK {a:Option Addr} {m c j e bc m':Nat} (hm:m-j=m') (aq:ex (.slice (ln a c j bc) m' (c-j)::env) (q+1) x= .slice a m c) (ai:ex (.slice (ln a c j bc) m' (c-j)::env) (q+1) i= .int .i64 (j:Nat)) (h:X B W az ro post (q+1) (.slice (ln a c j bc) m' (c-j)::env) L aT k) (hj:j<=m:=by omega) (aN:P.underlying t=some (.slice e):=by kernel_rfl) (cv:bk P (sizeOf e)=some bc:=by kernel_rfl) (fe:aM x=true:=by rfl) (pi:aM i=true:=by rfl) (aA:Nat.blt q eZ=true:=by rfl) (bf:n=q:=by rfl):
  X B W az ro post n env L aT (.o (.mg t x (some i) none none) (ak q) 1 [0,e,bc] k):=
 nq _ (λM _ _ lQ aw=> @aV.V' (cY M (_::env)) P t e bc x i (ak q) a m c j fe pi rfl aN cv ((lQ x).trans aq) ((lQ i).trans ai) hj (by rw[aw,hm])) h rfl aA bf
theorem ajf {g o m e bc:Nat} (aq:ex (.slice (some ⟨g,o,none⟩) m m::env) (q+1) x= .pointer (some ⟨g,o,none⟩)) (h:X B W az ro post (q+1) (.slice (some ⟨g,o,none⟩) m m::env) L aT k) (aL:0<m:=by decide) (aN:P.underlying t=some (.array m e):=by kernel_rfl) (cv:bk P (sizeOf e)=some bc:=by kernel_rfl) (fe:aM x=true:=by rfl) (aA:Nat.blt q eZ=true:=by rfl) (bf:n=q:=by rfl):
  X B W az ro post n env L aT (.o (.mg t x none none none) (ak q) 1 [1,m,e,bc] k):=
 nq _ (λM _ _ lQ aw=> @aV.afw (cY M (_::env)) P t e x (ak q) g o m bc fe rfl aN cv ((lQ x).trans aq) aL aw) h rfl aA bf
theorem YY {xs ys:List J} {b:Bool} (aq:ex (.bool (!b)::env) (q+1) x= .agg ⟨xs⟩) (bE:ex (.bool (!b)::env) (q+1) y= .agg ⟨ys⟩) (he:rn P 10000 t (.agg ⟨xs⟩) (.agg ⟨ys⟩)=some b) (h:X B W az ro post (q+1) (.bool (!b)::env) L aT k) (ajg:P.eqGuardType P.depth t=false:=by kernel_rfl) (fe:aM x=true:=by rfl) (jQ:aM y=true:=by rfl) (aA:Nat.blt q eZ=true:=by rfl) (bf:n=q:=by rfl):
  X B W az ro post n env L aT (.o (.bin .neq t x y) (ak q) 1 ah k):=
 nq _ (λM _ _ ai aw=>GV (@aV.JH (cY M (_::env)) P t x y ⟨xs⟩ ⟨ys⟩ b ajg fe jQ ((ai x).trans aq) ((ai y).trans bE) he) (by rw[aw];rfl)) h rfl aA bf
end
section
variable {n:Nat} {env:List J} {L:List (bd P)} {aT:List (ft P)}
theorem sC {x:J} {L':List (bd P)} (eA:∀M,bK B (aE W) az M (cP L)->bK B (aE W) az M (cP L')) (h:post (ex env n x) L'):X B W az ro post n env L aT (.ret x):=⟨λ_ _=> .ret L' eA h⟩
end
theorem YZ.{u} {α:Type u}:∀(L R pre:List α),L.length=R.length->uY (pre++L) (List.range' pre.length L.length) R=pre++R
 |[],[],pre,_=>by simp [uY]
 |a::L,r::R,pre,h=>by
  have:=YZ L R (pre++[r]) (by simpa using h);rw[List.length_cons,List.range'_succ];show uY ((pre++a::L).set pre.length r) _ R=_;rw[List.set_append_right _ _ (ch _),Nat.sub_self,List.set_cons_zero];simpa using this
theorem K6.{u} {α:Type u} {n:Nat} {L R:List α} (hL:L.length=n) (jE:R.length=n):uY L (List.range' 0 n) R=R:=by
 subst hL;have:=YZ L R [] jE.symm;simpa using this
theorem QL:∀(er X pre:List cb),pick (pre++(er++X)) (List.range' pre.length er.length)=er
 |[],_,_=>rfl
 |a::er,X,pre=>by
  have:=QL er X (pre++[a]);rw[List.length_append,List.length_singleton,List.append_assoc] at this;rw[List.length_cons,List.range'_succ];unfold pick;rw[List.getElem?_append_right (ch _),Nat.sub_self];show a::pick (pre++([a]++(er++X))) _=_;rw[this]
theorem Y0.{u} {α:Type u}:∀(er R X pre:List α),er.length=R.length->uY (pre++(er++X)) (List.range' pre.length er.length) R=pre++(R++X)
 |[],[],X,pre,_=>by simp [uY]
 |a::er,r::R,X,pre,h=>by
  have:=Y0 er R X (pre++[r]) (by simpa using h);rw[List.length_append,List.length_singleton,List.append_assoc,List.append_assoc] at this;rw[List.length_cons,List.range'_succ];show uY ((pre++(a::(er++X))).set pre.length r) _ R=_;rw[List.set_append_right _ _ (ch _),Nat.sub_self,List.set_cons_zero];exact this
theorem QM (n:Nat):∀(m s:Nat),s+m<=n->j6 n (List.range' s m)=true
 |0,_,_=>rfl
 |m+1,s,h=>by
  rw[List.range'_succ];unfold j6;rw[QM n m (s+1) aj,Bool.and_true,c8];refine⟨Nat.blt_eq.mpr aj,?_⟩;rw[Bool.not_eq_true',<-Bool.not_eq_true];intro ar;have:=List.mem_range'_1.1 (by simpa using ar:s∈List.range' (s+1) m);omega
theorem bK.pre {M:Mem} {er X:List (bd P)} (h:bK B (aE W) az M (cP (er++X))):bK B (aE W) az M (cP er):=by
 have e:=QL (cP er) (cP X) [];have:=h.pick (List.range' 0 er.length) (QM _ _ _ (by simp));rw[show cP (er++X)=cP er++cP X from List.map_append] at this;rw[show (cP er).length=er.length from List.length_map _] at e;rw[List.nil_append] at e;rw[show List.range' 0 er.length=List.range' ([]:List cb).length er.length from rfl,e] at this;exact this
theorem tB {n:Nat} {env:List J} {L:List (bd P)} {aT:List (ft P)} {k:bX} {f:FuncId} {args:List J} {r:J} {m:Nat} {er BX:List (bd P)} {Y:Type} {v:Y->J} {N:Y->List (bd P)} {a6:List J} (vs:Y->List J) (ar:∀w,qj W az ro L w->cH (aE w) (cP er)->mq P f a6 w er Y v N)
  (h:∀y,X B W az ro post (n+m) (kX (vs y) m env) (N y++BX) aT k) (ao:∀y,ex (kX (vs y) m env) (n+m) r=v y:=by exact λ_=>rfl) (hL:L=er++BX:=by rfl) (hl:∀y,er.length=(N y).length:=by exact λ_=>rfl) (hm:∀y,(vs y).length=m:=by exact λ_=>rfl) (ad:∀y,fY (vs y):=by exact λ_=>oc) (ha:hO env n args=a6:=by rfl):X B W az ro post n env L aT (.call f args r m k):=by
 subst hL;refine lN (er:=er) (L':=λy=>N y++BX) (List.range' 0 er.length) vs ar h ao (λy=>Y0 er (N y) BX [] (hl y)) ?_ (QM _ _ _ (by simp)) (λy=>by rw[List.length_range',hl y];exact ch _) hm ad ha;have e:=QL (cP er) (cP BX) [];rw[show (cP er).length=er.length from List.length_map _] at e;rw[show cP (er++BX)=cP er++cP BX from List.map_append];exact e
theorem QN {M:Mem} {L L':List (bd P)} (d:Nat) {K:ju P} {a:Option Addr} {m c j m':Nat} {l mf:List K.α} (fq:pK L d (.iT K (.slice a m c) l) (.iT K (.slice (ln a c j K.k) m' (c-j)) mf) L') (hl:mf=l.drop j) (hm:m-j=m') (hj:j<=m) (h:bK B (aE W) az M (cP L)):bK B (aE W) az M (cP L'):=by
 obtain⟨ai,rfl⟩:=fq.get;subst hl hm;rw[wb];exact h.lZ d (l3 ai) (FN ((h.iT d (l3 ai)).drop K.len hj) (λ_ _ h _=>h) λi ai=> .inl (agp ai))
end AE
section
noncomputable section
namespace AE
def yN (P:aS) (e k bytes:Nat):Bool:=match P.info? e with
 |some i=>(match i.zero with|some z=>Nat.beq z.cells.size k|none=>false)&&(Nat.beq i.size k&&(Nat.beq i.bytes bytes&&(match bk P (sizeOf e) with|some m=>Nat.beq m k|none=>false)))
 |none=>false
theorem Y1 {P:aS} {e k bytes:Nat} (h:yN P e k bytes=true):(∃i z,P.info? e=some i/\i.zero=some z/\i.size=k/\i.bytes=bytes/\z.cells.size=k)/\bk P (sizeOf e)=some k:=by
 unfold yN at h;split at h
 ·rename_i i ai
  simp only [c8] at h;obtain⟨ad,ag,ay,bG⟩:=h;split at ad
  ·rename_i z bW
   split at bG
   ·rename_i m hm
    exact⟨⟨i,z,ai,bW,cI ag,cI ay,cI ad⟩,by rw[hm,cI bG]⟩
   ·cases bG
  ·cases ad
 ·cases h
@[reducible] def BY {P:aS} {α:Type} (d:α) (e k bytes:Nat) (enc:α->List J) (h:yN P e k bytes=true) (al:0<k:=by decide) (hl:∀x,(enc x).length=k:=by exact λ_=>rfl) (ho:∀x,∀u∈enc x,u.oneCell'=true:=by intro x;repeat (first|exact FU|refine p_ rfl ?_)):ju P:=
  ⟨α,d,e,k,bytes,enc,hl,ho,al,(Y1 h).2,(Y1 h).1⟩
end AE
end
end
section
noncomputable section
namespace AE
abbrev bj:=List (gh×J)
abbrev dZ:=List (FuncId×List J×J)
abbrev at' (N:Nat) (F:bj) (C:dZ) (c:Code) (s:b8):Option b1:=V0 Tryd.prog F C N 1000 10 c s
abbrev nP (N:Nat) (F:bj) (C:dZ) (ks:List fl) (o:Option b1):Option b1:=V1 Tryd.prog F C N 1000 10 ks o
abbrev tC (N:Nat) (F:bj) (C:dZ) (m:Nat) (o:Option b1):Option b1:=Og Tryd.prog F C N 1000 10 m o
abbrev Eb (N:Nat) (F:bj) (C:dZ) (r:List Oper) (ops:Array Oper) (ks:List fl) (s:b8):Option b1:=Bc Tryd.prog F C N 1000 10 r ops ks s
abbrev dU:=Code×List Nat×Nat
def oC (p:dU):Array Oper:=aga p.1 p.2.1
def Y2 (p:dU):List fl:=oE p.1 p.2.1 []
def Y3 (p:dU):List Oper:=(oC p).toList.drop p.2.2
def QO (o:Option b1):List Oper×Array Oper×List fl:=(kO o,kP o,gC o)
def QP (p:dU):List Oper×Array Oper×List fl:=(Y3 p,oC p,Y2 p)
abbrev cK (N:Nat) (F:bj) (C:dZ) (p:dU) (s:b8):Option b1:=Bc Tryd.prog F C N 1000 10 (Y3 p) (oC p) (Y2 p) s
def fa (N:Nat) (sl:aF) (dst:Nat) (v:J):aF:=match g' N sl (some dst) v with|some s=>s|none=> .nil
section
variable [a7] [cV] {N B:Nat} {w0 w:ax} {a:Act} {Q:Exit->Act->ax->Prop} [nb Q]
theorem bA (F:bj) (T:dZ) {c:Code} {s:b8} (di:tg Tryd.prog F) (eA:se Tryd.prog T) (h:fA Tryd.prog N B w0 Q (at' N F T c s)) (ah:Here N s B w0 a w):c.wpIn (Fr none) 0 Tryd.prog Q a w:=afe mixed di eA h ah
theorem dP {o:Option b1} {p:dU} {s:b8} (e:QO o=QP p) (F:bj) (T:dZ) (di:tg Tryd.prog F) (eA:se Tryd.prog T) (h:fA Tryd.prog N B w0 Q (cK N F T p s)) (ah:Here N s B w0 a w):wpListIn (Fr none) 0 Tryd.prog (kP o) (d' Tryd.prog (gC o) Q) (kO o) a w:=
 agb (congrArg Prod.fst e) (congrArg (λx=>x.2.1) e) (congrArg (λx=>x.2.2) e) mixed di eA h ah
theorem od {ks:List fl} {o:Option b1} {R:Act->ax->Prop} (F:bj) (T:dZ) (di:tg Tryd.prog F) (eA:se Tryd.prog T) (h:fA Tryd.prog N B w0 Q (nP N F T ks o)):fA Tryd.prog N B w0 (Exit.then R (d' Tryd.prog ks Q)) o:=aff mixed di eA h
end
theorem fw {s1 s2:a7} {l:eH} (h:fO s1 s2 l:=by repeat (first|exact zE|refine afg (by first|exact agt U U U U|rfl|exact afi U U aj|exact afh aj|exact ago rfl bM) ?_)):fO s1 s2 l:=h
theorem tD {s1:a7} [cV] {P:aS} {N B:Nat} {w0:ax} {X:Type} {gq:X->a7} {gf:X->Prop} {iR:X->Nat} {m:Nat} {head:aF} {a1:List bx} {o:Option b1} (x':X) {bN:eH} {Q:Exit->Act->ax->Prop} (af:qJ head a1 o=some bN) (hm:fO s1 (gq x') bN)
 (bh:gf x') (By:iR x'<m:=by (try dsimp only);omega) (qI:∀i o,(gq x').dn i=some o->s1.dn i=some o:=by exact λ_ _ h=>h) (av:cV.ev<=a1.length:=by first|exact Nat.zero_le _|exact gI rfl) (ar:ix (b9 o).A a1 0:=by exact gW rfl):
 @fA s1 _ P N B w0 (Exit.then (OV gq gf iR m N head a1 B w0) Q) o:=ags x' af hm qI bh By av ar
section
variable [a7] {P:aS}
theorem bb {op:BinOp} {t:aK} {x y r:J} {k:IntKind} {a b:Int} (ex:aJ x= .int k a:=by exact rfl) (hN:aJ y= .int k b:=by exact rfl)
 (aq:aM x=true:=by exact rfl) (bE:aM y=true:=by exact rfl) (ao:aM r=true:=by exact rfl) (cz:yl op=true:=by exact rfl) (ca:aJ r=w_ op k a b:=by exact afy aj):aV P (.bin op t x y,r):=aV.bi aq bE ao cz ex hN ca
theorem aU {op:BinOp} {t:aK} {x y r:J} {k:IntKind} {a b:Int} (ex:aJ x= .int k a:=by exact rfl) (hN:aJ y= .int k b:=by exact rfl)
 (aq:aM x=true:=by exact rfl) (bE:aM y=true:=by exact rfl) (ao:aM r=true:=by exact rfl) (cz:yl op=true:=by exact rfl) (ca:aJ r=w_ op k a b:=by exact afz aj):aV P (.bin op t x y,r):=aV.bi aq bE ao cz ex hN ca
theorem tE {op:BinOp} {t:aK} {x y r:J} {k:IntKind} {a b:Int} (ex:aJ x= .int k a:=by exact rfl) (hN:aJ y= .int k b:=by exact rfl)
 (aq:aM x=true:=by exact rfl) (bE:aM y=true:=by exact rfl) (ao:aM r=true:=by exact rfl) (cz:yl op=true:=by exact rfl) (ca:aJ r=w_ op k a b:=by exact afA aj):aV P (.bin op t x y,r):=aV.bi aq bE ao cz ex hN ca
theorem sD {op:BinOp} {t:aK} {x y r:J} {k:IntKind} {a b:Int} (ex:aJ x= .int k a:=by exact rfl) (hN:aJ y= .int k b:=by exact rfl)
 (aq:aM x=true:=by exact rfl) (bE:aM y=true:=by exact rfl) (ao:aM r=true:=by exact rfl) (cz:yl op=true:=by exact rfl) (ca:aJ r=w_ op k a b:=by exact afB aj):aV P (.bin op t x y,r):=aV.bi aq bE ao cz ex hN ca
theorem kt {op:BinOp} {t:aK} {x y r:J} {k:IntKind} {a b:Int} (ex:aJ x= .int k a:=by exact rfl) (hN:aJ y= .int k b:=by exact rfl)
 (aq:aM x=true:=by exact rfl) (bE:aM y=true:=by exact rfl) (ao:aM r=true:=by exact rfl) (cz:yl op=true:=by exact rfl) (ca:aJ r=w_ op k a b:=by exact mm aj aj aj):aV P (.bin op t x y,r):=aV.bi aq bE ao cz ex hN ca
theorem jg {x r:J} {a:Addr} (ex:aJ x= .pointer (some a):=by exact rfl) (ca:aJ r= .pointer (some a):=by exact rfl) (aq:aM x=true:=by exact rfl) (ao:aM r=true:=by exact rfl):aV P (.dN x,r):=aV.Wy aq ao ex ca
theorem ff {s:aK} {x r:J} {f g o:Nat} (ty off m:Nat) (ex:aJ x= .pointer (some ⟨g,o,none⟩):=by exact rfl) (ca:aJ r= .pointer (some ⟨g,o+off,none⟩):=by exact rfl) (aq:aM x=true:=by exact rfl) (ao:aM r=true:=by exact rfl)
 (aR:((P.fieldsOf s)[f]?).map (λf=>(f.type,f.offset))=some (ty,off):=by kernel_rfl) (aw:bk P (underlying s)=some (.struct (P.fieldsOf s)):=by kernel_rfl) (hm:bk P (sizeOf ty)=some m:=by kernel_rfl) (aL:m≠0:=by decide):aV P (.cq s x f,r):=aV.Wz aR aw hm aL aq ao ex ca
section
variable {B g:Nat} {dG:Mem} {cc L:List cb}
theorem iX {ty t:aK} {cs:List J} {p r u:J} (j i:Nat) (c_:bK B dG cc a7.dn L) (ai:L[i]? =some (dW g ty cs):=by exact rfl) (ml:aJ p= .pointer (some ⟨g,j,none⟩):=by exact rfl) (hj:cs[j]? =some u:=by exact rfl) (ca:aJ r=u:=by exact rfl)
 (hp:aM p=true:=by exact rfl) (ao:aM r=true:=by exact rfl) (ha:bk P (isAgg t)=some false:=by kernel_rfl):aV P (.bB t p,r):=aV.Wx (c_.box i ai) hj hp ao ha ml ca
theorem wh {ty t:aK} {cs us:List J} {p r:J} (o n i:Nat) (c_:bK B dG cc a7.dn L) (ai:L[i]? =some (dW g ty cs):=by exact rfl) (ml:aJ p= .pointer (some ⟨g,o,none⟩):=by exact rfl) (hu:us=(cs.drop o).take n:=by exact rfl) (ca:aJ r= .agg ⟨us⟩:=by exact rfl)
 (hp:aM p=true:=by exact rfl) (ao:aM r=true:=by exact rfl) (ha:bk P (isAgg t)=some true:=by kernel_rfl) (av:bk P (sizeOf t)=some n:=by kernel_rfl) (hl:us.length=n:=by exact rfl):aV P (.bB t p,r):=aV.J1 (c_.box i ai) hu hp ao ha av hl ml ca
end
section
variable {α:Type} {k:Nat} {enc:α->List J} {v:J} {l:List α}
theorem z' {t e:aK} {x i r:J} {j:Nat} {gB:IntKind} (h:cE a7.dn k enc v l) (hj:j<l.length) (aN:P.underlying t=some (.slice e)) (cv:bk P (sizeOf e)=some k) (ex:aJ x=v:=by exact rfl) (hE:aJ i= .int gB j:=by exact rfl) (ca:aJ r=hd v (j*k):=by exact rfl)
 (aq:aM x=true:=by exact rfl) (ai:aM i=true:=by exact rfl) (ao:aM r=true:=by exact rfl):aV P (.dB t x i,r):=aV.Fz h hj aq ai ao aN cv ex hE ca
theorem nr {t e:aK} {x i r:J} {j:Nat} {gB:IntKind} (h:cE a7.dn k enc v l) (aN:P.underlying t=some (.slice e)) (cv:bk P (sizeOf e)=some k) (ex:aJ x=v:=by exact rfl) (hE:aJ i= .int gB j:=by exact rfl) (ca:aJ r=hd v (j*k):=by exact rfl) (hj:j<l.length:=by omega)
 (aq:aM x=true:=by exact rfl) (ai:aM i=true:=by exact rfl) (ao:aM r=true:=by exact rfl):aV P (.dB t x i,r):=aV.Fz h hj aq ai ao aN cv ex hE ca
theorem qm {t:aK} {p r:J} {i o:Nat} {x:α} {u:J} (j:Nat) (h:cE a7.dn k enc v l) (ai:l[i]? =some x) (ha:bk P (isAgg t)=some false) (hu:(enc x)[j]? =some u:=by exact rfl) (ho:o=i*k+j:=by exact rfl) (ex:aJ p=hd v o:=by exact rfl) (ca:aJ r=u:=by exact rfl)
 (hp:aM p=true:=by exact rfl) (ao:aM r=true:=by exact rfl):aV P (.bB t p,r):=aV.VY h ai hp ao ha ho hu ex ca
theorem eM {t ty e:aK} {x r:J} (h:cE a7.dn k enc v l) (aN:P.underlying t=some (.slice e)) (ex:aJ x=v:=by exact rfl) (ca:aJ r= .int .i64 l.length:=by exact rfl) (aq:aM x=true:=by exact rfl) (ao:aM r=true:=by exact rfl):aV P (.len #[t] ty x,r):=aV.ae6 h aq ao aN ex ca
end
end
abbrev _root_.List.ew {α:Type} [Inhabited α] (l:List α) (i:Nat):α:=l.getD i default
abbrev bu {α:Type} (a:Option Addr) (l:List α) (c:Nat):J:= .slice a l.length c
abbrev dh (g o:Nat):J:= .pointer (some ⟨g,o,none⟩)
abbrev K7 {α:Type} (e:aK) (k:Nat) (enc:α->List J) (a:Option Addr) (l:List α) (c:Nat):cb:=hr e k enc (.slice a l.length c) l
abbrev xq {α:Type} (e:aK) (k:Nat) (enc:α->List J) (a:Option Addr) (l:List α) (c:Nat):cb:=nK e k enc (.slice a l.length c) l
abbrev xr {α:Type} (e:aK) (k:Nat) (enc:α->List J) (a:Option Addr) (n c:Nat) (l:List α):cb:=hr e k enc (.slice a n c) l
abbrev z_ (a:Option Addr) (l:List bR) (c:Nat):cb:=K7 qe 4 dY a l c
abbrev QQ (a:Option Addr) (n c:Nat) (l:List bR):cb:=xr qe 4 dY a n c l
abbrev tF (a:Option Addr) (l:List Bool) (c:Nat):cb:=K7 n9 1 il a l c
abbrev oJ (a:Option Addr) (n c:Nat) (l:List Bool):cb:=xr n9 1 il a n c l
abbrev qn (a:Option Addr) (l:List Int) (c:Nat):cb:=K7 kQ 1 fQ a l c
abbrev nt (a:Option Addr) (n c:Nat) (l:List Int):cb:=xr kQ 1 fQ a n c l
abbrev K8 (a:Option Addr) (l:List cW) (c:Nat):cb:=K7 oD 8 jF a l c
abbrev ajh (a:Option Addr) (n c:Nat) (l:List cW):cb:=xr oD 8 jF a n c l
abbrev yO (a:Option Addr) (l:List Nat) (c:Nat):cb:=xq tr 1 qd a l c
abbrev QR (a:Option Addr) (l:List az) (c:Nat):cb:=xq zS 5 kU a l c
abbrev tG (a:Option Addr) (l:List gy) (c:Nat):cb:=xq rB 3 ni a l c
instance instSymN (n:Nat):OfNat J n:=⟨ak n⟩
abbrev I (x:Int):J:= .int .i64 x
theorem h3 {α:Type} (a:α):∃x,x=a:=⟨a,rfl⟩
abbrev bK.Ip {B:Nat} {dG:Mem} {cc:List cb} {M:Mem} {L:List cb} (_:bK B dG cc M L):List cb:=cc
def hb (o:Option b1):Option (FuncId×List J):=match vH Tryd.prog o with|some x=>some (x.1,x.2.1)|none=>none
theorem QS {o:Option b1} {f:FuncId} {args:List J} (h:hb o=some (f,args)):(vH Tryd.prog o).isSome=true/\(sj Tryd.prog o).1=f/\(sj Tryd.prog o).2.1=args:=by
 unfold hb at h;unfold sj;cases e:vH Tryd.prog o with
 |none=>rw[e] at h;cases h
 |some x=>rw[e] at h;cases h;exact⟨rfl,rfl,rfl⟩
theorem hG [cV] {N B:Nat} {w0:ax} {Q:Exit->Act->ax->Prop} {M:Mem} {bs:List J} {o:Option b1} {f:FuncId} {args:List J} {eO:J} {Y:Type} {bm:Y->List J} {ef dK:aF} {a1:List bx} {bN:eH} {dG:Mem} {az n7:List cb} {xf:Y->List cb}
  (aI:bK B dG az M n7) (is:List Nat) (kp DK:Y->List cb) (he:hb o=some (f,args)) (dg:cr (kS Tryd.prog o) ef a1=some bN) (eL:g' N ef (kc o) eO=some dK)
  (ik:j6 n7.length is=true:=by exact rfl) (hL:∀y,xf y=kp y++DK y:=by exact λ_=>rfl)
  (fC:∀w,(∀i o,M i=some o->w.heap[i]? =some o)->B<=w.heap.size->cH (aE w) (AE.pick n7 is)->Calls Tryd.prog f ⟨@ep (aX M bs) args⟩ w λe w'=>(∃y,e= .returned (@aJ (aX M (bm y)) eO)/\cZ (aE w) (AE.pick n7 is) (aE w') (xf y))/\cj 0 w w')
  (rest:∀M' y,bK B dG az M' (lI n7 is (kp y)++DK y)->∀a6 w,@Here (aX M' (bm y)) _ N {sl:=dK,ms:=[],A:=da a1} B w0 a6 w->wpListIn (Fr none) 0 Tryd.prog (kP o) (d' Tryd.prog (gC o) Q) (kO o) a6 w)
  (ao:∀M' y,@aJ (aX M' (bm y)) eO= @aJ (aX M (bm y)) eO:=by exact λ_ _=>rfl)
  (hm:∀y M',fO (aX M bs) (aX M' (bm y)) bN:=by exact λ_ _=>fw)
  (hlen:∀y,(kp y).length=is.length:=by exact λ_=>rfl) (hp:dM args=true:=by rfl) (fD:aM eO=true:=by rfl)
  (av:cV.ev<=a1.length:=by first|exact Nat.zero_le _|exact gI rfl) (ar:ix (kS Tryd.prog o).A a1 0:=by exact gW rfl): @fA (aX M bs) _ Tryd.prog N B w0 Q o:=
 WQ aI is kp DK (QS he).1 (QS he).2.1 (QS he).2.2 dg eL ik ao hL fC hm rest hlen hp fD av ar
section
variable [a7] {f:FuncId} {fn:Func} {args:List J} {W:ax} {R:Ending->ax->Prop}
theorem Y4 (c:Code) (aO:b8) (N:Nat) (args:List J) (pD:oz W) (mZ:Tryd.prog.funcs[f]? =some fn) (rj:∀a,@Here _ gp N aO W.heap.size W a W->c.wpIn (Fr none) 0 Tryd.prog (@rk gp Tryd.prog fn N W.heap.size W R) a W)
  (ar:fn.body=some c:=by kernel_rfl) (gK:(match setArgs 0 args .nil with|some sl=>some ({sl,ms:=[],A:=start}:b8)|none=>none)=some aO:=by kernel_rfl) (hp:dM args=true:=by kernel_rfl) (kn:args.length+(fn.ntmps-args.length)=N:=by kernel_rfl):Calls Tryd.prog f ⟨ep args⟩ W R:=by
 cases e:setArgs 0 args .nil with
 |none=>rw[e] at gK;cases gK
 |some sl=>rw[e] at gK;cases gK;exact V2 mZ ar e hp kn pD rj
theorem aji (c:Code) (aO:b8) (N:Nat) (args:List J) (pD:oz W) (mZ:Tryd.prog.funcs[f]? =some fn) (rj:∀a,@Here _ gp N aO 0 W a W->c.wpIn (Fr none) 0 Tryd.prog (@rk gp Tryd.prog fn N 0 W R) a W)
  (ar:fn.body=some c:=by kernel_rfl) (gK:(match setArgs 0 args .nil with|some sl=>some ({sl,ms:=[],A:=start}:b8)|none=>none)=some aO:=by kernel_rfl) (hp:dM args=true:=by kernel_rfl) (kn:args.length+(fn.ntmps-args.length)=N:=by kernel_rfl):Calls Tryd.prog f ⟨ep args⟩ W R:=by
 cases e:setArgs 0 args .nil with
 |none=>rw[e] at gK;cases gK
 |some sl=>rw[e] at gK;cases gK;exact V_ mZ ar e hp kn pD rj
end
section
variable [cV] {N B:Nat} {w0:ax} {X:Type}
end
section
variable [a7] [cV] {N B:Nat} {w0 w:ax} {a:Act} {Q:Exit->Act->ax->Prop} [nb Q]
end
abbrev b6 {s:a7} {o:cV} {N:Nat} {st:b8} {B:Nat} {w0:ax} {a:Act} {w:ax} (_: @Here s o N st B w0 a w):a7:=s
section
variable {B:Nat} {dG:Mem} {cc:List cb} {M:Mem}
theorem bK.K9 {fN:cb} (h:bK B dG cc M [fN]):bK B dG cc M [fN]:=h
theorem bK.G2 {fN eJ:cb} (h:bK B dG cc M [fN,eJ]):bK B dG cc M [fN,eJ]:=h
theorem bK.wi {fN eJ gR:cb} (h:bK B dG cc M [fN,eJ,gR]):bK B dG cc M [fN,eJ,gR]:=h
theorem bK.BZ {fN eJ gR hh:cb} (h:bK B dG cc M [fN,eJ,gR,hh]):bK B dG cc M [fN,eJ,gR,hh]:=h
theorem bK.B0 {fN eJ gR hh hZ:cb} (h:bK B dG cc M [fN,eJ,gR,hh,hZ]):bK B dG cc M [fN,eJ,gR,hh,hZ]:=h
theorem bK.Aa {fN eJ gR hh hZ im:cb} (h:bK B dG cc M [fN,eJ,gR,hh,hZ,im]):bK B dG cc M [fN,eJ,gR,hh,hZ,im]:=h
theorem bK.QT {fN eJ gR hh hZ im iY:cb} (h:bK B dG cc M [fN,eJ,gR,hh,hZ,im,iY]):bK B dG cc M [fN,eJ,gR,hh,hZ,im,iY]:=h
theorem bK.ajj {fN eJ gR hh hZ im iY jR:cb} (h:bK B dG cc M [fN,eJ,gR,hh,hZ,im,iY,jR]):bK B dG cc M [fN,eJ,gR,hh,hZ,im,iY,jR]:=h
theorem bK.ajk {fN eJ gR hh hZ im iY jR kg:cb} (h:bK B dG cc M [fN,eJ,gR,hh,hZ,im,iY,jR,kg]):bK B dG cc M [fN,eJ,gR,hh,hZ,im,iY,jR,kg]:=h
theorem bK.Y5 {fN eJ gR hh hZ im iY jR kg kY:cb} (h:bK B dG cc M [fN,eJ,gR,hh,hZ,im,iY,jR,kg,kY]):bK B dG cc M [fN,eJ,gR,hh,hZ,im,iY,jR,kg,kY]:=h
theorem bK.QU {fN eJ gR hh hZ im iY jR kg kY l7:cb} (h:bK B dG cc M [fN,eJ,gR,hh,hZ,im,iY,jR,kg,kY,l7]):bK B dG cc M [fN,eJ,gR,hh,hZ,im,iY,jR,kg,kY,l7]:=h
theorem bK.B1 {fN eJ gR hh hZ im iY jR kg kY l7 nu:cb} (h:bK B dG cc M [fN,eJ,gR,hh,hZ,im,iY,jR,kg,kY,l7,nu]):bK B dG cc M [fN,eJ,gR,hh,hZ,im,iY,jR,kg,kY,l7,nu]:=h
theorem bK.Ec {fN eJ gR hh hZ im iY jR kg kY l7 nu oK:cb} (h:bK B dG cc M [fN,eJ,gR,hh,hZ,im,iY,jR,kg,kY,l7,nu,oK]):bK B dG cc M [fN,eJ,gR,hh,hZ,im,iY,jR,kg,kY,l7,nu,oK]:=h
theorem bK.QV {fN eJ gR hh hZ im iY jR kg kY l7 nu oK qo:cb} (h:bK B dG cc M [fN,eJ,gR,hh,hZ,im,iY,jR,kg,kY,l7,nu,oK,qo]):bK B dG cc M [fN,eJ,gR,hh,hZ,im,iY,jR,kg,kY,l7,nu,oK,qo]:=h
theorem bK.ajl {fN eJ gR hh hZ im iY jR kg kY l7 nu oK qo sE:cb} (h:bK B dG cc M [fN,eJ,gR,hh,hZ,im,iY,jR,kg,kY,l7,nu,oK,qo,sE]):bK B dG cc M [fN,eJ,gR,hh,hZ,im,iY,jR,kg,kY,l7,nu,oK,qo,sE]:=h
theorem bK.ajm {fN eJ gR hh hZ im iY jR kg kY l7 nu oK qo sE wj:cb} (h:bK B dG cc M [fN,eJ,gR,hh,hZ,im,iY,jR,kg,kY,l7,nu,oK,qo,sE,wj]):bK B dG cc M [fN,eJ,gR,hh,hZ,im,iY,jR,kg,kY,l7,nu,oK,qo,sE,wj]:=h
theorem bK.Ed {fN eJ gR hh hZ im iY jR kg kY l7 nu oK qo sE wj Ab:cb} (h:bK B dG cc M [fN,eJ,gR,hh,hZ,im,iY,jR,kg,kY,l7,nu,oK,qo,sE,wj,Ab]):bK B dG cc M [fN,eJ,gR,hh,hZ,im,iY,jR,kg,kY,l7,nu,oK,qo,sE,wj,Ab]:=h
theorem bK.ajn {fN eJ gR hh hZ im iY jR kg kY l7 nu oK qo sE wj Ab G3:cb} (h:bK B dG cc M [fN,eJ,gR,hh,hZ,im,iY,jR,kg,kY,l7,nu,oK,qo,sE,wj,Ab,G3]):bK B dG cc M [fN,eJ,gR,hh,hZ,im,iY,jR,kg,kY,l7,nu,oK,qo,sE,wj,Ab,G3]:=h
theorem bK.ajo {fN eJ gR hh hZ im iY jR kg kY l7 nu oK qo sE wj Ab G3 Y6:cb} (h:bK B dG cc M [fN,eJ,gR,hh,hZ,im,iY,jR,kg,kY,l7,nu,oK,qo,sE,wj,Ab,G3,Y6]):bK B dG cc M [fN,eJ,gR,hh,hZ,im,iY,jR,kg,kY,l7,nu,oK,qo,sE,wj,Ab,G3,Y6]:=h
end
section
variable {f:FuncId} {fn:Func} {W:ax} {R:Ending->ax->Prop}
theorem jI (bs:List J) (c:Code) (aO:b8) (N:Nat) (args:List J) (mZ:Tryd.prog.funcs[f]? =some fn) (rj:∀a,@Here (aX (aE W) bs) gp N aO W.heap.size W a W->c.wpIn (Fr none) 0 Tryd.prog (@rk gp Tryd.prog fn N W.heap.size W R) a W)
  (ar:fn.body=some c:=by kernel_rfl) (gK:(match setArgs 0 args .nil with|some sl=>some ({sl,ms:=[],A:=start}:b8)|none=>none)=some aO:=by kernel_rfl) (hp:dM args=true:=by kernel_rfl) (kn:args.length+(fn.ntmps-args.length)=N:=by kernel_rfl):Calls Tryd.prog f ⟨@ep (aX (aE W) bs) args⟩ W R:=
 @Y4 (aX (aE W) bs) _ _ _ _ c aO N args (Od W _) mZ rj ar gK hp kn
theorem pN (bs:List J) (c:Code) (aO:b8) (N:Nat) (args:List J) (mZ:Tryd.prog.funcs[f]? =some fn) (rj:∀a,@Here (aX (aE W) bs) gp N aO 0 W a W->c.wpIn (Fr none) 0 Tryd.prog (@rk gp Tryd.prog fn N 0 W R) a W)
  (ar:fn.body=some c:=by kernel_rfl) (gK:(match setArgs 0 args .nil with|some sl=>some ({sl,ms:=[],A:=start}:b8)|none=>none)=some aO:=by kernel_rfl) (hp:dM args=true:=by kernel_rfl) (kn:args.length+(fn.ntmps-args.length)=N:=by kernel_rfl):Calls Tryd.prog f ⟨@ep (aX (aE W) bs) args⟩ W R:=
 @aji (aX (aE W) bs) _ _ _ _ c aO N args (Od W _) mZ rj ar gK hp kn
end
theorem et {N:Nat} {sl:aF} {d:Option Tmp} (h:aF) (v:J) (p:g' N sl d v=some h:=by kernel_rfl):g' N sl d v=some h:=p
theorem dQ {o:Option b1} (p:dU) (h:QO o=QP p:=by kernel_rfl):QO o=QP p:=h
theorem lO {α:Type} [Inhabited α] {l:List α} (i:Nat) (h:i<l.length:=by omega):l[i]? =some (l.getD i default):=FG h
abbrev cm:=Option Addr
theorem bU [a7] [cV] {P:aS} {fn:Func} {N B:Nat} {w0:ax} {A:Ending->ax->Prop} {o:Option b1} {v:J} (h:fm P fn o=some v) (jE:∀w2,oz w2->A (.returned (aJ v)) w2):fA P N B w0 (rk P fn N B w0 λe w=>A e w/\cj B w0 w) o:=jo h λw2 hl ai=>⟨jE w2 ai,hl⟩
theorem ajp {α:Type} [Inhabited α] {l:List α} {i:Nat} {z:α} (h:l[i]? =some z):l.ew i=z:=getD_some h
theorem QW [cV] {α:Type} {P:aS} {N B:Nat} {w0:ax} {Q:Exit->Act->ax->Prop} {M:Mem} {bs:List J} {o:Option b1} {t e:aK} {k:Nat} {p x u nL:J} {enc:α->List J} {l l':List α} {i:Nat} {y:α} {ef dK:aF} {a1:List bx} {bN:eH} (j:Nat) (bm:List J)
  (gb:l'=l.set i y) (h:nJ o=some (t,p,x)) (al:∀x,(enc x).length=k) (dg:cr (b9 o) ef a1=some bN) (eL:g' N ef (kc o) undef=some dK) (cO:dw B M e k enc u l) (ai:i<l.length)
  (rest:∀M',dw B M' e k enc u l'->h8 M M' (eP u)->∀a6 w,@Here (aX M' bm) _ N {sl:=dK,ms:=[],A:=da a1} B w0 a6 w->wpListIn (Fr none) 0 P (kP o) (d' P (gC o) Q) (kO o) a6 w)
  (cv:bk P (sizeOf t)=some 1:=by kernel_rfl) (hj:j<k:=by decide) (ml: @aJ (aX M bs) p=hd u (i*k+j):=by exact rfl) (ex: @aJ (aX M bs) x=nL:=by exact rfl) (hu:nL.cells= #[nL]:=by exact rfl) (kd:nL.oneCell'=true:=by exact rfl)
  (hp:aM p=true:=by exact rfl) (aq:aM x=true:=by exact rfl) (bE:∀z,l[i]? =some z->enc y=(enc z).set j nL:=by intro z bW;first|rfl|(rw[getD_some bW];rfl)|(rw[ajp bW];rfl)) (hm:∀M',fO (aX M bs) (aX M' bm) bN:=by exact λ_=>fw)
  (av:cV.ev<=a1.length:=by first|exact Nat.zero_le _|exact gI rfl) (ar:ix (b9 o).A a1 0:=by exact gW rfl): @fA (aX M bs) _ P N B w0 Q o:=
 WJ gb h cv al hj bE dg eL hp aq ml ex hu kd cO ai hm rest av ar
theorem Ee [cV] {P:aS} {N B:Nat} {w0:ax} {Q:Exit->Act->ax->Prop} {M:Mem} {bs:List J} {o:Option b1} {t ty:aK} {g:Nat} {p x u:J} {cs:List J} {ef dK:aF} {a1:List bx} {bN:eH} (j:Nat) (cs' bm:List J)
  (h:nJ o=some (t,p,x)) (dg:cr (b9 o) ef a1=some bN) (eL:g' N ef (kc o) undef=some dK) (cO:jr B M (.pointer (some ⟨g,0,none⟩)) ty cs)
  (rest:∀M',jr B M' (.pointer (some ⟨g,0,none⟩)) ty cs'->h8 M M' (some g)->∀a6 w,@Here (aX M' bm) _ N {sl:=dK,ms:=[],A:=da a1} B w0 a6 w->wpListIn (Fr none) 0 P (kP o) (d' P (gC o) Q) (kO o) a6 w)
  (cv:bk P (sizeOf t)=some 1:=by kernel_rfl) (ml: @aJ (aX M bs) p= .pointer (some ⟨g,j,none⟩):=by exact rfl) (ex: @aJ (aX M bs) x=u:=by exact rfl) (gb:cs'=cs.set j u:=by exact rfl) (hu:u.cells= #[u]:=by exact rfl) (kd:u.oneCell'=true:=by exact rfl)
  (hp:aM p=true:=by exact rfl) (aq:aM x=true:=by exact rfl) (hj:j<cs.length:=by exact gI rfl) (hm:∀M',fO (aX M bs) (aX M' bm) bN:=by exact λ_=>fw)
  (av:cV.ev<=a1.length:=by first|exact Nat.zero_le _|exact gI rfl) (ar:ix (b9 o).A a1 0:=by exact gW rfl): @fA (aX M bs) _ P N B w0 Q o:=
 WA gb h cv dg eL hp aq ml ex hu kd cO hj hm rest av ar
end AE
end
end
namespace AE
abbrev d_:=Int×Int×Int
abbrev bQ:=Int×Int×Int×Int×Int×Int
def ajq (x:d_):List J:=[.int .i64 x.1,.int .i64 x.2.1,.int .i64 x.2.2]
abbrev P.val (x:d_):J:= .agg ⟨ajq x⟩
def xt (x:bQ):List J:=[.int .i64 x.1,.int .i64 x.2.1,.int .i64 x.2.2.1,.int .i64 x.2.2.2.1,.int .i64 x.2.2.2.2.1,.int .i64 x.2.2.2.2.2]
abbrev X.val (x:bQ):J:= .agg ⟨xt x⟩
theorem G4 {a b c a6 b' c':Int} (ad:a=a6) (ag:b=b') (ay:c=c'):Ending.returned (.agg ⟨[.int .i64 a,.int .i64 b,.int .i64 c]⟩)=Ending.returned (P.val (a6,b',c')):=by rw[ad,ag,ay];rfl
theorem ajr {a b c a6 b' c':Int} {x:Bool} (ad:a=a6) (ag:b=b') (ay:c=c'):Ending.returned (.tuple #[.agg ⟨[.int .i64 a,.int .i64 b,.int .i64 c]⟩,.bool x])=Ending.returned (.tuple #[P.val (a6,b',c'),.bool x]):=by rw[ad,ag,ay];rfl
theorem ajs {v f:Int} {c:Nat} {up:Bool} (aL:up=true) (ad:c=3) (ag:v=15) (ay:f=1):given v f c up=15:=aY ⟨aL,ad,ag,ay⟩
theorem K' {v f:Int} {c:Nat} {up:Bool} (h:¬(up=true/\c=3/\v=15/\f=1)):given v f c up=max 0 (v-f):=a_ h
def bV (p:d_) (b:bQ):Prop:=b.1<=p.1/\p.1<b.2.2.2.1/\b.2.1<=p.2.1/\p.2.1<b.2.2.2.2.1/\b.2.2.1<=p.2.2/\p.2.2<b.2.2.2.2.2
instance (p:d_) (b:bQ):Decidable (bV p b):=by unfold bV;infer_instance
def okB (b:bQ):Prop:= -1048575<=b.1/\b.1<=1048575/\ -1048575<=b.2.1/\b.2.1<=1048575/\ -1048575<=b.2.2.1/\b.2.2.1<=1048575/\ -1048575<=b.2.2.2.1/\b.2.2.2.1<=1048575/\ -1048575<=b.2.2.2.2.1/\b.2.2.2.2.1<=1048575/\ -1048575<=b.2.2.2.2.2/\b.2.2.2.2.2<=1048575
instance (b:bQ):Decidable (okB b):=by unfold okB;infer_instance
def iZ (b:bQ):Prop:=b.1<b.2.2.2.1/\b.2.1<b.2.2.2.2.1/\b.2.2.1<b.2.2.2.2.2
instance (b:bQ):Decidable (iZ b):=by unfold iZ;infer_instance
def bO (b:bQ):d_:=if iZ b then (b.2.2.2.1-b.1,b.2.2.2.2.1-b.2.1,b.2.2.2.2.2-b.2.2.1) else (0,0,0)
def fx (b:bQ):Int:=(bO b).1*(bO b).2.1*(bO b).2.2
def Ac (b:bQ) (p:d_):Int:=if bV p b then (((p.2.2+((-1)*b.2.2.1))*(bO b).2.1)+(p.2.1+((-1)*b.2.1)))*(bO b).1+(p.1+((-1)*b.1)) else -1
def fu (b:bQ) (i:Int):d_:=if 0<=i/\i<fx b then (b.1+i%(bO b).1,b.2.1+i/(bO b).1%(bO b).2.1,b.2.2.1+i/(bO b).1/(bO b).2.1) else (0,0,0)
theorem K_ {a b:Int} {A B:Nat} (ad:0<=a) (ag:a<=A) (ay:0<=b) (bG:b<=B):0<=a*b/\a*b<=((A*B:Nat):Int):=by
 refine⟨Int.mul_nonneg ad ay,?_⟩;rw[Int.natCast_mul];exact Int.mul_le_mul ag bG ay aj
theorem uZ {b:bQ} (h:iZ b):bO b=(b.2.2.2.1-b.1,b.2.2.2.2.1-b.2.1,b.2.2.2.2.2-b.2.2.1):=aY h
theorem xu {b:bQ} (h:¬iZ b):bO b=(0,0,0):=a_ h
theorem ajt {p:d_} {b:bQ} (h:bV p b):iZ b:=by
 unfold bV at h;unfold iZ;omega
theorem j9 {p:d_} {b:bQ} (h:bV p b):b.1<=p.1/\p.1<b.2.2.2.1/\b.2.1<=p.2.1/\p.2.1<b.2.2.2.2.1/\b.2.2.1<=p.2.2/\p.2.2<b.2.2.2.2.2:=h
theorem G5 {p:d_} {b:bQ} (h:bV p b):Ac b p=(((p.2.2+((-1)*b.2.2.1))*(bO b).2.1)+(p.2.1+((-1)*b.2.1)))*(bO b).1+(p.1+((-1)*b.1)):=aY h
theorem Ef {p:d_} {b:bQ} (h:¬bV p b):Ac b p= -1:=a_ h
theorem B2 {b:bQ} (af:okB b):0<=(bO b).1/\(bO b).1<=2097150/\0<=(bO b).2.1/\(bO b).2.1<=2097150/\0<=(bO b).2.2/\(bO b).2.2<=2097150:=by
 unfold okB at af;unfold bO;split
 ·rename_i h
  unfold iZ at h;dsimp only;omega
 ·dsimp only
  omega
theorem QX {b:bQ} (af:okB b):0<=(bO b).1*(bO b).2.1/\(bO b).1*(bO b).2.1<=4398038122500/\0<=(bO b).1*(bO b).2.1*(bO b).2.2/\(bO b).1*(bO b).2.1*(bO b).2.2<=9223345648600875000:=by
 obtain⟨ad,ag,ay,bG,cJ,cU⟩:=B2 af;obtain⟨wO,m2⟩:=K_ (A:=2097150) (B:=2097150) ad aj ay aj;obtain⟨QY,aju⟩:=K_ (A:=4398038122500) (B:=2097150) wO aj cJ aj;exact⟨wO,aj,QY,aj⟩
theorem pa {p:d_} {b:bQ} (af:okB b) (h:bV p b):0<=((p.2.2+((-1)*b.2.2.1))*(bO b).2.1)/\((p.2.2+((-1)*b.2.2.1))*(bO b).2.1)<=4398038122500/\0<=(((p.2.2+((-1)*b.2.2.1))*(bO b).2.1)+(p.2.1+((-1)*b.2.1)))*(bO b).1/\(((p.2.2+((-1)*b.2.2.1))*(bO b).2.1)+(p.2.1+((-1)*b.2.1)))*(bO b).1<=9223345648600875000:=by
 obtain⟨ad,ag,ay,bG,cJ,cU⟩:=B2 af;have aR:=ajt h;unfold okB at af;unfold bV at h;obtain⟨wO,m2⟩:=K_ (a:=p.2.2+((-1)*b.2.2.1)) (b:=(bO b).2.1) (A:=2097149) (B:=2097150) aj aj ay aj;have fR:p.2.1+((-1)*b.2.1)+1<=(bO b).2.1:=by
  rw[uZ aR];dsimp only;omega
 obtain⟨QY,aju⟩:=K_ (a:=(((p.2.2+((-1)*b.2.2.1))*(bO b).2.1)+(p.2.1+((-1)*b.2.1)))) (b:=(bO b).1) (A:=4398038122500) (B:=2097150) aj aj ad aj;exact⟨wO,aj,QY,aj⟩
theorem Y7 {b:bQ} {i:Int} (aL:0<=i) (ad:¬((bO b).1*(bO b).2.1)*(bO b).2.2<=i):iZ b:=by
 by_cases h:iZ b
 ·exact h
 ·rw[xu h] at ad
  simp at ad;omega
theorem rG {b:bQ} {i:Int} (af:okB b) (aL:0<=i) (ad:¬((bO b).1*(bO b).2.1)*(bO b).2.2<=i):
  1<=(bO b).1/\1<=(bO b).2.1/\0<=i/(bO b).1/\i/(bO b).1<=i/\0<=i%(bO b).1/\i%(bO b).1<(bO b).1/\0<=i/(bO b).1%(bO b).2.1/\i/(bO b).1%(bO b).2.1<(bO b).2.1/\0<=i/(bO b).1/(bO b).2.1/\i/(bO b).1/(bO b).2.1<(bO b).2.2/\i<=9223345648600875000:=by
 have aR:=Y7 aL ad;have aC:=QX af;have aw:=B2 af;have aq:1<=(bO b).1:=by
  rw[uZ aR];unfold iZ at aR;dsimp only;omega
 have bE:1<=(bO b).2.1:=by
  rw[uZ aR];unfold iZ at aR;dsimp only;omega
 have ag:0<=i/(bO b).1:=Int.ediv_nonneg aL aj;refine⟨aq,bE,ag,Int.ediv_le_self _ aL,Int.emod_nonneg _ aj,Int.emod_lt_of_pos _ aj,Int.emod_nonneg _ aj,Int.emod_lt_of_pos _ aj,Int.ediv_nonneg ag aj,?_,aj⟩;refine Int.ediv_lt_of_lt_mul aj (Int.ediv_lt_of_lt_mul aj ?_);rw[show (bO b).2.2*(bO b).2.1*(bO b).1=(bO b).1*(bO b).2.1*(bO b).2.2 by rw[Int.mul_comm (bO b).2.2,Int.mul_assoc,Int.mul_comm (bO b).2.2,<-Int.mul_assoc,Int.mul_comm (bO b).2.1]];omega
theorem Y8 {b:bQ} {i:Int} (aL:0<=i) (ad:¬((bO b).1*(bO b).2.1)*(bO b).2.2<=i):fu b i=(b.1+i%(bO b).1,b.2.1+i/(bO b).1%(bO b).2.1,b.2.2.1+i/(bO b).1/(bO b).2.1):=aY ⟨aL,by unfold fx;omega⟩
theorem QZ {b:bQ} {i:Int} (h:¬(0<=i/\i<fx b)):fu b i=(0,0,0):=a_ h
end AE
namespace AE
theorem Y9 (p q:bR):rn Tryd.prog 10000 qe (L.val p) (L.val q)=some (p.1==q.1&&(p.2.1==q.2.1&&(p.2.2.1==q.2.2.1&&(p.2.2.2==q.2.2.2&&true)))):=au
theorem ajv:Tryd.prog.eqGuardType Tryd.prog.depth qe=false:=au
theorem Y' (p q:bR):(p.1==q.1&&(p.2.1==q.2.1&&(p.2.2.1==q.2.2.1&&(p.2.2.2==q.2.2.2&&true))))=decide (p=q):=by
 obtain⟨a,b,c,d⟩:=p;obtain⟨a6,b',c',ou⟩:=q;rw[Bool.eq_iff_iff];simp
section
variable [a7]
theorem Y_ {x y:J} {p q:bR} (aq:aM x=true) (bE:aM y=true) (ex:aJ x=L.val p) (hN:aJ y=L.val q) {d:Bool} (bg:d= !decide (p=q)):aV Tryd.prog (.bin .neq qe x y,.bool d):=by
 subst bg;exact aV.JH ajv aq bE ex hN ((Y9 p q).trans (by rw[Y']))
end
def Eg (F:Int) (old x:bR) (fI:Int) (c:Nat):Int:=if 0<cn old c/\0<cn x c/\cn x c=given (cn old c) F c (decide (fI<0)) then cn x c else 0
def Ad (F:Int) (old x:bR) (fI:Int):bR:=rA (Eg F old x fI)
def B3 (l:List az) (n:Nat) (eR:bR):List az:=if eR=z4 then l else l++[(n,eR)]
def yP (l:List Nat) (n:Nat) (eR:bR):List Nat:=if eR=z4 then l else l++[n]
def Ae (l:List bR) (n:Nat) (eR:bR):List bR:=if eR=z4 then l else l.set n (vT eR (l.getD n default))
theorem ajw {l:List az} {g:List Nat} {li:List bR} {n:Nat} {eR:bR} (h:eR=z4):B3 l n eR=l/\yP g n eR=g/\Ae li n eR=li:=⟨aY h,aY h,aY h⟩
theorem ajx {l:List az} {g:List Nat} {li:List bR} {n:Nat} {eR:bR} (h:¬eR=z4):B3 l n eR=l++[(n,eR)]/\yP g n eR=g++[n]/\Ae li n eR=li.set n (vT eR (li.getD n default)):=⟨a_ h,a_ h,a_ h⟩
theorem ajy {F fI:Int} {old x:bR} {c:Nat} (ad:0<cn old c) (ag:0<cn x c) (ay:cn x c=given (cn old c) F c (decide (fI<0))):Eg F old x fI c=cn x c:=aY ⟨ad,ag,ay⟩
theorem Q0 {F fI:Int} {old x:bR} {c:Nat} (h:¬(0<cn old c/\0<cn x c/\cn x c=given (cn old c) F c (decide (fI<0)))):Eg F old x fI c=0:=a_ h
def Za (F:Int) (out x:bR) (fI:Int) (c:Nat):Int:=max (cn out c) (given (cn x c) F c (decide (0<fI)))
def B4 (F:Int) (out x:bR) (fI:Int):bR:=rA (Za F out x fI)
end AE
namespace AE
def cl (b:bQ) (p:d_):Nat:=(Ac b p).toNat
def xv (b:bQ) (k j:Nat):List (Nat×Int):=xh (bO b).1.toNat (bO b).2.1.toNat (bO b).2.2.toNat k j
def eu (b:bQ) (sh:List Bool) (k j:Nat):List (Nat×Int):=(xv b k j).filter λp=>sh.getD p.1 default
def iL (b:bQ) (k:Nat):Nat->d_
 |0=>((fu b ((k:Nat):Int)).1+(-1),(fu b ((k:Nat):Int)).2.1,(fu b ((k:Nat):Int)).2.2)
 |1=>((fu b ((k:Nat):Int)).1+1,(fu b ((k:Nat):Int)).2.1,(fu b ((k:Nat):Int)).2.2)
 |2=>((fu b ((k:Nat):Int)).1,(fu b ((k:Nat):Int)).2.1+(-1),(fu b ((k:Nat):Int)).2.2)
 |3=>((fu b ((k:Nat):Int)).1,(fu b ((k:Nat):Int)).2.1+1,(fu b ((k:Nat):Int)).2.2)
 |4=>((fu b ((k:Nat):Int)).1,(fu b ((k:Nat):Int)).2.1,(fu b ((k:Nat):Int)).2.2+(-1))
 |_=>((fu b ((k:Nat):Int)).1,(fu b ((k:Nat):Int)).2.1,(fu b ((k:Nat):Int)).2.2+1)
def qa:Nat->Int
 |4=> -1
 |5=>1
 |_=>0
theorem Zb {b:bQ} {k:Nat} (al:k<(fx b).toNat):∃bI bZ bc:Nat,(bO b)=(((bI:Nat):Int),((bZ:Nat):Int),((bc:Nat):Int))/\k<bI*bZ*bc/\b.2.2.2.1=b.1+bI/\b.2.2.2.2.1=b.2.1+bZ/\b.2.2.2.2.2=b.2.2.1+bc:=by
 by_cases aR:iZ b
 ·have aw:=uZ aR
  unfold iZ at aR;refine⟨(b.2.2.2.1-b.1).toNat,(b.2.2.2.2.1-b.2.1).toNat,(b.2.2.2.2.2-b.2.2.1).toNat,?_,?_,aj,aj,aj⟩
  ·rw[aw,Int.toNat_of_nonneg aj,Int.toNat_of_nonneg aj,Int.toNat_of_nonneg aj]
  ·unfold fx at al
   rw[aw] at al;dsimp only at al;rw[Int.toNat_mul (Int.mul_nonneg aj aj) aj,Int.toNat_mul aj aj] at al;exact al
 ·unfold fx at al
  rw[xu aR] at al;simp at al
theorem Zc {b:bQ} {k:Nat} {sh:List Bool} (al:k<sh.length) (hl:sh.length=(fx b).toNat):0<=((k:Nat):Int)/\((k:Nat):Int)<fx b:=by omega
theorem Q1 {b:bQ} {bI bZ bc x y z:Nat} (aw:bO b=(((bI:Nat):Int),((bZ:Nat):Int),((bc:Nat):Int))) (ad:b.2.2.2.1=b.1+bI) (ag:b.2.2.2.2.1=b.2.1+bZ) (ay:b.2.2.2.2.2=b.2.2.1+bc) (aq:x<bI) (bE:y<bZ) (bW:z<bc):
  bV (b.1+x,b.2.1+y,b.2.2.1+z) b/\cl b (b.1+x,b.2.1+y,b.2.2.1+z)=nh bI bZ x y z:=by
 have lF:bV (b.1+((x:Nat):Int),b.2.1+((y:Nat):Int),b.2.2.1+((z:Nat):Int)) b:=by
  unfold bV;dsimp only;omega
 refine⟨lF,?_⟩;unfold cl;rw[G5 lF,aw];dsimp only;unfold nh;rw[show b.2.2.1+((z:Nat):Int)+ -1*b.2.2.1=((z:Nat):Int) by omega,show b.2.1+((y:Nat):Int)+ -1*b.2.1=((y:Nat):Int) by omega,show b.1+((x:Nat):Int)+ -1*b.1=((x:Nat):Int) by omega];rw[show (((z:Nat):Int)*((bZ:Nat):Int)+((y:Nat):Int))*((bI:Nat):Int)+((x:Nat):Int)=(((z*bZ+y)*bI+x:Nat):Int) by simp];exact Int.toNat_natCast _
theorem G6 {b:bQ} {k:Nat} {sh:List Bool} (al:k<sh.length) (hl:sh.length=(fx b).toNat) (q:d_):cl b q<sh.length:=by
 by_cases bf:bV q b
 ·obtain⟨bI,bZ,bc,aw,BH,ad,ag,ay⟩:=Zb (b:=b) (k:=k) aj
  have h:=j9 bf;obtain⟨x,aq⟩:∃x:Nat,q.1=b.1+x:=⟨(q.1-b.1).toNat,aj⟩;obtain⟨y,bE⟩:∃x:Nat,q.2.1=b.2.1+x:=⟨(q.2.1-b.2.1).toNat,aj⟩;obtain⟨z,bW⟩:∃x:Nat,q.2.2=b.2.2.1+x:=⟨(q.2.2-b.2.2.1).toNat,aj⟩;have ajz:q=(b.1+((x:Nat):Int),b.2.1+((y:Nat):Int),b.2.2.1+((z:Nat):Int)):=by
   obtain⟨q1,aH,b0⟩:=q;dsimp only at aq bE bW;rw[aq,bE,bW]
  have ai:=(Q1 aw ad ag ay (x:=x) (y:=y) (z:=z) aj aj aj).2;rw[ajz,ai,hl];have aC:(fx b).toNat=bI*bZ*bc:=by
   unfold fx;rw[aw];dsimp only;rw[<-Int.natCast_mul,<-Int.natCast_mul,Int.toNat_natCast]
  rw[aC];exact Xn aj aj aj
 ·unfold cl
  rw[Ef bf];show 0<_;omega
theorem Zd {b:bQ} {k bI bZ bc:Nat} (aw:bO b=(((bI:Nat):Int),((bZ:Nat):Int),((bc:Nat):Int))) (al:k<bI*bZ*bc):fu b ((k:Nat):Int)=(b.1+((iJ bI k:Nat):Int),b.2.1+((iK bI bZ k:Nat):Int),b.2.2.1+((hX bI bZ k:Nat):Int)):=by
 unfold fu fx;rw[aw];dsimp only;rw[aY ⟨aj,by rw[<-Int.natCast_mul,<-Int.natCast_mul];omega⟩];rfl
theorem Ze {b:bQ} (af:okB b) (i:Int): -1048575<=(fu b i).1/\(fu b i).1<=1048575/\ -1048575<=(fu b i).2.1/\(fu b i).2.1<=1048575/\ -1048575<=(fu b i).2.2/\(fu b i).2.2<=1048575:=by
 by_cases h:0<=i/\i<fx b
 ·have aC:¬((bO b).1*(bO b).2.1)*(bO b).2.2<=i:=by
   have:=h.2;unfold fx at this;omega
  have aR:=Y7 h.1 aC;have:=rG af h.1 aC;rw[Y8 h.1 aC,uZ aR] at*
  unfold okB at af;dsimp only at*
  omega
 ·rw[QZ h]
  decide
theorem Q2 {b:bQ} {k:Nat} {sh:List Bool} (al:k<sh.length) (hl:sh.length=(fx b).toNat) {j:Nat} (hj:j<6):
  (bV (iL b k j) b->xv b k (j+1)=xv b k j++[(cl b (iL b k j),qa j)])/\(¬bV (iL b k j) b->xv b k (j+1)=xv b k j):=by
 obtain⟨bI,bZ,bc,aw,BH,ad,ag,ay⟩:=Zb (b:=b) (k:=k) aj;obtain⟨hA,c2,c3⟩:=Km BH;have ha:=Zd aw BH;have wZ:xv b k (j+1)=xv b k j++uP bI bZ bc k j:=by
  unfold xv;rw[aw];rfl
 rw[wZ];have key:∀(d:Int) (x y z:Nat) (wk:Prop),(wk↔(x<bI/\y<bZ/\z<bc))->∀q:d_,q=(b.1+((x:Nat):Int),b.2.1+((y:Nat):Int),b.2.2.1+((z:Nat):Int))->∀[Decidable wk],∀l:List (Nat×Int),
   (bV q b->l++(if wk then [(nh bI bZ x y z,d)] else [])=l++[(cl b q,d)])/\(¬bV q b->l++(if wk then [(nh bI bZ x y z,d)] else [])=l):=by
  intro d x y z wk ar q bf _ l;subst bf;constructor
  ·intro lF
   have h:=j9 lF;dsimp only at h;have ah:x<bI/\y<bZ/\z<bc:=by omega
   rw[aY (ar.2 ah),(Q1 aw ad ag ay ah.1 ah.2.1 ah.2.2).2]
  ·intro lF
   rw[a_ (λh=>lF (Q1 aw ad ag ay (ar.1 h).1 (ar.1 h).2.1 (ar.1 h).2.2).1),List.append_nil]
 have out:∀q:d_,¬bV q b->∀(wk:Prop) [Decidable wk] (n:Nat) (d:Int),¬wk->∀l:List (Nat×Int),(bV q b->l++(if wk then [(n,d)] else [])=l++[(cl b q,d)])/\(¬bV q b->l++(if wk then [(n,d)] else [])=l):=by
  intro q bf wk _ n d ar l;exact⟨λh=>absurd h bf,λ_=>by rw[a_ ar,List.append_nil]⟩
 have Q3:∀q:d_,(q.1<b.1\/q.2.1<b.2.1\/q.2.2<b.2.2.1)->¬bV q b:=λq bf h=>by
  have:=j9 h;omega
 match j,hj with
 |0,_=>
  by_cases aL:0<iJ bI k
  ·exact key 0 (iJ bI k-1) (iK bI bZ k) (hX bI bZ k) (0<iJ bI k) ⟨λ_=>⟨aj,c2,c3⟩,λ_=>aL⟩ (iL b k 0) (by
    show ((fu b ((k:Nat):Int)).1+(-1),(fu b ((k:Nat):Int)).2.1,(fu b ((k:Nat):Int)).2.2)=_;rw[ha];dsimp only
    rw[show b.1+((iJ bI k:Nat):Int)+ -1=b.1+((iJ bI k-1:Nat):Int) by omega]) _
  ·exact out (iL b k 0) (Q3 _ (.inl (by
    show (fu b ((k:Nat):Int)).1+(-1)<_;rw[ha];dsimp only
    omega))) (0<iJ bI k) _ 0 aL _
 |1,_=>
  exact key 0 (iJ bI k+1) (iK bI bZ k) (hX bI bZ k) (iJ bI k+1<bI) ⟨λh=>⟨h,c2,c3⟩,λh=>h.1⟩ (iL b k 1) (by
    show ((fu b ((k:Nat):Int)).1+1,(fu b ((k:Nat):Int)).2.1,(fu b ((k:Nat):Int)).2.2)=_;rw[ha];dsimp only
    rw[show b.1+((iJ bI k:Nat):Int)+1=b.1+((iJ bI k+1:Nat):Int) by omega]) _
 |2,_=>
  by_cases aL:0<iK bI bZ k
  ·exact key 0 (iJ bI k) (iK bI bZ k-1) (hX bI bZ k) (0<iK bI bZ k) ⟨λ_=>⟨hA,aj,c3⟩,λ_=>aL⟩ (iL b k 2) (by
    show ((fu b ((k:Nat):Int)).1,(fu b ((k:Nat):Int)).2.1+(-1),(fu b ((k:Nat):Int)).2.2)=_;rw[ha];dsimp only
    rw[show b.2.1+((iK bI bZ k:Nat):Int)+ -1=b.2.1+((iK bI bZ k-1:Nat):Int) by omega]) _
  ·exact out (iL b k 2) (Q3 _ (.inr (.inl (by
    show (fu b ((k:Nat):Int)).2.1+(-1)<_;rw[ha];dsimp only
    omega)))) (0<iK bI bZ k) _ 0 aL _
 |3,_=>
  exact key 0 (iJ bI k) (iK bI bZ k+1) (hX bI bZ k) (iK bI bZ k+1<bZ) ⟨λh=>⟨hA,h,c3⟩,λh=>h.2.1⟩ (iL b k 3) (by
    show ((fu b ((k:Nat):Int)).1,(fu b ((k:Nat):Int)).2.1+1,(fu b ((k:Nat):Int)).2.2)=_;rw[ha];dsimp only
    rw[show b.2.1+((iK bI bZ k:Nat):Int)+1=b.2.1+((iK bI bZ k+1:Nat):Int) by omega]) _
 |4,_=>
  by_cases aL:0<hX bI bZ k
  ·exact key (-1) (iJ bI k) (iK bI bZ k) (hX bI bZ k-1) (0<hX bI bZ k) ⟨λ_=>⟨hA,c2,aj⟩,λ_=>aL⟩ (iL b k 4) (by
    show ((fu b ((k:Nat):Int)).1,(fu b ((k:Nat):Int)).2.1,(fu b ((k:Nat):Int)).2.2+(-1))=_;rw[ha];dsimp only
    rw[show b.2.2.1+((hX bI bZ k:Nat):Int)+ -1=b.2.2.1+((hX bI bZ k-1:Nat):Int) by omega]) _
  ·exact out (iL b k 4) (Q3 _ (.inr (.inr (by
    show (fu b ((k:Nat):Int)).2.2+(-1)<_;rw[ha];dsimp only
    omega)))) (0<hX bI bZ k) _ (-1) aL _
 |5,_=>
  exact key 1 (iJ bI k) (iK bI bZ k) (hX bI bZ k+1) (hX bI bZ k+1<bc) ⟨λh=>⟨hA,c2,h⟩,λh=>h.2.2⟩ (iL b k 5) (by
    show ((fu b ((k:Nat):Int)).1,(fu b ((k:Nat):Int)).2.1,(fu b ((k:Nat):Int)).2.2+1)=_;rw[ha];dsimp only
    rw[show b.2.2.1+((hX bI bZ k:Nat):Int)+1=b.2.2.1+((hX bI bZ k+1:Nat):Int) by omega]) _
theorem ajA {b:bQ} {k:Nat} {sh:List Bool} (al:k<sh.length) (hl:sh.length=(fx b).toNat) {j:Nat} (hj:j<6) (h:bV (iL b k j) b) (aw:sh.getD (cl b (iL b k j)) default=true):eu b sh k (j+1)=eu b sh k j++[(cl b (iL b k j),qa j)]:=by
 unfold eu;rw[(Q2 al hl hj).1 h,List.filter_append,List.filter_cons_of_pos (by exact aw),List.filter_nil]
theorem ajB {b:bQ} {k:Nat} {sh:List Bool} (al:k<sh.length) (hl:sh.length=(fx b).toNat) {j:Nat} (hj:j<6) (h:bV (iL b k j) b) (aw:¬sh.getD (cl b (iL b k j)) default=true):eu b sh k (j+1)=eu b sh k j:=by
 unfold eu;rw[(Q2 al hl hj).1 h,List.filter_append,List.filter_cons_of_neg (by exact aw),List.filter_nil,List.append_nil]
theorem ajC {b:bQ} {k:Nat} {sh:List Bool} (al:k<sh.length) (hl:sh.length=(fx b).toNat) {j:Nat} (hj:j<6) (h:¬bV (iL b k j) b):eu b sh k (j+1)=eu b sh k j:=by
 unfold eu;rw[(Q2 al hl hj).2 h]
def sF (l:List (Nat×Int)) (s:List Nat×List Bool):List Nat×List Bool:=l.foldl (λs p=>(mN s.1 s.2 p.1,nN s.2 p.1)) s
def pb (table:List cW) (lit:List Int) (old:bR) (s:List az×List Nat×List bR) (p:Nat×Int):List az×List Nat×List bR:=
 (B3 s.1 p.1 (Ad (eQ table (lit.getD p.1 default)).2.2.2.2.1 old (s.2.2.getD p.1 default) p.2),yP s.2.1 p.1 (Ad (eQ table (lit.getD p.1 default)).2.2.2.2.1 old (s.2.2.getD p.1 default) p.2),Ae s.2.2 p.1 (Ad (eQ table (lit.getD p.1 default)).2.2.2.2.1 old (s.2.2.getD p.1 default) p.2))
def mr (table:List cW) (lit:List Int) (old:bR) (l:List (Nat×Int)) (s:List az×List Nat×List bR):List az×List Nat×List bR:=l.foldl (pb table lit old) s
theorem Zf (a:List az) (n:Nat) (eR:bR):(B3 a n eR).length<=a.length+1:=by
 unfold B3;split<;>simp
theorem ajD (a:List Nat) (n:Nat) (eR:bR):(yP a n eR).length<=a.length+1:=by
 unfold yP;split<;>simp
theorem ajE (a:List bR) (n:Nat) (eR:bR):(Ae a n eR).length=a.length:=by
 unfold Ae;split<;>simp
def sG (F:Int) (aG:List bR) (l:List (Nat×Int)) (out:bR):bR:=l.foldl (λo p=>B4 F o (aG.getD p.1 default) p.2) out
end AE
namespace AE
def gY (m:cW):Nat->Int
 |0=>m.2.2.2.2.2.1
 |1=>m.2.2.2.2.2.2.1
 |_=>m.2.2.2.2.2.2.2
def La (m:cW) (top:Prop) [Decidable top]:bR:=(gY m 0,gY m 1,gY m 2,if top then given 15 m.2.2.2.2.1 3 true else 0)
def yQ (b:bQ) (k:Nat):Prop:=(fu b ((k:Nat):Int)).2.2=b.2.2.2.2.2-1
instance (b:bQ) (k:Nat):Decidable (yQ b k):=by unfold yQ;infer_instance
def wm (table:List cW) (lit:List Int) (aG:List bR) (b_:List Bool) (b:bQ) (k:Nat):bR:=
 if b_.getD k default=true then sG (eQ table (lit.getD k default)).2.2.2.2.1 aG (eu b b_ k 6) (La (eQ table (lit.getD k default)) (yQ b k)) else z4
theorem ajF {table:List cW} {lit:List Int} {aG:List bR} {b_:List Bool} {b:bQ} {k:Nat} (h:¬b_.getD k default=true):wm table lit aG b_ b k=z4:=a_ h
theorem ajG {table:List cW} {lit:List Int} {aG:List bR} {b_:List Bool} {b:bQ} {k:Nat} (h:b_.getD k default=true) (aN:yQ b k):wm table lit aG b_ b k=sG (eQ table (lit.getD k default)).2.2.2.2.1 aG (eu b b_ k 6) (gY (eQ table (lit.getD k default)) 0,gY (eQ table (lit.getD k default)) 1,gY (eQ table (lit.getD k default)) 2,given 15 (eQ table (lit.getD k default)).2.2.2.2.1 3 true):=by
 unfold wm La;rw[aY h,aY aN]
theorem ajH {table:List cW} {lit:List Int} {aG:List bR} {b_:List Bool} {b:bQ} {k:Nat} (h:b_.getD k default=true) (aN:¬yQ b k):wm table lit aG b_ b k=sG (eQ table (lit.getD k default)).2.2.2.2.1 aG (eu b b_ k 6) (gY (eQ table (lit.getD k default)) 0,gY (eQ table (lit.getD k default)) 1,gY (eQ table (lit.getD k default)) 2,0):=by
 unfold wm La;rw[aY h,a_ aN]
end AE
namespace AE
structure iM where
 aG:List bR
 bJ:List az
 gone:List Nat
 bz:List Nat
 waits:List Bool
 reqs:List gy
 lit:List Int
 b_:List Bool
def nv (l:List Nat) (s:List Nat×List Bool):List Nat×List Bool:=l.foldl (λs k=>(mN s.1 s.2 k,nN s.2 k)) s
def lv (i:Nat) (now old:bR):bR:=rA λc=>if c<i then max (cn now c) (cn old c) else cn old c
def wo (i:Nat) (now old:bR):Bool:=(decide (0<i)&&decide (cn old 0<cn now 0))||(decide (1<i)&&decide (cn old 1<cn now 1))||(decide (2<i)&&decide (cn old 2<cn now 2))||(decide (3<i)&&decide (cn old 3<cn now 3))
variable (table:List cW) (b:bQ)
def xw (u:iM) (x:az) (r:List az):List az×List Nat×List bR:=mr table u.lit x.2 (eu b u.b_ x.1 6) (r,u.gone,u.aG)
def yR (u:iM) (x:az) (r:List az):iM:=
 if (xw table b u x r).1.length=0 then
  {u with bJ:=(xw table b u x r).1,gone:=[],aG:=(xw table b u x r).2.2,bz:=(nv (xw table b u x r).2.1 (u.bz,u.waits)).1,waits:=(nv (xw table b u x r).2.1 (u.bz,u.waits)).2}
 else {u with bJ:=(xw table b u x r).1,gone:=(xw table b u x r).2.1,aG:=(xw table b u x r).2.2}
def G7 (u:iM) (k:Nat):bR:=wm table u.lit u.aG u.b_ b k
def yS (u:iM) (k:Nat) (r:List Nat):iM:=
 if wo 4 (G7 table b u k) (u.aG.getD k default)=true then
  {u with aG:=u.aG.set k (lv 4 (G7 table b u k) (u.aG.getD k default)),bz:=(sF (eu b u.b_ k 6) (r,u.waits.set k false)).1,waits:=(sF (eu b u.b_ k 6) (r,u.waits.set k false)).2}
 else {u with aG:=u.aG.set k (lv 4 (G7 table b u k) (u.aG.getD k default)),bz:=r,waits:=u.waits.set k false}
def Lb (u:iM) (x:gy) (r:List gy):iM:=
 {u with bJ:=u.bJ++[(x.1,u.aG.getD x.1 default)],gone:=u.gone++[x.1],aG:=u.aG.set x.1 (vT (u.aG.getD x.1 default) (u.aG.getD x.1 default)),lit:=u.lit.set x.1 x.2.1,b_:=u.b_.set x.1 x.2.2,reqs:=r}
def gS (u:iM):Bool×iM:=
 if 0<u.bJ.length then (true,yR table b u (u.bJ.getD 0 default) (u.bJ.drop 1))
 else if 0<u.bz.length then (true,yS table b u (u.bz.getD 0 default) (u.bz.drop 1))
 else if 0<u.reqs.length then (true,Lb u (u.reqs.getD 0 default) (u.reqs.drop 1))
 else (false,u)
variable {table b}
theorem G8 {u:iM} (h:0<u.bJ.length):gS table b u=(true,yR table b u (u.bJ.getD 0 default) (u.bJ.drop 1)):=aY h
theorem G9 {u:iM} (h:¬0<u.bJ.length) (ag:0<u.bz.length):gS table b u=(true,yS table b u (u.bz.getD 0 default) (u.bz.drop 1)):=(a_ h).trans (aY ag)
theorem G' {u:iM} (h:¬0<u.bJ.length) (ag:¬0<u.bz.length) (ay:0<u.reqs.length):gS table b u=(true,Lb u (u.reqs.getD 0 default) (u.reqs.drop 1)):=(a_ h).trans ((a_ ag).trans (aY ay))
theorem G_ {u:iM} (h:¬0<u.bJ.length) (ag:¬0<u.bz.length) (ay:¬0<u.reqs.length):gS table b u=(false,u):=(a_ h).trans ((a_ ag).trans (a_ ay))
end AE
namespace AE
section
variable {N eR:bR} {l jS:List bR} {k:Nat}
theorem ajI:lv 0 N eR=eR:=bR.ext' λc ar=>by
 unfold lv;rw[iU ar,a_ (Nat.not_lt_zero c)]
end
section
variable {g Q4:List Nat} {w Lc:List Bool} {l:List Nat} {j:Nat}
theorem ajJ (s:List Nat×List Bool) (k:Nat):nv (l++[k]) s=(mN (nv l s).1 (nv l s).2 k,nN (nv l s).2 k):=by
 unfold nv;rw[List.foldl_append];rfl
theorem ajK {s:List Nat×List Bool} (aA:Q4=(nv (l.take j) s).1) (hw:Lc=(nv (l.take j) s).2) (hj:j<l.length):mN Q4 Lc (l.getD j default)=(nv (l.take (j+1)) s).1/\nN Lc (l.getD j default)=(nv (l.take (j+1)) s).2:=by
 have:l.take (j+1)=l.take j++[l.getD j default]:=by
  rw[List.take_add_one,dq,gi hj];rfl
 rw[this,ajJ,<-aA,<-hw];exact⟨rfl,rfl⟩
end
theorem ajL {b:bQ} {sh:List Bool} {k j:Nat} {p:Nat×Int} (h:p∈eu b sh k j):p.1<sh.length:=by
 unfold eu at h;have ag:=(List.mem_filter.1 h).2;rcases Nat.lt_or_ge p.1 sh.length with ay|ay
 ·exact ay
 ·rw[dq,List.getElem?_eq_none ay] at ag
  cases ag
theorem ajM (b:bQ) (sh:List Bool) (k j:Nat):(eu b sh k j).length<=j:=by
 unfold eu xv;exact Nat.le_trans (List.length_filter_le _ _) (Pk _ _ _ _ _)
theorem Zg {N:Nat} {table:List cW} {lit:List Int} {old:bR}:∀(l:List (Nat×Int)) (s:List az×List Nat×List bR),(∀p∈l,p.1<N)->(∀k∈s.2.1,k<N)->
  (∀k∈(mr table lit old l s).2.1,k<N)/\(mr table lit old l s).2.1.length<=s.2.1.length+l.length/\(mr table lit old l s).2.2.length=s.2.2.length/\(mr table lit old l s).1.length<=s.1.length+l.length
 |[],s,_,h=>⟨h,ch _,rfl,ch _⟩
 |p::l,s,ad,h=>by
  have af:∀k∈(pb table lit old s p).2.1,k<N:=by
   intro k al;unfold pb yP at al;simp only at al;split at al
   ·exact h k al
   ·rcases List.mem_append.1 al with al|al
    ·exact h k al
    ·rw[List.mem_singleton.1 al];exact ad p (by simp)
  obtain⟨q1,aH,b0,eF⟩:=Zg l (pb table lit old s p) (λq bf=>ad q (by simp [bf])) af;refine⟨q1,?_,?_,?_⟩
  ·have:(pb table lit old s p).2.1.length<=s.2.1.length+1:=by
    unfold pb yP;simp only;split<;>simp
   have e:(mr table lit old (p::l) s)=mr table lit old l (pb table lit old s p):=rfl;rw[e];simp only [List.length_cons];omega
  ·have:(pb table lit old s p).2.2.length=s.2.2.length:=by
    unfold pb Ae;simp only;split<;>simp
   exact b0.trans this
  ·have:(pb table lit old s p).1.length<=s.1.length+1:=Zf _ _ _
   have e:(mr table lit old (p::l) s)=mr table lit old l (pb table lit old s p):=rfl;rw[e];simp only [List.length_cons];omega
theorem ajN {b:bQ} {sh:List Bool} {k:Nat} {table:List cW} {lit:List Int} {old:bR} {s:List az×List Nat×List bR} (h:∀k∈s.2.1,k<sh.length):
  (∀j,j<(mr table lit old (eu b sh k 6) s).2.1.length->((mr table lit old (eu b sh k 6) s).2.1.getD j default)<sh.length)/\(mr table lit old (eu b sh k 6) s).2.1.length<=s.2.1.length+6:=by
 obtain⟨q1,aH,_⟩:=Zg (N:=sh.length) (table:=table) (lit:=lit) (old:=old) (eu b sh k 6) s (λp hp=>ajL hp) h;have:=ajM b sh k 6;refine⟨λj hj=> ?_,aj⟩;rw[dq,gi hj];exact q1 _ (List.getElem_mem hj)
section
variable {table:List cW} {b:bQ} {aG jC:List bR} {bJ cu d:List az} {gone kk:List Nat} {bz Q4:List Nat} {waits Lc:List Bool} {reqs:List gy} {lit:List Int} {b_:List Bool}
end
end AE
namespace AE
def hc (b:bQ):oG:=ahb (bO b).1.toNat (bO b).2.1.toNat (bO b).2.2.toNat
def iN (table:List cW) (lit:List Int) (b_:List Bool):hs:=
 ⟨λk=>(eQ table (lit.getD k default)).2.2.2.2.1,λk c=>gY (eQ table (lit.getD k default)) c,λk=>b_.getD k default⟩
def hx (u:iM):gg:=⟨u.aG,u.bJ,u.gone,u.bz,u.waits⟩
theorem Zh {b:bQ} (af:okB b):(hc b).N=(fx b).toNat:=by
 obtain⟨ad,_,ag,_,ay,_⟩:=B2 af;show (bO b).1.toNat*(bO b).2.1.toNat*(bO b).2.2.toNat=_;unfold fx;have e:(bO b).1*(bO b).2.1*(bO b).2.2=(((bO b).1.toNat*(bO b).2.1.toNat*(bO b).2.2.toNat:Nat):Int):=by
  rw[Int.natCast_mul,Int.natCast_mul,Int.toNat_of_nonneg ad,Int.toNat_of_nonneg ag,Int.toNat_of_nonneg ay]
 rw[e,Int.toNat_natCast]
variable {table:List cW} {b:bQ}
theorem ajO {k:Nat} (af:okB b) (al:k<(hc b).N):yQ b k↔(hc b).top k=true:=by
 obtain⟨ad,_,ag,_,ay,_⟩:=B2 af;have aw:bO b=((((bO b).1.toNat:Nat):Int),(((bO b).2.1.toNat:Nat):Int),(((bO b).2.2.toNat:Nat):Int)):=by
  rw[Int.toNat_of_nonneg ad,Int.toNat_of_nonneg ag,Int.toNat_of_nonneg ay]
 have kn:k<(bO b).1.toNat*(bO b).2.1.toNat*(bO b).2.2.toNat:=al;have aR:iZ b:=by
  by_cases aR:iZ b
  ·exact aR
  ·rw[xu aR] at kn
   simp at kn
 unfold yQ;rw[Zd aw kn];show b.2.2.1+((hX (bO b).1.toNat (bO b).2.1.toNat k:Nat):Int)=b.2.2.2.2.2-1↔decide (hX (bO b).1.toNat (bO b).2.1.toNat k+1=(bO b).2.2.toNat)=true;have bG:(bO b).2.2=b.2.2.2.2.2-b.2.2.1:=by rw[uZ aR]
 rw[decide_eq_true_eq];omega
theorem Zi {F:Int} {aG:List bR} {c:Nat} (ar:c<4):∀(l:List (Nat×Int)) (out:bR),cn (sG F aG l out) c=l.foldl (λa p=>max a (given (dI aG p.1 c) F c (decide (0<p.2)))) (cn out c)
 |[],out=>rfl
 |p::l,out=>by
  show cn (sG F aG l (B4 F out (aG.getD p.1 default) p.2)) c=_;rw[Zi ar l,List.foldl_cons];congr 1;unfold B4;rw[iU ar];rfl
theorem ajP {lit:List Int} {aG:List bR} {sh:List Bool} {k c:Nat} (af:okB b) (al:k<(hc b).N) (ar:c<4):cn (wm table lit aG sh b k) c=rule (hc b) (iN table lit sh) (dI aG) k c:=by
 unfold wm rule;show cn (if sh.getD k default=true then _ else _) c=if sh.getD k default=true then _ else _
 split
 ·rw[Zi ar]
  congr 1;unfold La uO;have aN:=ajO af al
  match c,ar with
  |0,_=>rfl
  |1,_=>rfl
  |2,_=>rfl
  |3,_=>
   show (if yQ b k then _ else _)=if (3:Nat)=3 then (if (hc b).top k=true then _ else _) else _
   rw[aY rfl];by_cases h:yQ b k
   ·rw[aY h,aY (aN.1 h)];rfl
   ·rw[a_ h,a_ (λe=>h (aN.2 e))]
 ·exact Gd c
theorem ajQ {lit:List Int} {sh:List Bool} {k:Nat} (af:okB b) (al:k<(hc b).N) (w:gg):wm table lit w.aG sh b k=pG (hc b) (iN table lit sh) w k:=bR.ext' λc ar=>by
 rw[ajP af al ar];unfold pG;rw[iU ar]
theorem ajR (x y:bR):lv 4 x y=tq x y:=by
 unfold lv tq rA;simp
theorem ajS (x y:bR):wo 4 x y=zR x y:=by
 unfold wo zR;simp
theorem ajT {lit:List Int} {sh:List Bool} {old:bR} {p:Nat×Int} {w:gg}:pb table lit old (w.bJ,w.gone,w.aG) p=((hi (iN table lit sh) old w p).bJ,(hi (iN table lit sh) old w p).gone,(hi (iN table lit sh) old w p).aG)/\(hi (iN table lit sh) old w p).bz=w.bz/\(hi (iN table lit sh) old w p).waits=w.waits:=by
 have e:Ad (eQ table (lit.getD p.1 default)).2.2.2.2.1 old (w.aG.getD p.1 default) p.2=pF (iN table lit sh) old (w.aG.getD p.1 z4) p:=rfl;unfold pb hi B3 yP Ae;rw[e];split
 ·exact⟨rfl,rfl,rfl⟩
 ·exact⟨rfl,rfl,rfl⟩
theorem Zj {lit:List Int} {sh:List Bool} {old:bR}:∀(l:List (Nat×Int)) (w:gg),mr table lit old l (w.bJ,w.gone,w.aG)=((l.foldl (hi (iN table lit sh) old) w).bJ,(l.foldl (hi (iN table lit sh) old) w).gone,(l.foldl (hi (iN table lit sh) old) w).aG)/\(l.foldl (hi (iN table lit sh) old) w).bz=w.bz/\(l.foldl (hi (iN table lit sh) old) w).waits=w.waits
 |[],w=>⟨rfl,rfl,rfl⟩
 |p::l,w=>by
  obtain⟨ad,ag,ay⟩:=ajT (table:=table) (lit:=lit) (sh:=sh) (old:=old) (p:=p) (w:=w);obtain⟨g1,g2,g3⟩:=Zj (sh:=sh) l (hi (iN table lit sh) old w p);refine⟨?_,g2.trans ag,g3.trans ay⟩;show mr table lit old l (pb table lit old (w.bJ,w.gone,w.aG) p)=_;rw[ad,g1];rfl
theorem ajU (w:gg) (k:Nat):jd w k={w with bz:=mN w.bz w.waits k,waits:=nN w.waits k}:=by
 unfold jd mN nN;show (if w.waits.getD k default=true then _ else _)=_;split<;>rfl
theorem Ld {α:Type} (f:α->Nat):∀(l:List α) (w:gg),l.foldl (λw p=>jd w (f p)) w={w with bz:=(l.foldl (λs p=>(mN s.1 s.2 (f p),nN s.2 (f p))) (w.bz,w.waits)).1,waits:=(l.foldl (λs p=>(mN s.1 s.2 (f p),nN s.2 (f p))) (w.bz,w.waits)).2}
 |[],w=>rfl
 |p::l,w=>by
  rw[List.foldl_cons,Ld f l,ajU];rfl
theorem Ha {α:Type} {l:List α} {d:α} (h:l≠[]):l=l.getD 0 d::l.drop 1:=by
 cases l with
 |nil=>exact absurd rfl h
 |cons x r=>rfl
theorem ajV {u:iM} (h:u.bJ≠[]):sv (hc b) (iN table u.lit u.b_) (hx u)=some (hx (yR table b u (u.bJ.getD 0 default) (u.bJ.drop 1))):=by
 unfold sv;have e:(hx u).bJ=u.bJ.getD 0 default::u.bJ.drop 1:=Ha h;rw[e];obtain⟨ad,ag,ay⟩:=Zj (table:=table) (lit:=u.lit) (sh:=u.b_) (old:=(u.bJ.getD 0 default).2) (eu b u.b_ (u.bJ.getD 0 default).1 6) {hx u with bJ:=u.bJ.drop 1};show some (Ge (hW (hc b) (iN table u.lit u.b_) (hx u) (u.bJ.getD 0 default) (u.bJ.drop 1)))=_;refine congrArg some ?_;have hl:xw table b u (u.bJ.getD 0 default) (u.bJ.drop 1)=((hW (hc b) (iN table u.lit u.b_) (hx u) (u.bJ.getD 0 default) (u.bJ.drop 1)).bJ,(hW (hc b) (iN table u.lit u.b_) (hx u) (u.bJ.getD 0 default) (u.bJ.drop 1)).gone,(hW (hc b) (iN table u.lit u.b_) (hx u) (u.bJ.getD 0 default) (u.bJ.drop 1)).aG):=ad
 change (hW (hc b) (iN table u.lit u.b_) (hx u) (u.bJ.getD 0 default) (u.bJ.drop 1)).bz=u.bz at ag
 change (hW (hc b) (iN table u.lit u.b_) (hx u) (u.bJ.getD 0 default) (u.bJ.drop 1)).waits=u.waits at ay
 unfold yR Ge;rw[hl];generalize hW (hc b) (iN table u.lit u.b_) (hx u) (u.bJ.getD 0 default) (u.bJ.drop 1)=X at ag ay ⊢;by_cases bW:X.bJ=[]
 ·rw[aY bW,aY (by show X.bJ.length=0;rw[bW];rfl)]
  have:=Ld (λk:Nat=>k) X.gone X
  change X.gone.foldl jd X=_ at this
  rw[this,ag,ay];rfl
 ·rw[a_ bW,a_ (by show ¬X.bJ.length=0;intro e;exact bW (List.length_eq_zero_iff.1 e))]
  show _=(⟨X.aG,X.bJ,X.gone,u.bz,u.waits⟩:gg);rw[<-ag,<-ay]
theorem ajW {u:iM} (af:okB b) (h:u.bJ=[]) (ag:u.bz≠[]) (al:u.bz.getD 0 default<(hc b).N):sv (hc b) (iN table u.lit u.b_) (hx u)=some (hx (yS table b u (u.bz.getD 0 default) (u.bz.drop 1))):=by
 unfold sv;rw[show (hx u).bJ=[] from h,show (hx u).bz=u.bz.getD 0 default::u.bz.drop 1 from Ha ag];show some (Gf (hc b) (iN table u.lit u.b_) (hx u) (u.bz.getD 0 default) (u.bz.drop 1))=_;refine congrArg some ?_;have av:G7 table b u (u.bz.getD 0 default)=pG (hc b) (iN table u.lit u.b_) (hx u) (u.bz.getD 0 default):=ajQ af al (hx u);unfold yS Gf;rw[av,ajR,ajS];show (if zR _ (u.aG.getD (u.bz.getD 0 default) default)=true then _ else _)=hx (if zR _ (u.aG.getD (u.bz.getD 0 default) default)=true then _ else _);split
 ·have:=Ld (λp:Nat×Int=>p.1) (lJ (hc b) (iN table u.lit u.b_) (u.bz.getD 0 default)) {hx u with bz:=u.bz.drop 1,waits:=u.waits.set (u.bz.getD 0 default) false,aG:=u.aG.set (u.bz.getD 0 default) (tq (pG (hc b) (iN table u.lit u.b_) (hx u) (u.bz.getD 0 default)) (u.aG.getD (u.bz.getD 0 default) z4))}
  exact this
 ·rfl
theorem Zk {u:iM} (h:u.bJ=[]) (ag:u.bz=[]):sv (hc b) (iN table u.lit u.b_) (hx u)=none:=by
 unfold sv;rw[show (hx u).bJ=[] from h,show (hx u).bz=[] from ag]
end AE
namespace AE
def Zl (table:List cW):Prop:=∀c:Int,1<=(eQ table c).2.2.2.2.1/\(eQ table c).2.2.2.2.1<=16/\∀i,i<3->0<=gY (eQ table c) i/\gY (eQ table c) i<=15
def B5 (l:List az):Prop:=∀x∈l,∀c,c<4->0<=cn x.2 c/\cn x.2 c<=15
def Le (l:List bR):Prop:=∀k c,k<l.length->c<4->0<=dI l k c/\dI l k c<=15
structure Af (w:gg):Prop where
 e7:B5 w.bJ
 Hb:w.gone.length+l0 o7 w.aG<=4*w.aG.length+1
theorem ajX {S:hs} {old:bR} {w:gg} {p:Nat×Int} (hp:p.1<w.aG.length) (af:Le w.aG) (hl:B5 w.bJ):
  B5 (hi S old w p).bJ/\Le (hi S old w p).aG/\(hi S old w p).aG.length=w.aG.length/\(hi S old w p).gone.length+w.bJ.length=(hi S old w p).bJ.length+w.gone.length:=by
 unfold hi;split
 ·exact⟨hl,af,rfl,Nat.add_comm _ _⟩
 ·refine⟨?_,?_,by simp [jt],by simp [jt];omega⟩
  ·intro x aq c ar
   rcases List.mem_append.1 aq with aq|aq
   ·exact hl x aq c ar
   ·rw[List.mem_singleton.1 aq]
    show 0<=cn (pF S old (w.aG.getD p.1 z4) p) c/\_;have:=af p.1 c hp ar;unfold dI at this;unfold pF;rw[iU ar];split
    ·exact this
    ·omega
  ·intro k c al ar
   have oo:k<w.aG.length:=by simpa [jt] using al
   rw[Pa hp ar];split
   ·omega
   ·exact af k c oo ar
theorem Zm {S:hs} {old:bR}:∀(l:List (Nat×Int)) (w:gg),(∀p∈l,p.1<w.aG.length)->Le w.aG->B5 w.bJ->
  B5 (l.foldl (hi S old) w).bJ/\(l.foldl (hi S old) w).gone.length+w.bJ.length=(l.foldl (hi S old) w).bJ.length+w.gone.length
 |[],w,_,_,hl=>⟨hl,Nat.add_comm _ _⟩
 |p::l,w,hp,af,hl=>by
  obtain⟨q1,aH,b0,eF⟩:=ajX (S:=S) (old:=old) (hp p (by simp)) af hl;obtain⟨cS,dy⟩:=Zm (S:=S) (old:=old) l (hi S old w p) (λq bf=>by rw[b0];exact hp q (by simp [bf])) aH q1;exact⟨cS,by rw[List.foldl_cons];omega⟩
variable {G:oG}
theorem Zn {α:Type} (f:α->Nat) (l:List α) (w:gg):(l.foldl (λw p=>jd w (f p)) w).aG=w.aG/\(l.foldl (λw p=>jd w (f p)) w).bJ=w.bJ/\(l.foldl (λw p=>jd w (f p)) w).gone=w.gone:=by
 rw[Ld];exact⟨rfl,rfl,rfl⟩
theorem Af.unit {S:hs} {w w':gg} (h:qO G S w) (f:Af w) (hu:sv G S w=some w'):Af w':=by
 unfold sv at hu;split at hu
 ·rename_i x r aq
  cases hu;have c1:w.bJ≠[]:=by rw[aq];simp
  obtain⟨aA,jG,cc,ez,cur,zP,bg⟩:=h.down c1;have su:x.1<G.N:=bg.lost x (by rw[aq];simp);have cg:∀p∈lJ G S x.1,p.1<w.aG.length:=λp hp=>by rw[h.len];exact G.ss _ p.1 p.2 su (vS.1 hp).1
  obtain⟨hp1,hp2,_,_⟩:=Xi (S:=S) (old:=x.2) (lJ G S x.1) {w with bJ:=r} cg;have ajY:Le w.aG:=λk c al ar=>h.bound k c (by rw[<-h.len];exact al) ar
  obtain⟨cS,dy⟩:=Zm (S:=S) (old:=x.2) (lJ G S x.1) {w with bJ:=r} cg ajY λy bE=>f.e7 y (by rw[aq];simp [bE])
  change (hW G S w x r).bJ.length+l0 o7 (hW G S w x r).aG<=r.length+l0 o7 w.aG at hp1
  change (hW G S w x r).aG.length=w.aG.length at hp2
  change B5 (hW G S w x r).bJ at cS
  change (hW G S w x r).gone.length+r.length=(hW G S w x r).bJ.length+w.gone.length at dy
  have aR:=f.Hb;unfold Ge;split
  ·rename_i bW
   obtain⟨g1,g2,g3⟩:=Zn (λk:Nat=>k) (hW G S w x r).gone (hW G S w x r)
   change ((hW G S w x r).gone.foldl jd (hW G S w x r)).aG=_ at g1
   change ((hW G S w x r).gone.foldl jd (hW G S w x r)).bJ=_ at g2
   refine⟨?_,?_⟩
   ·show B5 ((hW G S w x r).gone.foldl jd (hW G S w x r)).bJ
    rw[g2];exact cS
   ·show ([]:List Nat).length+l0 o7 ((hW G S w x r).gone.foldl jd (hW G S w x r)).aG<=4*((hW G S w x r).gone.foldl jd (hW G S w x r)).aG.length+1
    rw[g1];have:=Gh (hW G S w x r);simp only [List.length_nil];omega
  ·exact⟨cS,aj⟩
 ·rename_i aq
  obtain⟨Da,_⟩:=h.up aq;split at hu
  ·rename_i k r aA
   cases hu;have key:∀w':gg,w'.bJ=[]->w'.gone=[]->Af w':=λw' ad ag=>⟨(by rw[ad];exact λx aq=>absurd aq (by simp)),by
    have:=Gh w';rw[ag,List.length_nil]
    omega⟩
   unfold Gf;simp only;split
   ·obtain⟨_,g2,g3⟩:=Zn (λp:Nat×Int=>p.1) (lJ G S k) {w with bz:=r,waits:=w.waits.set k false,aG:=w.aG.set k (tq (pG G S w k) (w.aG.getD k z4))}
    exact key _ (g2.trans aq) (g3.trans Da)
   ·exact key _ aq Da
  ·cases hu
theorem Af.Bb {S:hs} {w:gg} (h:qO G S w) (ad:w.bJ=[]) (ag:w.gone=[]) {k:Nat} (al:k<G.N):Af (jt w k (w.aG.getD k z4)):=by
 refine⟨?_,?_⟩
 ·intro x aq c ar
  unfold jt at aq;simp only [ad,List.nil_append,List.mem_singleton] at aq;rw[aq];exact h.bound k c al ar
 ·have:=Gh (jt w k (w.aG.getD k z4))
  have aA:(jt w k (w.aG.getD k z4)).gone.length=1:=by
   unfold jt;simp [ag]
  omega
structure gu (table:List cW) (b:bQ) (u:iM):Prop where
 B6:Zl table
 box:okB b
 len:u.b_.length=(fx b).toNat
 Hc:u.lit.length=u.b_.length
 few:u.b_.length<=10000
 work:qO (hc b) (iN table u.lit u.b_) (hx u)
 fit:Af (hx u)
 mL:mL (hc b).N (hx u)<=qN (hc b).N
 reqs:∀x∈u.reqs,x.1<u.b_.length
def hP (b:bQ) (u:iM):Nat:=mL (hc b).N (hx u)+qN (hc b).N*u.reqs.length
variable {table:List cW} {b:bQ} {u:iM}
theorem gu.N (h:gu table b u):(hc b).N=u.b_.length:=(Zh h.box).trans h.len.symm
theorem gu.ok (h:gu table b u):(iN table u.lit u.b_).lr (hc b).N:=⟨λk _=>(h.B6 _).1,λk c _ ar=>(h.B6 _).2.2 c ar⟩
theorem gu.Q5 (h:gu table b u):u.aG.length=u.b_.length:=h.work.len.trans h.N
theorem gu.ajZ (h:gu table b u):u.waits.length=u.b_.length:=h.work.wait.len.trans h.N
theorem gu.e7 (h:gu table b u):∀x∈u.bJ,x.1<u.b_.length/\0<=x.2.1/\x.2.1<=15/\0<=x.2.2.1/\x.2.2.1<=15/\0<=x.2.2.2.1/\x.2.2.2.1<=15/\0<=x.2.2.2.2/\x.2.2.2.2<=15:=λx aq=>by
 have c1:(hx u).bJ≠[]:=λe=>by
  have:x∈(hx u).bJ:=aq;rw[e] at this;cases this
 obtain⟨_,jG,cc,ez,cur,_,bg⟩:=h.work.down c1;have q:=h.fit.e7 x aq;refine⟨by rw[<-h.N];exact bg.lost x aq,?_⟩;exact⟨(q 0 cw).1,(q 0 cw).2,(q 1 cw).1,(q 1 cw).2,(q 2 cw).1,(q 2 cw).2,(q 3 cw).1,(q 3 cw).2⟩
theorem gu.nw (h:gu table b u):∀k∈u.bz,k<u.b_.length:=λk al=>by rw[<-h.N];exact h.work.wait.lt k al
theorem gu.go (h:gu table b u):∀k∈u.gone,k<u.b_.length:=λk al=>by
 by_cases aq:(hx u).bJ=[]
 ·have:=(h.work.up aq).1
  have oo:k∈(hx u).gone:=al;rw[this] at oo;cases oo
 ·obtain⟨_,jG,cc,ez,cur,_,bg⟩:=h.work.down aq
  rw[<-h.N];exact bg.DQ k al
theorem gu.li (h:gu table b u):∀n,n<u.b_.length->0<=(u.aG.getD n default).1/\(u.aG.getD n default).1<=15/\0<=(u.aG.getD n default).2.1/\(u.aG.getD n default).2.1<=15/\0<=(u.aG.getD n default).2.2.1/\(u.aG.getD n default).2.2.1<=15/\0<=(u.aG.getD n default).2.2.2/\(u.aG.getD n default).2.2.2<=15:=λn av=>by
 have q:=λc (ar:c<4)=>h.work.bound n c (by rw[h.N];exact av) ar
 exact⟨(q 0 cw).1,(q 0 cw).2,(q 1 cw).1,(q 1 cw).2,(q 2 cw).1,(q 2 cw).2,(q 3 cw).1,(q 3 cw).2⟩
theorem gu.cq (h:gu table b u):∀n,n<u.b_.length->1<=(eQ table (u.lit.getD n default)).2.2.2.2.1/\(eQ table (u.lit.getD n default)).2.2.2.2.1<=16:=λn _=>⟨(h.B6 _).1,(h.B6 _).2.1⟩
theorem gu.hA (h:gu table b u):u.bJ.length<=50000:=by
 have hp:=h.mL;unfold AE.mL at hp;have kn:=h.N;have aR:=h.few;by_cases aq:(hx u).bJ=[]
 ·have:u.bJ=[]:=aq
  rw[this];exact Nat.zero_le _
 ·rw[a_ aq] at hp
  unfold qN at hp;have:(hx u).bJ.length=u.bJ.length:=rfl;omega
theorem gu.c2 (h:gu table b u):u.gone.length<=50000:=by
 have ad:=h.fit.Hb;have ag:=h.Q5;have aR:=h.few;have e1:(hx u).gone.length=u.gone.length:=rfl;have e2:(hx u).aG.length=u.aG.length:=rfl;omega
theorem gu.c3 (h:gu table b u):u.bz.length<=50000:=by
 have ad:=h.work.wait.count;have aR:=h.few;have kn:=h.N;have e1:(hx u).bz.length=u.bz.length:=rfl;omega
theorem Zo (u:iM) (x:az) (r:List az):(yR table b u x r).lit=u.lit/\(yR table b u x r).b_=u.b_/\(yR table b u x r).reqs=u.reqs:=by
 unfold yR;split<;>exact⟨rfl,rfl,rfl⟩
theorem Zp (u:iM) (k:Nat) (r:List Nat):(yS table b u k r).lit=u.lit/\(yS table b u k r).b_=u.b_/\(yS table b u k r).reqs=u.reqs:=by
 unfold yS;split<;>exact⟨rfl,rfl,rfl⟩
theorem gu.step {u':iM} (h:gu table b u) (hu:sv (hc b) (iN table u.lit u.b_) (hx u)=some (hx u')) (al:u'.lit=u.lit/\u'.b_=u.b_/\u'.reqs=u.reqs):gu table b u'/\hP b u'+1<=hP b u:=by
 obtain⟨de,dv,vM⟩:=al;obtain⟨w1,w2⟩:=h.work.unit h.ok hu;refine⟨⟨h.B6,h.box,by rw[dv];exact h.len,by rw[de,dv];exact h.Hc,by rw[dv];exact h.few,by rw[de,dv];exact w1,h.fit.unit h.work hu,by have:=h.mL;omega,by rw[vM,dv];exact h.reqs⟩,?_⟩;unfold hP;rw[vM];omega
theorem gu.unit (h:gu table b u) (ad:(gS table b u).1=true):gu table b (gS table b u).2/\hP b (gS table b u).2+1<=hP b u:=by
 by_cases hl:u.bJ=[]
 ·by_cases aA:u.bz=[]
  ·by_cases ao:u.reqs=[]
   ·rw[G_ (by rw[hl];simp) (by rw[aA];simp) (by rw[ao];simp)] at ad
    cases ad
   ·have aq:u.reqs=u.reqs.getD 0 default::u.reqs.drop 1:=Ha ao
    rw[G' (by rw[hl];simp) (by rw[aA];simp) (List.length_pos_iff.2 ao)];have nM:(u.reqs.getD 0 default).1<u.b_.length:=h.reqs _ (by rw[aq];simp);have al:(u.reqs.getD 0 default).1<(hc b).N:=by rw[h.N];exact nM
    have av:=Zk (table:=table) (b:=b) hl aA;generalize he:u.reqs.getD 0 default=x at aq nM al ⊢;have hw:hx (Lb u x (u.reqs.drop 1))=jt (hx u) x.1 ((hx u).aG.getD x.1 z4):=rfl;have xQ:∀n,n≠x.1->(iN table (u.lit.set x.1 x.2.1) (u.b_.set x.1 x.2.2)).j7 n=(iN table u.lit u.b_).j7 n/\(∀c,(iN table (u.lit.set x.1 x.2.1) (u.b_.set x.1 x.2.2)).emit n c=(iN table u.lit u.b_).emit n c)/\(iN table (u.lit.set x.1 x.2.1) (u.b_.set x.1 x.2.2)).b_ n=(iN table u.lit u.b_).b_ n:=λn c1=>by
     have e1:(u.lit.set x.1 x.2.1).getD n default=u.lit.getD n default:=by
      rw[Gg (by rw[h.Hc];exact nM),a_ c1]
     have e2:(u.b_.set x.1 x.2.2).getD n default=u.b_.getD n default:=by
      rw[Gg nM,a_ c1]
     refine⟨?_,λc=> ?_,e2⟩
     ·show (eQ table ((u.lit.set x.1 x.2.1).getD n default)).2.2.2.2.1=_
      rw[e1];rfl
     ·show gY (eQ table ((u.lit.set x.1 x.2.1).getD n default)) c=_
      rw[e1];rfl
    obtain⟨t1,t2⟩:=h.work.Bb h.ok av al xQ;obtain⟨s1,_,sb,_⟩:=h.work.settled h.ok av;have ar:u.reqs.length=(u.reqs.drop 1).length+1:=by
     rw[List.length_drop];have:=List.length_pos_iff.2 ao;omega
    refine⟨⟨h.B6,h.box,?_,?_,?_,?_,?_,?_,?_⟩,?_⟩
    ·show (u.b_.set x.1 x.2.2).length=_
     rw[List.length_set];exact h.len
    ·show (u.lit.set x.1 x.2.1).length=(u.b_.set x.1 x.2.2).length
     rw[List.length_set,List.length_set];exact h.Hc
    ·show (u.b_.set x.1 x.2.2).length<=_
     rw[List.length_set];exact h.few
    ·rw[hw]
     exact t1
    ·rw[hw]
     exact Af.Bb h.work s1 sb al
    ·rw[hw]
     omega
    ·intro y bE
     show y.1<(u.b_.set x.1 x.2.2).length;rw[List.length_set];exact h.reqs y (by rw[aq];exact List.mem_cons_of_mem _ bE)
    ·unfold hP
     rw[hw,ar];show _+qN (hc b).N*(u.reqs.drop 1).length+1<=_;rw[Nat.mul_add,Nat.mul_one];omega
  ·rw[G9 (by rw[hl];simp) (List.length_pos_iff.2 aA)]
   have aq:u.bz=u.bz.getD 0 default::u.bz.drop 1:=Ha aA;refine h.step (ajW h.box hl aA ?_) (Zp u _ _);rw[h.N];exact h.nw _ (by rw[aq];simp)
 ·rw[G8 (List.length_pos_iff.2 hl)]
  exact h.step (ajV hl) (Zo u _ _)
theorem gu.done (h:gu table b u) (ad:(gS table b u).1=false):(gS table b u).2=u/\u.bJ=[]/\u.bz=[]/\u.reqs=[]/\u.gone=[]/\yB (hc b) (iN table u.lit u.b_) (dI u.aG):=by
 by_cases hl:u.bJ=[]
 ·by_cases aA:u.bz=[]
  ·by_cases ao:u.reqs=[]
   ·obtain⟨s1,s2,sb,Bp⟩:=h.work.settled h.ok (Zk (table:=table) (b:=b) hl aA)
    exact⟨by rw[G_ (by rw[hl];simp) (by rw[aA];simp) (by rw[ao];simp)],hl,aA,ao,sb,Bp⟩
   ·rw[G' (by rw[hl];simp) (by rw[aA];simp) (List.length_pos_iff.2 ao)] at ad
    cases ad
  ·rw[G9 (by rw[hl];simp) (List.length_pos_iff.2 aA)] at ad
   cases ad
 ·rw[G8 (List.length_pos_iff.2 hl)] at ad
  cases ad
theorem gu.ask {x:gy} (h:gu table b u) (aq:x.1<u.b_.length):gu table b {u with reqs:=u.reqs++[x]}/\hP b {u with reqs:=u.reqs++[x]}=hP b u+qN (hc b).N:=by
 refine⟨⟨h.B6,h.box,h.len,h.Hc,h.few,h.work,h.fit,h.mL,λy bE=> ?_⟩,?_⟩
 ·rcases List.mem_append.1 bE with bE|bE
  ·exact h.reqs y bE
  ·rw[List.mem_singleton.1 bE]
   exact aq
 ·unfold hP
  show AE.mL (hc b).N (hx u)+qN (hc b).N*(u.reqs++[x]).length=_;rw[List.length_append,List.length_singleton,Nat.mul_add,Nat.mul_one];omega
def nx (table:List cW) (b:bQ):Nat->iM->iM
 |0,u=>u
 |n+1,u=>(gS table b (nx table b n u)).2
end AE
namespace AE
def i' (table:List cW) (b:bQ):Nat->iM->Nat×iM
 |0,u=>(0,u)
 |f+1,u=>if (gS table b u).1=true then ((i' table b f (gS table b u).2).1+1,(i' table b f (gS table b u).2).2) else (0,u)
variable {table:List cW} {b:bQ}
theorem Hd (n:Nat) (u:iM):nx table b (n+1) u=nx table b n (gS table b u).2:=by
 induction n with
 |zero=>rfl
 |succ n cA=>exact congrArg (λx=>(gS table b x).2) cA
theorem Q6:∀(d f:Nat) (u:iM),d<=f->(∀m,m<d->(gS table b (nx table b m u)).1=true)->(d=f\/(gS table b (nx table b d u)).1=false)->i' table b f u=(d,nx table b d u)
 |0,0,u,_,_,_=>rfl
 |0,f+1,u,_,_,h=>by
  have h:=h.resolve_left aj
  change (gS table b u).1=false at h
  unfold i';rw[h];rfl
 |d+1,0,u,h,_,_=>absurd h aj
 |d+1,f+1,u,h,ad,ag=>by
  have aL:=ad 0 aj
  change (gS table b u).1=true at aL
  have:=Q6 d f (gS table b u).2 aj (λm hm=>by rw[<-Hd];exact ad (m+1) aj) (ag.imp (λe=>by omega) λe=>by rw[<-Hd];exact e);unfold i';rw[aY aL,this,Hd]
theorem gu.many {u:iM} (h:gu table b u):∀d,(∀m,m<d->(gS table b (nx table b m u)).1=true)->gu table b (nx table b d u)/\d+hP b (nx table b d u)<=hP b u
 |0,_=>⟨h,by simp [nx]⟩
 |d+1,ad=>by
  obtain⟨q1,aH⟩:=gu.many h d λm hm=>ad m aj
  obtain⟨cS,dy⟩:=q1.unit (ad d aj);refine⟨cS,?_⟩;show d+1+hP b (gS table b (nx table b d u)).2<=_;omega
theorem Lf:∀(f:Nat) (u:iM),(i' table b f u).1<=f/\(i' table b f u).2=nx table b (i' table b f u).1 u/\(∀m,m<(i' table b f u).1->(gS table b (nx table b m u)).1=true)/\((i' table b f u).1=f\/(gS table b (i' table b f u).2).1=false)
 |0,u=>⟨ch _,rfl,λm hm=>absurd hm (Nat.not_lt_zero m),.inl rfl⟩
 |f+1,u=>by
  obtain⟨ad,ag,ay,bG⟩:=Lf f (gS table b u).2;unfold i';split
  ·rename_i h
   refine⟨by simp only;omega,by rw[Hd];exact ag,λm hm=> ?_,?_⟩
   ·cases m with
    |zero=>exact h
    |succ m=>
     rw[Hd];exact ay m (by simp only at hm;omega)
   ·exact bG.imp (λe=>by simp only;omega) λe=>e
  ·rename_i h
   exact⟨Nat.zero_le _,rfl,λm hm=>absurd hm (Nat.not_lt_zero m),.inr (by simpa using h)⟩
theorem gu.settle {u:iM} (h:gu table b u):gu table b (i' table b (hP b u) u).2/\(gS table b (i' table b (hP b u) u).2).1=false/\(i' table b (hP b u) u).1+hP b (i' table b (hP b u) u).2<=hP b u:=by
 obtain⟨ad,ag,ay,bG⟩:=Lf (table:=table) (b:=b) (hP b u) u;obtain⟨q1,aH⟩:=h.many _ ay;rw[<-ag] at q1 aH;refine⟨q1,?_,aH⟩;rcases bG with bG|bG
 ·cases hu:(gS table b (i' table b (hP b u) u).2).1 with
  |false=>rfl
  |true=>
   have:=(q1.unit hu).2;omega
 ·exact bG
theorem gu.run {u:iM} (h:gu table b u) (f:Nat):gu table b (i' table b f u).2/\(i' table b f u).1+hP b (i' table b f u).2<=hP b u:=by
 obtain⟨ad,ag,ay,bG⟩:=Lf (table:=table) (b:=b) f u;obtain⟨q1,aH⟩:=h.many _ ay;rw[<-ag] at q1 aH;exact⟨q1,aH⟩
theorem gu.Zq {u:iM} (h:gu table b u) (ao:u.reqs.length<=10000):hP b u<=1000000000000:=by
 have ad:=h.mL;have ag:(hc b).N<=10000:=by rw[h.N];exact h.few
 have ay:qN (hc b).N<=3650002:=by unfold qN;omega
 have bG:qN (hc b).N*u.reqs.length<=3650002*10000:=Nat.mul_le_mul ay ao;unfold hP;omega
theorem aj0 {mh uD:iM} {d:Nat} (h:uD=nx table b d mh) (hm:∀m,m<d->(gS table b (nx table b m mh)).1=true) (aN:(gS table b uD).1=true):
  (gS table b uD).2=nx table b (d+1) mh/\∀m,m<d+1->(gS table b (nx table b m mh)).1=true:=by
 subst h;refine⟨rfl,λm aj1=> ?_⟩;rcases Nat.lt_succ_iff_lt_or_eq.1 aj1 with h|rfl
 ·exact hm m h
 ·exact aN
end AE
section
noncomputable section
namespace AE
abbrev fh:aS:=Tryd.prog
theorem Zr:yN fh kQ 1 8=true:=au
theorem aj2:yN fh n9 1 1=true:=au
theorem aj3:yN fh qe 4 32=true:=au
theorem aj4:yN fh oD 8 56=true:=au
theorem aj5:yN fh rB 3 24=true:=au
theorem aj6:yN fh zS 5 40=true:=au
abbrev jv:ju fh:=BY (α:=Int) default kQ 1 8 fQ Zr
abbrev u0:ju fh:=BY (α:=Nat) default tr 1 8 qd Zr
abbrev jJ:ju fh:=BY (α:=Bool) default n9 1 1 il aj2
abbrev ly:ju fh:=BY (α:=bR) default qe 4 32 dY aj3
abbrev Ag:ju fh:=BY (α:=cW) default oD 8 56 jF aj4
abbrev Lg:ju fh:=BY (α:=gy) default rB 3 24 ni aj5
abbrev si:ju fh:=BY (α:=az) default zS 5 40 kU aj6
abbrev rH:=Option Addr×Nat×Nat
structure dJ where
 q:dX
 o:dX
 g:dX
 s:dX
 w:rH
 l:rH
 i:rH
 t:rH
 h:rH
 c:rH
 k:rH
structure cx where
 u:iM
 b:bQ
 table:List cW
 cells:List Int
 known:List Bool
 most:Int
@[reducible] def Ah (a:dX) (n:Nat):J:= .slice a.1 n a.2
@[reducible] def dK (a:rH):J:= .slice a.1 a.2.1 a.2.2
@[reducible] def qW (A:dJ) (e:cx):List J:=[I e.b.1,I e.b.2.1,I e.b.2.2.1,I e.b.2.2.2.1,I e.b.2.2.2.2.1,I e.b.2.2.2.2.2,dK A.c,I e.b.1,I e.b.2.1,I e.b.2.2.1,I e.b.2.2.2.1,I e.b.2.2.2.2.1,I e.b.2.2.2.2.2,dK A.i,dK A.k,dK A.h,dK A.t,dK A.l,I e.most,Ah A.q e.u.reqs.length,Ah A.o e.u.bJ.length,Ah A.g e.u.gone.length,Ah A.s e.u.bz.length,dK A.w]
@[reducible] def c6 (g:Nat) (A:dJ) (e:cx):List (bd fh):=
  [.iT Lg (Ah A.q e.u.reqs.length) e.u.reqs,.iT si (Ah A.o e.u.bJ.length) e.u.bJ,.arr u0 (Ah A.g e.u.gone.length) e.u.gone,.iT u0 (Ah A.s e.u.bz.length) e.u.bz,.arr jJ (dK A.w) e.u.waits,.arr ly (dK A.l) e.u.aG,.arr jv (dK A.i) e.u.lit,.arr Ag (dK A.t) e.table,.arr jJ (dK A.h) e.u.b_,.arr jv (dK A.c) e.cells,.arr jJ (dK A.k) e.known,.box g qP (qW A e)]
def dj (g:Nat) (A:dJ) (e:cx):cb:=vX (cP (c6 g A e))
abbrev dx (g:Nat):J:= .pointer (some ⟨g,0,none⟩)
theorem cH.B7 {M:Mem} {g:Nat} {A:dJ} {e:cx} (h:cH M [dj g A e]):cH M (cP (c6 g A e)):=h.aht
instance:Inhabited dJ:=⟨⟨(none,0),(none,0),(none,0),(none,0),(none,0,0),(none,0,0),(none,0,0),(none,0,0),(none,0,0),(none,0,0),(none,0,0)⟩⟩
instance:Inhabited cx:=⟨⟨⟨[],[],[],[],[],[],[],[]⟩,(0,0,0,0,0,0),[],[],[],0⟩⟩
abbrev Q7:List Nat:=[0,1,2,3,4,5,6,7,8,9,10,11]
end AE
end
end
section
noncomputable section
namespace AE
theorem Q8 {n m:Nat} (h:n+m<=1000000):n+m<=maxLen:=Nat.le_trans h cw
namespace Zs
def t:bX:=
.o (.dN 0) 2 1 []<|
.o (.cq 78 2 0) 3 1 [0,26,1]<|
.o (.bB 26 3) 4 1 [1]<|
.xk 26 4 1<|
.o (.dN 0) 6 1 []<|
.o (.cq 78 6 0) 7 1 [0,26,1]<|
.st 26 7 5<|
.ret (.tuple ⟨[]⟩)
theorem hQ:kr Tryd.prog 57 {} [0,1] 2=some t:=mO au
theorem any {W:ax} {g:Nat} {A:dJ} {e:cx} {lL:J} {lx:List Nat} (aI:cH (aE W) (cP (c6 g A e++[.red u0 lL lx]))) (hl:e.u.bz.length+lx.length<=1000000) (aq:o3 lL=lL:=by rfl):
  mq fh 57 [.pointer (some ⟨g,22,none⟩),lL] W (c6 g A e++[.red u0 lL lx]) dX (λ_=> .tuple #[]) λy=>c6 g {A with s:=y} {e with u:={e.u with bz:=e.u.bz++lx}}++[.red u0 lL lx]:=by
 refine pM (ro:=[]) mixed hQ [.pointer (some ⟨g,22,none⟩),lL] aI hv.none ?_ (ho:=⟨rfl,aq,trivial⟩);unfold t;refine cL ?_;refine YT U U (λa c=>lM) (.red has) (λa c=> ?_) (Q8 hl) (by show _*8<=_;omega);refine cL ?_;exact ql ⟨(a,c),rfl,rfl⟩
end Zs
namespace Zt
def t:bX:=
.o (.dN 0) 1 1 []<|
.o (.cq 78 1 0) 2 1 [0,26,1]<|
.o (.bB 26 2) 3 1 [1]<|
.o (.dB 26 3 (I 0)) 4 1 [0,3,1]<|
.o (.bB 3 4) 5 1 [1]<|
.o (.mg 26 3 (some (I 1)) none none) 6 1 [0,3,1]<|
.st 26 2 6<|
.ret 5
theorem hQ:kr Tryd.prog 64 {} [0] 1=some t:=mO au
theorem any {W:ax} {g:Nat} {A:dJ} {e:cx} (aI:cH (aE W) (cP (c6 g A e))) (hl:0<e.u.bz.length):
  mq fh 64 [.pointer (some ⟨g,22,none⟩)] W (c6 g A e) dX (λ_=>I ((e.u.bz.getD 0 default:Nat):Int)) λy=>c6 g {A with s:=y} {e with u:={e.u with bz:=e.u.bz.drop 1}}:=by
 refine pM (ro:=[]) mixed hQ [.pointer (some ⟨g,22,none⟩)] aI hv.none ?_;unfold t;refine cL ?_;refine QK (m':=(e.u.bz.drop 1).length) (j:=1) (by simp) U U ?_;refine G0 U U lM GZ ?_;exact sC (λM h=>QN 3 (K:=u0) (a:=A.s.1) (m:=e.u.bz.length) (c:=A.s.2) (j:=1) (l:=e.u.bz) (m':=(e.u.bz.drop 1).length) lM rfl (by simp) aj h) ⟨(ln A.s.1 A.s.2 1 u0.k,A.s.2-1),rfl,rfl⟩
end Zt
namespace Zu
def t:bX:=
.o (.dN 0) 2 1 []<|
.o (.cq 76 2 0) 3 1 [0,74,1]<|
.o (.bB 74 3) 4 1 [1]<|
.xk 74 4 1<|
.o (.dN 0) 6 1 []<|
.o (.cq 76 6 0) 7 1 [0,74,1]<|
.st 74 7 5<|
.ret (.tuple ⟨[]⟩)
theorem hQ:kr Tryd.prog 86 {} [0,1] 2=some t:=mO au
theorem any {W:ax} {g:Nat} {A:dJ} {e:cx} {lL:J} {lx:List az} (aI:cH (aE W) (cP (c6 g A e++[.red si lL lx]))) (hl:e.u.bJ.length+lx.length<=1000000) (aq:o3 lL=lL:=by rfl):
  mq fh 86 [.pointer (some ⟨g,20,none⟩),lL] W (c6 g A e++[.red si lL lx]) dX (λ_=> .tuple #[]) λy=>c6 g {A with o:=y} {e with u:={e.u with bJ:=e.u.bJ++lx}}++[.red si lL lx]:=by
 refine pM (ro:=[]) mixed hQ [.pointer (some ⟨g,20,none⟩),lL] aI hv.none ?_ (ho:=⟨rfl,aq,trivial⟩);unfold t;refine cL ?_;refine YT U U (λa c=>lM) (.red has) (λa c=> ?_) (Q8 hl) (by show _*40<=_;omega);refine cL ?_;exact ql ⟨(a,c),rfl,rfl⟩
end Zu
namespace Zv
def t:bX:=
.o (.dN 0) 1 1 []<|
.o (.cq 76 1 0) 2 1 [0,74,1]<|
.o (.bB 74 2) 3 1 [1]<|
.o (.dB 74 3 (I 0)) 4 1 [0,87,5]<|
.o (.bB 87 4) (.agg ⟨l4 5 5⟩) 5 [5]<|
.o (.mg 74 3 (some (I 1)) none none) 10 1 [0,87,5]<|
.st 74 2 10<|
.ret (.agg ⟨[5,6,7,8,9]⟩)
theorem hQ:kr Tryd.prog 58 {} [0] 1=some t:=mO au
theorem any {W:ax} {g:Nat} {A:dJ} {e:cx} (aI:cH (aE W) (cP (c6 g A e))) (hl:0<e.u.bJ.length):
  mq fh 58 [.pointer (some ⟨g,20,none⟩)] W (c6 g A e) dX (λ_=> .agg ⟨kU (e.u.bJ.getD 0 default)⟩) λy=>c6 g {A with o:=y} {e with u:={e.u with bJ:=e.u.bJ.drop 1}}:=by
 refine pM (ro:=[]) mixed hQ [.pointer (some ⟨g,20,none⟩)] aI hv.none ?_;unfold t;refine cL ?_;refine K1 (K:=si) (l:=e.u.bJ) (j:=0) (c:=kU (e.u.bJ.getD 0 default)) U U U oc ?_;refine QK (m':=(e.u.bJ.drop 1).length) (j:=1) (by simp) U U ?_;refine G0 U U lM GZ ?_;exact sC (λM h=>QN 1 (K:=si) (a:=A.o.1) (m:=e.u.bJ.length) (c:=A.o.2) (j:=1) (l:=e.u.bJ) (m':=(e.u.bJ.drop 1).length) lM rfl (by simp) aj h) ⟨(ln A.o.1 A.o.2 1 si.k,A.o.2-1),rfl,rfl⟩
end Zv
namespace Zw
def t:bX:=
.o (.dN 0) 1 1 []<|
.o (.cq 73 1 0) 2 1 [0,71,1]<|
.o (.bB 71 2) 3 1 [1]<|
.o (.dB 71 3 (I 0)) 4 1 [0,89,3]<|
.o (.bB 89 4) (.agg ⟨l4 3 5⟩) 3 [3]<|
.o (.mg 71 3 (some (I 1)) none none) 8 1 [0,89,3]<|
.st 71 2 8<|
.ret (.agg ⟨[5,6,7]⟩)
theorem hQ:kr Tryd.prog 67 {} [0] 1=some t:=mO au
theorem any {W:ax} {g:Nat} {A:dJ} {e:cx} (aI:cH (aE W) (cP (c6 g A e))) (hl:0<e.u.reqs.length):
  mq fh 67 [.pointer (some ⟨g,19,none⟩)] W (c6 g A e) dX (λ_=> .agg ⟨ni (e.u.reqs.getD 0 default)⟩) λy=>c6 g {A with q:=y} {e with u:={e.u with reqs:=e.u.reqs.drop 1}}:=by
 refine pM (ro:=[]) mixed hQ [.pointer (some ⟨g,19,none⟩)] aI hv.none ?_;unfold t;refine cL ?_;refine K1 (K:=Lg) (l:=e.u.reqs) (j:=0) (c:=ni (e.u.reqs.getD 0 default)) U U U oc ?_;refine QK (m':=(e.u.reqs.drop 1).length) (j:=1) (by simp) U U ?_;refine G0 U U lM GZ ?_;exact sC (λM h=>QN 0 (K:=Lg) (a:=A.q.1) (m:=e.u.reqs.length) (c:=A.q.2) (j:=1) (l:=e.u.reqs) (m':=(e.u.reqs.drop 1).length) lM rfl (by simp) aj h) ⟨(ln A.q.1 A.q.2 1 Lg.k,A.q.2-1),rfl,rfl⟩
end Zw
end AE
end
end
namespace AE
namespace Lh
noncomputable def body:Code:=(Tryd.f62.body).getD .skip
def N:Nat:=26
noncomputable abbrev bC:=fm Tryd.prog Tryd.f62
def aO:b8:={sl:=b3 [(3,3),(2,2),(1,1),(0,0)],ms:=[],A:=start}
def bP:bj:=[(.ea 3,.bool true),
 (.bin .eql 3 2 (I 3),.bool true),
 (.bin .eql 3 0 (I 15),.bool true),
 (.bin .eql 3 1 (I 1),.bool true)]
theorem e0:bC (at' 26 bP [] body aO)=some (I 15):=au
def cd:bj:=[(.ea 3,.bool true),
 (.bin .eql 3 2 (I 3),.bool true),
 (.bin .eql 3 0 (I 15),.bool true),
 (.bin .eql 3 1 (I 1),.bool false),
 (.bin .sub 3 0 1,4),
 (.e5 #[3,3] 3 (I 0) 4,5)]
theorem e1:bC (at' 26 cd [] body aO)=some 5:=au
def dk:bj:=[(.ea 3,.bool true),
 (.bin .eql 3 2 (I 3),.bool true),
 (.bin .eql 3 0 (I 15),.bool false),
 (.bin .sub 3 0 1,4),
 (.e5 #[3,3] 3 (I 0) 4,5)]
theorem e2:bC (at' 26 dk [] body aO)=some 5:=au
def ei:bj:=[(.ea 3,.bool true),
 (.bin .eql 3 2 (I 3),.bool false),
 (.bin .sub 3 0 1,4),
 (.e5 #[3,3] 3 (I 0) 4,5)]
theorem e3:bC (at' 26 ei [] body aO)=some 5:=au
def fJ:bj:=[(.ea 3,.bool false),
 (.bin .sub 3 0 1,4),
 (.e5 #[3,3] 3 (I 0) 4,5)]
theorem hD:bC (at' 26 fJ [] body aO)=some 5:=au
@[reducible] noncomputable def bD (v f:Int) (c:Nat) (up:Bool):List J:=[I v,I f,I ((c:Nat):Int),.bool up,I (v-f),I (max 0 (v-f))]
theorem any (W:ax) (v f:Int) (c:Nat) (up:Bool) (w8: -1000<=v) (yj:v<=1000) (apc: -1000<=f) (Vl:f<=1000):Calls Tryd.prog 62 #[I v,I f,I ((c:Nat):Int),.bool up] W λe w'=>e= .returned (I (given v f c up))/\cj W.heap.size W w':=by
 refine jI (bD v f c up) body aO N [ak 0,ak 1,ak 2,ak 3] Tryd.func62 λa ah=> ?_
 letI:=b6 ah;have aI:=bK.o5 W;by_cases aL:up=true
 ·by_cases ad:((c:Nat):Int)=3
  ·by_cases ag:v=15
   ·by_cases ay:f=1
    ·refine bA bP [] (ae (DB U U aL) (ae bb (ae bb (ae bb aP)))) aQ ?_ ah
     exact bU e0 λw2 bp=>(by (rw[ajs bM aj bM bM];rfl))
    ·refine bA cd [] (ae (DB U U aL) (ae bb (ae bb (ae aU (ae kt (ae (aV.p2 U U U U U U) aP)))))) aQ ?_ ah
     exact bU e1 λw2 bp=>(by (rw[K' (λq=>by omega)];rfl))
   ·refine bA dk [] (ae (DB U U aL) (ae bb (ae aU (ae kt (ae (aV.p2 U U U U U U) aP))))) aQ ?_ ah
    exact bU e2 λw2 bp=>(by (rw[K' (λq=>by omega)];rfl))
  ·refine bA ei [] (ae (DB U U aL) (ae aU (ae kt (ae (aV.p2 U U U U U U) aP)))) aQ ?_ ah
   exact bU e3 λw2 bp=>(by (rw[K' (λq=>by omega)];rfl))
 ·refine bA fJ [] (ae (Ox U U aL) (ae kt (ae (aV.p2 U U U U U U) aP))) aQ ?_ ah
  exact bU hD λw2 bp=>(by (rw[K' (λq=>by exact absurd q.1 bM)];rfl))
end Lh
namespace Q9
noncomputable def body:Code:=(Tryd.f79.body).getD .skip
def N:Nat:=51
noncomputable abbrev bC:=fm Tryd.prog Tryd.f79
def aO:b8:={sl:=b3 [(1,.agg ⟨[3,4,5,6,7,8]⟩),(0,.agg ⟨[0,1,2]⟩)],ms:=[],A:=start}
def bP:bj:=[(.bin .geq 3 0 3,.bool true),
 (.bin .lss 3 0 6,.bool true),
 (.bin .geq 3 1 4,.bool true),
 (.bin .lss 3 1 7,.bool true),
 (.bin .geq 3 2 5,.bool true),
 (.bin .lss 3 2 8,.bool true)]
theorem e0:bC (at' 51 bP [] body aO)=some (.bool true):=au
def cd:bj:=[(.bin .geq 3 0 3,.bool true),
 (.bin .lss 3 0 6,.bool true),
 (.bin .geq 3 1 4,.bool true),
 (.bin .lss 3 1 7,.bool true),
 (.bin .geq 3 2 5,.bool true),
 (.bin .lss 3 2 8,.bool false)]
theorem e1:bC (at' 51 cd [] body aO)=some (.bool false):=au
def dk:bj:=[(.bin .geq 3 0 3,.bool true),
 (.bin .lss 3 0 6,.bool true),
 (.bin .geq 3 1 4,.bool true),
 (.bin .lss 3 1 7,.bool true),
 (.bin .geq 3 2 5,.bool false)]
theorem e2:bC (at' 51 dk [] body aO)=some (.bool false):=au
def ei:bj:=[(.bin .geq 3 0 3,.bool true),
 (.bin .lss 3 0 6,.bool true),
 (.bin .geq 3 1 4,.bool true),
 (.bin .lss 3 1 7,.bool false)]
theorem e3:bC (at' 51 ei [] body aO)=some (.bool false):=au
def fJ:bj:=[(.bin .geq 3 0 3,.bool true),
 (.bin .lss 3 0 6,.bool true),
 (.bin .geq 3 1 4,.bool false)]
theorem hD:bC (at' 51 fJ [] body aO)=some (.bool false):=au
def hH:bj:=[(.bin .geq 3 0 3,.bool true),
 (.bin .lss 3 0 6,.bool false)]
theorem ku:bC (at' 51 hH [] body aO)=some (.bool false):=au
def lz:bj:=[(.bin .geq 3 0 3,.bool false)]
theorem h4:bC (at' 51 lz [] body aO)=some (.bool false):=au
@[reducible] noncomputable def bD (p:d_) (b:bQ):List J:=[I p.1,I p.2.1,I p.2.2,I b.1,I b.2.1,I b.2.2.1,I b.2.2.2.1,I b.2.2.2.2.1,I b.2.2.2.2.2]
theorem any (W:ax) (p:d_) (b:bQ):Calls Tryd.prog 79 #[P.val p,X.val b] W λe w'=>e= .returned (.bool (decide (bV p b)))/\cj W.heap.size W w':=by
 refine jI (bD p b) body aO N [.agg ⟨[ak 0,ak 1,ak 2]⟩,.agg ⟨[ak 3,ak 4,ak 5,ak 6,ak 7,ak 8]⟩] Tryd.func79 λa ah=> ?_
 letI:=b6 ah;have aI:=bK.o5 W;by_cases aL:b.1<=p.1
 ·by_cases ad:p.1<b.2.2.2.1
  ·by_cases ag:b.2.1<=p.2.1
   ·by_cases ay:p.2.1<b.2.2.2.2.1
    ·by_cases bG:b.2.2.1<=p.2.2
     ·by_cases cJ:p.2.2<b.2.2.2.2.2
      ·refine bA bP [] (ae bb (ae bb (ae bb (ae bb (ae bb (ae bb aP)))))) aQ ?_ ah
       exact bU e0 λw2 bp=>(by (rw[eC (show bV p b from ⟨aj,aj,aj,aj,aj,aj⟩)];rfl))
      ·refine bA cd [] (ae bb (ae bb (ae bb (ae bb (ae bb (ae aU aP)))))) aQ ?_ ah
       exact bU e1 λw2 bp=>(by (rw[cy (λq:bV p b=>by unfold bV at q;omega)];rfl))
     ·refine bA dk [] (ae bb (ae bb (ae bb (ae bb (ae aU aP))))) aQ ?_ ah
      exact bU e2 λw2 bp=>(by (rw[cy (λq:bV p b=>by unfold bV at q;omega)];rfl))
    ·refine bA ei [] (ae bb (ae bb (ae bb (ae aU aP)))) aQ ?_ ah
     exact bU e3 λw2 bp=>(by (rw[cy (λq:bV p b=>by unfold bV at q;omega)];rfl))
   ·refine bA fJ [] (ae bb (ae bb (ae aU aP))) aQ ?_ ah
    exact bU hD λw2 bp=>(by (rw[cy (λq:bV p b=>by unfold bV at q;omega)];rfl))
  ·refine bA hH [] (ae bb (ae aU aP)) aQ ?_ ah
   exact bU ku λw2 bp=>(by (rw[cy (λq:bV p b=>by unfold bV at q;omega)];rfl))
 ·refine bA lz [] (ae aU aP) aQ ?_ ah
  exact bU h4 λw2 bp=>(by (rw[cy (λq:bV p b=>by unfold bV at q;omega)];rfl))
end Q9
namespace Zx
noncomputable def body:Code:=(Tryd.f80.body).getD .skip
def N:Nat:=11
noncomputable abbrev bC:=fm Tryd.prog Tryd.f80
def aO:b8:={sl:=b3 [(0,.agg ⟨[0,1,2,3,4,5]⟩)],ms:=[],A:=start}
def bP:bj:=[(.bin .geq 3 0 0,.bool true),
 (.bin .lss 3 0 3,.bool true),
 (.bin .geq 3 1 1,.bool true),
 (.bin .lss 3 1 4,.bool true),
 (.bin .geq 3 2 2,.bool true),
 (.bin .lss 3 2 5,.bool true),
 (.bin .mul 3 (I (-1)) 0,6),
 (.bin .mul 3 (I (-1)) 1,7),
 (.bin .mul 3 (I (-1)) 2,8),
 (.bin .add 3 3 6,9),
 (.bin .add 3 4 7,10),
 (.bin .add 3 5 8,11)]
theorem e0:bC (at' 11 bP [] body aO)=some (.agg ⟨[9,10,11]⟩):=au
def cd:bj:=[(.bin .geq 3 0 0,.bool true),
 (.bin .lss 3 0 3,.bool true),
 (.bin .geq 3 1 1,.bool true),
 (.bin .lss 3 1 4,.bool true),
 (.bin .geq 3 2 2,.bool true),
 (.bin .lss 3 2 5,.bool false)]
theorem e1:bC (at' 11 cd [] body aO)=some (.agg ⟨[I 0,I 0,I 0]⟩):=au
def dk:bj:=[(.bin .geq 3 0 0,.bool true),
 (.bin .lss 3 0 3,.bool true),
 (.bin .geq 3 1 1,.bool true),
 (.bin .lss 3 1 4,.bool false)]
theorem e2:bC (at' 11 dk [] body aO)=some (.agg ⟨[I 0,I 0,I 0]⟩):=au
def ei:bj:=[(.bin .geq 3 0 0,.bool true),
 (.bin .lss 3 0 3,.bool false)]
theorem e3:bC (at' 11 ei [] body aO)=some (.agg ⟨[I 0,I 0,I 0]⟩):=au
@[reducible] noncomputable def bD (b:bQ):List J:=[I b.1,I b.2.1,I b.2.2.1,I b.2.2.2.1,I b.2.2.2.2.1,I b.2.2.2.2.2,I ((-1)*b.1),I ((-1)*b.2.1),I ((-1)*b.2.2.1),I (b.2.2.2.1+((-1)*b.1)),I (b.2.2.2.2.1+((-1)*b.2.1)),I (b.2.2.2.2.2+((-1)*b.2.2.1))]
theorem any (W:ax) (b:bQ) (af:okB b):Calls Tryd.prog 80 #[X.val b] W λe w'=>e= .returned (P.val (bO b))/\cj W.heap.size W w':=by
 refine jI (bD b) body aO N [.agg ⟨[ak 0,ak 1,ak 2,ak 3,ak 4,ak 5]⟩] Tryd.func80 λa ah=> ?_
 letI:=b6 ah;have aI:=bK.o5 W;have oW:=af;have e4: -1048575<=b.1/\b.1<=1048575/\ -1048575<=b.2.1/\b.2.1<=1048575/\ -1048575<=b.2.2.1/\b.2.2.1<=1048575/\ -1048575<=b.2.2.2.1/\b.2.2.2.1<=1048575/\ -1048575<=b.2.2.2.2.1/\b.2.2.2.2.1<=1048575/\ -1048575<=b.2.2.2.2.2/\b.2.2.2.2.2<=1048575:=af;by_cases aL:b.1<b.2.2.2.1
 ·by_cases ad:b.2.1<b.2.2.2.2.1
  ·by_cases ag:b.2.2.1<b.2.2.2.2.2
   ·refine bA bP [] (ae bb (ae bb (ae bb (ae bb (ae bb (ae bb (ae kt (ae kt (ae kt (ae kt (ae kt (ae kt aP)))))))))))) aQ ?_ ah
    exact bU e0 λw2 bp=>(by (rw[uZ ⟨aj,aj,aj⟩];exact G4 aj aj aj))
   ·refine bA cd [] (ae bb (ae bb (ae bb (ae bb (ae bb (ae aU aP)))))) aQ ?_ ah
    exact bU e1 λw2 bp=>(by (rw[xu (λq=>by unfold iZ at q;omega)];rfl))
  ·refine bA dk [] (ae bb (ae bb (ae bb (ae aU aP)))) aQ ?_ ah
   exact bU e2 λw2 bp=>(by (rw[xu (λq=>by unfold iZ at q;omega)];rfl))
 ·refine bA ei [] (ae bb (ae aU aP)) aQ ?_ ah
  exact bU e3 λw2 bp=>(by (rw[xu (λq=>by unfold iZ at q;omega)];rfl))
end Zx
end AE
namespace AE
section
variable [a7]
theorem aj7 {x y:J} {p:d_} {b:bQ} (hp:dM [x,y]=true) (br:ep [x,y]=[P.val p,X.val b]) (h:bV p b):jb Tryd.prog (79,[x,y],.bool true):=
 kR (a:= #[P.val p,X.val b]) hp rfl br rfl λw _=>(Q9.any w p b).mono λe w' he=>by rw[eC h] at he;exact he
theorem aj8 {x y:J} {p:d_} {b:bQ} (hp:dM [x,y]=true) (br:ep [x,y]=[P.val p,X.val b]) (h:¬bV p b):jb Tryd.prog (79,[x,y],.bool false):=
 kR (a:= #[P.val p,X.val b]) hp rfl br rfl λw _=>(Q9.any w p b).mono λe w' he=>by rw[cy h] at he;exact he
theorem Li {x r:J} {b:bQ} (hp:dM [x]=true) (ao:aM r=true) (br:ep [x]=[X.val b]) (ca:aJ r=P.val (bO b)) (af:okB b):jb Tryd.prog (80,[x],r):=
 kR (a:= #[X.val b]) hp ao br ca λw _=>Zx.any w b af
end
end AE
namespace AE
namespace He
noncomputable def body:Code:=(Tryd.f55.body).getD .skip
def N:Nat:=31
def aO:b8:={sl:=b3 [(1,.agg ⟨[6,7,8]⟩),(0,.agg ⟨[0,1,2,3,4,5]⟩)],ms:=[],A:=start}
def bP:bj:=[(.bin .mul 3 (I (-1)) 0,12),
 (.bin .mul 3 (I (-1)) 1,13),
 (.bin .mul 3 (I (-1)) 2,14),
 (.bin .add 3 6 12,15),
 (.bin .add 3 7 13,16),
 (.bin .add 3 8 14,17),
 (.bin .mul 3 17 10,18),
 (.bin .add 3 18 16,19),
 (.bin .mul 3 19 9,20),
 (.bin .add 3 20 15,21)]
def j1:dZ:=[(79,[.agg ⟨[6,7,8]⟩,.agg ⟨[0,1,2,3,4,5]⟩],.bool true),
 (80,[.agg ⟨[ak 0,ak 1,ak 2,ak 3,ak 4,ak 5]⟩],.agg ⟨[ak 9,ak 10,ak 11]⟩)]
theorem e0:fm Tryd.prog Tryd.f55 (at' 31 bP j1 body aO)=some 21:=au
def h':dZ:=[(79,[.agg ⟨[6,7,8]⟩,.agg ⟨[0,1,2,3,4,5]⟩],.bool false)]
theorem e1:fm Tryd.prog Tryd.f55 (at' 31 [] h' body aO)=some (I (-1)):=au
@[reducible] noncomputable def bD (b:bQ) (p:d_):List J:=[I b.1,I b.2.1,I b.2.2.1,I b.2.2.2.1,I b.2.2.2.2.1,I b.2.2.2.2.2,I p.1,I p.2.1,I p.2.2,I (bO b).1,I (bO b).2.1,I (bO b).2.2,I ((-1)*b.1),I ((-1)*b.2.1),I ((-1)*b.2.2.1),I (p.1+((-1)*b.1)),I (p.2.1+((-1)*b.2.1)),I (p.2.2+((-1)*b.2.2.1)),I ((p.2.2+((-1)*b.2.2.1))*(bO b).2.1),I (((p.2.2+((-1)*b.2.2.1))*(bO b).2.1)+(p.2.1+((-1)*b.2.1))),I ((((p.2.2+((-1)*b.2.2.1))*(bO b).2.1)+(p.2.1+((-1)*b.2.1)))*(bO b).1),I (((((p.2.2+((-1)*b.2.2.1))*(bO b).2.1)+(p.2.1+((-1)*b.2.1)))*(bO b).1)+(p.1+((-1)*b.1)))]
theorem any (W:ax) (b:bQ) (p:d_) (af:okB b):Calls Tryd.prog 55 #[X.val b,P.val p] W λe w'=>e= .returned (I (Ac b p))/\cj W.heap.size W w':=by
 refine jI (bD b p) body aO N [.agg ⟨[ak 0,ak 1,ak 2,ak 3,ak 4,ak 5]⟩,.agg ⟨[ak 6,ak 7,ak 8]⟩] Tryd.func55 λa ah=> ?_
 letI:=b6 ah;have aI:=bK.o5 W;have e4: -1048575<=b.1/\b.1<=1048575/\ -1048575<=b.2.1/\b.2.1<=1048575/\ -1048575<=b.2.2.1/\b.2.2.1<=1048575/\ -1048575<=b.2.2.2.1/\b.2.2.2.1<=1048575/\ -1048575<=b.2.2.2.2.1/\b.2.2.2.2.1<=1048575/\ -1048575<=b.2.2.2.2.2/\b.2.2.2.2.2<=1048575:=af;by_cases aL:bV p b
 ·refine bA bP j1 (ae (aV.bi U U U U U U (mm rfl aj aj)) (ae (aV.bi U U U U U U (mm rfl aj aj)) (ae (aV.bi U U U U U U (mm rfl aj aj)) (ae (aV.bi U U U U U U (mm rfl (by (have hn:=pa af bM;have jX:=j9 (show bV p b by assumption);omega)) (by (have hn:=pa af bM;have jX:=j9 (show bV p b by assumption);omega)))) (ae (aV.bi U U U U U U (mm rfl (by (have hn:=pa af bM;have jX:=j9 (show bV p b by assumption);omega)) (by (have hn:=pa af bM;have jX:=j9 (show bV p b by assumption);omega)))) (ae (aV.bi U U U U U U (mm rfl (by (have hn:=pa af bM;have jX:=j9 (show bV p b by assumption);omega)) (by (have hn:=pa af bM;have jX:=j9 (show bV p b by assumption);omega)))) (ae (aV.bi U U U U U U (mm rfl (by (have hn:=pa af bM;have jX:=j9 (show bV p b by assumption);omega)) (by (have hn:=pa af bM;have jX:=j9 (show bV p b by assumption);omega)))) (ae (aV.bi U U U U U U (mm rfl (by (have hn:=pa af bM;have jX:=j9 (show bV p b by assumption);omega)) (by (have hn:=pa af bM;have jX:=j9 (show bV p b by assumption);omega)))) (ae (aV.bi U U U U U U (mm rfl (by (have hn:=pa af bM;have jX:=j9 (show bV p b by assumption);omega)) (by (have hn:=pa af bM;have jX:=j9 (show bV p b by assumption);omega)))) (ae (aV.bi U U U U U U (mm rfl (by (have hn:=pa af bM;have jX:=j9 (show bV p b by assumption);omega)) (by (have hn:=pa af bM;have jX:=j9 (show bV p b by assumption);omega)))) aP)))))))))) (cG (aj7 U U aL) (cG (Li U U U U af) aQ)) ?_ ah
  exact bU e0 λw2 bp=>(by (rw[G5 bM];rfl))
 ·refine bA [] h' aP (cG (aj8 U U aL) aQ) ?_ ah
  exact bU e1 λw2 bp=>(by (rw[Ef bM];rfl))
end He
end AE
namespace AE
namespace Q'
noncomputable def body:Code:=(Tryd.f84.body).getD .skip
def N:Nat:=39
noncomputable abbrev bC:=fm Tryd.prog Tryd.f84
def aO:b8:={sl:=b3 [(1,6),(0,.agg ⟨[0,1,2,3,4,5]⟩)],ms:=[],A:=start}
def bP:bj:=[(.bin .lss 3 6 (I 0),.bool true)]
theorem e0:bC (at' 39 bP [] body aO)=some (.tuple ⟨[.agg ⟨[I 0,I 0,I 0]⟩,.bool false]⟩):=au
def cd:bj:=[(.bin .lss 3 6 (I 0),.bool false),
 (.bin .mul 3 7 8,10),
 (.bin .mul 3 10 9,11),
 (.bin .geq 3 6 11,.bool true)]
def h':dZ:=[(80,[.agg ⟨[0,1,2,3,4,5]⟩],.agg ⟨[7,8,9]⟩)]
theorem e1:bC (at' 39 cd h' body aO)=some (.tuple ⟨[.agg ⟨[I 0,I 0,I 0]⟩,.bool false]⟩):=au
def dk:bj:=[(.bin .lss 3 6 (I 0),.bool false),
 (.bin .mul 3 7 8,10),
 (.bin .mul 3 10 9,11),
 (.bin .geq 3 6 11,.bool false),
 (.bin .quo 3 6 7,12),
 (.bin .rem 3 6 7,13),
 (.bin .rem 3 12 8,14),
 (.bin .quo 3 12 8,15),
 (.bin .add 3 0 13,16),
 (.bin .add 3 1 14,17),
 (.bin .add 3 2 15,18)]
def oL:dZ:=[(80,[.agg ⟨[0,1,2,3,4,5]⟩],.agg ⟨[7,8,9]⟩)]
theorem e2:bC (at' 39 dk oL body aO)=some (.tuple ⟨[.agg ⟨[16,17,18]⟩,.bool true]⟩):=au
@[reducible] noncomputable def bD (b:bQ) (i:Int):List J:=[I b.1,I b.2.1,I b.2.2.1,I b.2.2.2.1,I b.2.2.2.2.1,I b.2.2.2.2.2,I i,I (bO b).1,I (bO b).2.1,I (bO b).2.2,I ((bO b).1*(bO b).2.1),I (((bO b).1*(bO b).2.1)*(bO b).2.2),I (i/(bO b).1),I (i%(bO b).1),I ((i/(bO b).1)%(bO b).2.1),I ((i/(bO b).1)/(bO b).2.1),I (b.1+(i%(bO b).1)),I (b.2.1+((i/(bO b).1)%(bO b).2.1)),I (b.2.2.1+((i/(bO b).1)/(bO b).2.1))]
theorem any (W:ax) (b:bQ) (i:Int) (af:okB b):Calls Tryd.prog 84 #[X.val b,I i] W λe w'=>e= .returned (.tuple #[P.val (fu b i),.bool (decide (0<=i/\i<fx b))])/\cj W.heap.size W w':=by
 refine jI (bD b i) body aO N [.agg ⟨[ak 0,ak 1,ak 2,ak 3,ak 4,ak 5]⟩,ak 6] Tryd.func84 λa ah=> ?_
 letI:=b6 ah;have aI:=bK.o5 W;have e4: -1048575<=b.1/\b.1<=1048575/\ -1048575<=b.2.1/\b.2.1<=1048575/\ -1048575<=b.2.2.1/\b.2.2.1<=1048575/\ -1048575<=b.2.2.2.1/\b.2.2.2.1<=1048575/\ -1048575<=b.2.2.2.2.1/\b.2.2.2.2.1<=1048575/\ -1048575<=b.2.2.2.2.2/\b.2.2.2.2.2<=1048575:=af;have bW:=B2 af;have aC:=QX af;by_cases aL:i<0
 ·refine bA bP [] (ae bb aP) aQ ?_ ah
  exact bU e0 λw2 bp=>(by (rw[QZ (λq=>by have aH:=q.2;unfold fx at aH;omega),cy (λq:0<=i/\i<fx b=>by have aH:=q.2;unfold fx at aH;omega)];rfl))
 ·by_cases ad:(((bO b).1*(bO b).2.1)*(bO b).2.2)<=i
  ·refine bA cd h' (ae aU (ae (aV.bi U U U U U U (mm rfl aj aj)) (ae (aV.bi U U U U U U (mm rfl aj aj)) (ae bb aP)))) (cG (Li U U U U af) aQ) ?_ ah
   exact bU e1 λw2 bp=>(by (rw[QZ (λq=>by have aH:=q.2;unfold fx at aH;omega),cy (λq:0<=i/\i<fx b=>by have aH:=q.2;unfold fx at aH;omega)];rfl))
  ·refine bA dk oL (ae aU (ae (aV.bi U U U U U U (mm rfl aj aj)) (ae (aV.bi U U U U U U (mm rfl aj aj)) (ae aU (ae (aV.quo (a:=i) (b:=(bO b).1) ⟨aj,aj⟩ (by (have hn:=rG (i:=i) af aj bM;omega)) U U U U U U) (ae (aV.rem (a:=i) (b:=(bO b).1) ⟨aj,aj⟩ (by (have hn:=rG (i:=i) af aj bM;omega)) U U U U U U) (ae (aV.rem (a:=(i/(bO b).1)) (b:=(bO b).2.1) ⟨by (have hn:=rG (i:=i) af aj bM;omega),by (have hn:=rG (i:=i) af aj bM;omega)⟩ (by (have hn:=rG (i:=i) af aj bM;omega)) U U U U U U) (ae (aV.quo (a:=(i/(bO b).1)) (b:=(bO b).2.1) ⟨by (have hn:=rG (i:=i) af aj bM;omega),by (have hn:=rG (i:=i) af aj bM;omega)⟩ (by (have hn:=rG (i:=i) af aj bM;omega)) U U U U U U) (ae (aV.bi U U U U U U (mm rfl (by (have hn:=rG (i:=i) af aj bM;omega)) (by (have hn:=rG (i:=i) af aj bM;omega)))) (ae (aV.bi U U U U U U (mm rfl (by (have hn:=rG (i:=i) af aj bM;omega)) (by (have hn:=rG (i:=i) af aj bM;omega)))) (ae (aV.bi U U U U U U (mm rfl (by (have hn:=rG (i:=i) af aj bM;omega)) (by (have hn:=rG (i:=i) af aj bM;omega)))) aP))))))))))) (cG (Li U U U U af) aQ) ?_ ah
   exact bU e2 λw2 bp=>(by (rw[Y8 aj bM,eC (show 0<=i/\i<fx b from ⟨aj,by unfold fx;omega⟩)];exact ajr U U U))
end Q'
end AE
namespace AE
namespace Zy
noncomputable def body:Code:=(Tryd.f85.body).getD .skip
def N:Nat:=9
noncomputable abbrev bC:=fm Tryd.prog Tryd.f85
def aO:b8:={sl:=b3 [(1,1),(0,0)],ms:=[],A:=start}
def bP:bj:=[(.bin .lss 3 1 (I 0),.bool true)]
theorem e0:bC (at' 9 bP [] body aO)=some (I 16):=au
def cd:bj:=[(.bin .lss 3 1 (I 0),.bool false),
 (.len #[29] 3 0,2),
 (.bin .geq 3 1 2,.bool true)]
theorem e1:bC (at' 9 cd [] body aO)=some (I 16):=au
def dk:bj:=[(.bin .lss 3 1 (I 0),.bool false),
 (.len #[29] 3 0,2),
 (.bin .geq 3 1 2,.bool false),
 (.dB 29 0 1,3),
 (.bB 70 3,.agg ⟨[4,5,6,7,8,9,10,11]⟩)]
theorem e2:bC (at' 9 dk [] body aO)=some 8:=au
@[reducible] noncomputable def bD (l:List cW) (dR:cm) (eg:Nat) (cell:Int):List J:=[bu dR l eg,I cell,I ((l.length:Nat):Int),hd (bu dR l eg) ((cell).toNat*8),cD (l.ew ((cell).toNat)).1,.bool (l.ew ((cell).toNat)).2.1,.bool (l.ew ((cell).toNat)).2.2.1,.bool (l.ew ((cell).toNat)).2.2.2.1,I (l.ew ((cell).toNat)).2.2.2.2.1,I (l.ew ((cell).toNat)).2.2.2.2.2.1,I (l.ew ((cell).toNat)).2.2.2.2.2.2.1,I (l.ew ((cell).toNat)).2.2.2.2.2.2.2]
theorem any (W:ax) {h_:J} {l:List cW} (hl:cE (aE W) 8 jF h_ l) (cell:Int):Calls Tryd.prog 85 #[h_,I cell] W λe w'=>e= .returned (I (eQ l cell).2.2.2.2.1)/\cj W.heap.size W w':=by
 obtain⟨dR,eg,rfl⟩:=hl.slice;refine jI (bD l dR eg cell) body aO N [ak 0,ak 1] Tryd.func85 λa ah=> ?_
 letI:=b6 ah;have aI:=bK.o5 W;by_cases aL:cell<0
 ·refine bA bP [] (ae bb aP) aQ ?_ ah
  exact bU e0 λw2 bp=>(by (rw[Kd aj];rfl))
 ·by_cases ad:((l.length:Nat):Int)<=cell
  ·refine bA cd [] (ae aU (ae (eM (hl.mono aI.ext) lY) (ae bb aP))) aQ ?_ ah
   exact bU e1 λw2 bp=>(by (rw[Kd aj];rfl))
  ·refine bA dk [] (ae aU (ae (eM (hl.mono aI.ext) lY) (ae aU (ae (aV.Fz (hl.mono aI.ext) (show (cell).toNat<l.length by omega) U U U lY qL rfl (FF aj) rfl) (ae (aV.sd (hl.mono aI.ext) (lO ((cell).toNat)) U U Bk qL U U U) aP))))) aQ ?_ ah
   exact bU e2 λw2 bp=>(by (rw[W0 aj aj];rfl))
end Zy
namespace Zz
noncomputable def body:Code:=(Tryd.f87.body).getD .skip
def N:Nat:=9
noncomputable abbrev bC:=fm Tryd.prog Tryd.f87
def aO:b8:={sl:=b3 [(1,1),(0,0)],ms:=[],A:=start}
def bP:bj:=[(.bin .lss 3 1 (I 0),.bool true)]
theorem e0:bC (at' 9 bP [] body aO)=some (.agg ⟨[I 0,I 0,I 0]⟩):=au
def cd:bj:=[(.bin .lss 3 1 (I 0),.bool false),
 (.len #[29] 3 0,2),
 (.bin .geq 3 1 2,.bool true)]
theorem e1:bC (at' 9 cd [] body aO)=some (.agg ⟨[I 0,I 0,I 0]⟩):=au
def dk:bj:=[(.bin .lss 3 1 (I 0),.bool false),
 (.len #[29] 3 0,2),
 (.bin .geq 3 1 2,.bool false),
 (.dB 29 0 1,3),
 (.bB 70 3,.agg ⟨[4,5,6,7,8,9,10,11]⟩)]
theorem e2:bC (at' 9 dk [] body aO)=some (.agg ⟨[9,10,11]⟩):=au
@[reducible] noncomputable def bD (l:List cW) (dR:cm) (eg:Nat) (cell:Int):List J:=[bu dR l eg,I cell,I ((l.length:Nat):Int),hd (bu dR l eg) ((cell).toNat*8),cD (l.ew ((cell).toNat)).1,.bool (l.ew ((cell).toNat)).2.1,.bool (l.ew ((cell).toNat)).2.2.1,.bool (l.ew ((cell).toNat)).2.2.2.1,I (l.ew ((cell).toNat)).2.2.2.2.1,I (l.ew ((cell).toNat)).2.2.2.2.2.1,I (l.ew ((cell).toNat)).2.2.2.2.2.2.1,I (l.ew ((cell).toNat)).2.2.2.2.2.2.2]
theorem any (W:ax) {h_:J} {l:List cW} (hl:cE (aE W) 8 jF h_ l) (cell:Int):Calls Tryd.prog 87 #[h_,I cell] W λe w'=>e= .returned (.agg ⟨[I (eQ l cell).2.2.2.2.2.1,I (eQ l cell).2.2.2.2.2.2.1,I (eQ l cell).2.2.2.2.2.2.2]⟩)/\cj W.heap.size W w':=by
 obtain⟨dR,eg,rfl⟩:=hl.slice;refine jI (bD l dR eg cell) body aO N [ak 0,ak 1] Tryd.func87 λa ah=> ?_
 letI:=b6 ah;have aI:=bK.o5 W;by_cases aL:cell<0
 ·refine bA bP [] (ae bb aP) aQ ?_ ah
  exact bU e0 λw2 bp=>(by (rw[Kd aj];rfl))
 ·by_cases ad:((l.length:Nat):Int)<=cell
  ·refine bA cd [] (ae aU (ae (eM (hl.mono aI.ext) lY) (ae bb aP))) aQ ?_ ah
   exact bU e1 λw2 bp=>(by (rw[Kd aj];rfl))
  ·refine bA dk [] (ae aU (ae (eM (hl.mono aI.ext) lY) (ae aU (ae (aV.Fz (hl.mono aI.ext) (show (cell).toNat<l.length by omega) U U U lY qL rfl (FF aj) rfl) (ae (aV.sd (hl.mono aI.ext) (lO ((cell).toNat)) U U Bk qL U U U) aP))))) aQ ?_ ah
   exact bU e2 λw2 bp=>(by (rw[W0 aj aj];rfl))
end Zz
end AE
section
noncomputable section
namespace AE
@[reducible] def Ai (e:cx) (k:Nat):cx:={e with u:={e.u with bz:=mN e.u.bz e.u.waits k,waits:=nN e.u.waits k}}
@[reducible] def aj9 (e:cx) (k:Nat) (old:bR):cx:={e with u:={e.u with bJ:=e.u.bJ++[(k,old)],gone:=e.u.gone++[k],aG:=e.u.aG.set k (vT old (e.u.aG.getD k default))}}
namespace Q_
def t:bX:=
.o (.dN 0) 2 1 []<|
.o (.cq 80 2 11) 3 1 [23,30,1]<|
.o (.bB 30 3) 4 1 [1]<|
.o (.dB 30 4 1) 5 1 [0,4,1]<|
.o (.bB 4 5) 6 1 [1]<|
.o (.un .not 6) 7 1 []<|
.e_ 7 (
 .o (.dN 0) 8 1 []<|
 .o (.cq 80 8 11) 9 1 [23,30,1]<|
 .o (.bB 30 9) 10 1 [1]<|
 .o (.dB 30 10 1) 11 1 [0,4,1]<|
 .st 4 11 (.bool true)<|
 .o (.dN 0) 12 1 []<|
 .o (.cq 80 12 10) 13 1 [22,78,1]<|
 .uS [1] 1 1<|
 .call 57 [13,14] (.tuple ⟨[]⟩) 0<|
 .ret (.tuple ⟨[]⟩)) (
 .ret (.tuple ⟨[]⟩))
theorem hQ:kr Tryd.prog 35 {rD:=[57]} [0,1] 2=some t:=mO au
theorem any {W:ax} {g:Nat} {A:dJ} {e:cx} (aI:cH (aE W) (cP (c6 g A e))) (k:Nat) (al:k<e.u.waits.length) (hl:e.u.bz.length<=400000):
  mq fh 35 [dx g,I (k:Nat)] W (c6 g A e) dX (λ_=> .tuple #[]) λy=>c6 g {A with s:=y} (Ai e k):=by
 refine pM (ro:=[]) mixed hQ [dx g,I (k:Nat)] aI hv.none ?_;unfold t;refine cL ?_;refine D_ rfl (λh=> ?_) λh=> ?_
 ·have hw:¬e.u.waits.getD k default=true:=by simpa using h
  refine cL ?_;refine BW (K:=jJ) (l:=e.u.waits) (j:=k) true U U lM rfl (λ_ _=>rfl) ?_;refine cL ?_;refine YU u0 [k] rfl (λ_=>wg) λb=> ?_
  refine lN (er:=c6 g A {e with u:={e.u with waits:=e.u.waits.set k true}}++[bd.red u0 (.slice (some ⟨b,0,none⟩) 1 1) [k]]) (L':=λy=>c6 g {A with s:=y} {e with u:={e.u with waits:=e.u.waits.set k true,bz:=e.u.bz++[k]}}++[bd.red u0 (.slice (some ⟨b,0,none⟩) 1 1) [k]]) [0,1,2,3,4,5,6,7,8,9,10,11,12] (λ_=>[]) (λw hw aI=>Zs.any (lx:=[k]) aI (by show e.u.bz.length+1<=_;omega)) λy=> ?_
  refine sC (λM bw=> ?_) ⟨y,rfl,rfl⟩;show bK 0 _ _ M (cP (c6 g {A with s:=y} (Ai e k)));unfold Ai;rw[Xu hw,Xw hw];exact bw.pre
 ·refine ql ⟨A.s,rfl,?_⟩
  have hw:e.u.waits.getD k default=true:=by simpa using h
  unfold Ai;rw[Xt hw,Xv hw]
end Q_
end AE
end
end
section
noncomputable section
namespace AE
abbrev pc:aK:=85
def tH (x:bR) (i:Nat) (v:Int):bR:=rA λc=>if c=i then v else cn x c
theorem Aj {x:bR} {i:Nat} (h:i<4):(dY x)[0+i*1]? =some (I (cn x i)):=by
 match i,h with
 |0,_=>rfl
 |1,_=>rfl
 |2,_=>rfl
 |3,_=>rfl
theorem Lj {x:bR} {i:Nat} (h:i<4) (v:Int):dY (tH x i v)=(dY x).set (0+i*1) (I v):=by
 match i,h with
 |0,_=>rfl
 |1,_=>rfl
 |2,_=>rfl
 |3,_=>rfl
theorem aj' {x:bR} {i:Nat} (h:i<4):(dY x)[i]? =some (I (cn x i)):=by
 have:=Aj (x:=x) h
 rwa [Nat.zero_add,Nat.mul_one] at this
theorem aj_ {old x:bR} {i:Nat} (h:0<cn old i):tH (rC i old x) i 0=rC (i+1) old x:=by
 refine bR.ext' λc ar=> ?_
 unfold tH rC;rw[iU ar,iU ar,iU ar];by_cases ai:c=i
 ·subst ai;rw[aY rfl,aY ⟨aj,h⟩]
 ·rw[a_ ai]
  by_cases hl:c<i/\0<cn old c
  ·rw[aY hl,aY ⟨aj,hl.2⟩]
  ·rw[a_ hl,a_ (λq=>hl ⟨aj,q.2⟩)]
theorem aka {old x:bR} {i:Nat} (h:¬0<cn old i):rC (i+1) old x=rC i old x:=by
 refine bR.ext' λc ar=> ?_
 unfold rC;rw[iU ar,iU ar];by_cases hl:c<i/\0<cn old c
 ·rw[aY hl,aY ⟨aj,hl.2⟩]
 ·rw[a_ hl,a_ (λq=>hl ⟨(by rcases Nat.lt_or_ge c i with q1|q1;exact q1;exact absurd q.2 (by rw[show c=i by omega];exact h)),q.2⟩)]
@[reducible] def Lk (e:cx) (k:Nat) (old:bR) (i:Nat):cx:={e with u:={e.u with bJ:=e.u.bJ++[(k,old)],gone:=e.u.gone++[k],aG:=e.u.aG.set k (rC i old (e.u.aG.getD k default))}}
namespace Ra
def t:bX:=
.tu 85 (.agg ⟨[2,3,4,5]⟩)<|
.o (.dN 0) 7 1 []<|
.o (.cq 80 7 8) 8 1 [20,76,1]<|
.o (.bB 85 6) (.agg ⟨l4 4 9⟩) 4 [4]<|
.uS [1,9,10,11,12] 1 1<|
.call 86 [8,13] (.tuple ⟨[]⟩) 0<|
.o (.dN 0) 14 1 []<|
.o (.cq 80 14 9) 15 1 [21,26,1]<|
.o (.bB 26 15) 16 1 [1]<|
.yF 26 16 [1]<|
.o (.dN 0) 18 1 []<|
.o (.cq 80 18 9) 19 1 [21,26,1]<|
.st 26 19 17<|
.loop [I 0] 1<|
.o (.bin .lss 3 20 (I 4)) 21 1 []<|
.e_ 21 (
 .o (.dB 85 6 20) 22 1 [1,4,3,1]<|
 .o (.bB 3 22) 23 1 [1]<|
 .o (.bin .gtr 3 23 (I 0)) 24 1 []<|
 .e_ 24 (
  .o (.dN 0) 25 1 []<|
  .o (.cq 80 25 5) 26 1 [17,45,1]<|
  .o (.bB 45 26) 27 1 [1]<|
  .o (.dB 45 27 1) 28 1 [0,85,4]<|
  .o (.dB 85 28 20) 29 1 [1,4,3,1]<|
  .st 3 29 (I 0)<|
  .o (.bin .add 3 20 (I 1)) 30 1 []<|
  .back [30]) (
  .o (.bin .add 3 20 (I 1)) 25 1 []<|
  .back [25])) (
 .fH<|
 .ret (.tuple ⟨[]⟩))
theorem hQ:kr Tryd.prog 63 {rD:=[86],marks:=[85]} [0,1,.agg ⟨[2,3,4,5]⟩] 6=some t:=mO au
theorem any {W:ax} {g:Nat} {A:dJ} {e:cx} (aI:cH (aE W) (cP (c6 g A e))) (k:Nat) (old:bR) (al:k<e.u.aG.length) (ad:e.u.bJ.length<=400000) (ag:e.u.gone.length<=400000):
  mq fh 63 [dx g,I (k:Nat),.agg ⟨dY old⟩] W (c6 g A e) (dX×dX) (λ_=> .tuple #[]) λy=>c6 g {A with o:=y.1,g:=y.2} (aj9 e k old):=by
 refine pM (ro:=[]) mixed hQ [dx g,I (k:Nat),I old.1,I old.2.1,I old.2.2.1,I old.2.2.2] aI hv.none ?_;unfold t;refine QH (cs:=dY old) U U (λb=>wg) λb=> ?_
 refine cL ?_;refine yM (c:=dY old) rfl has U U oc ?_;refine YU si [(k,old)] rfl (λ_=>wg) λjC=> ?_
 refine lN (er:=c6 g A e++[bd.red si (.slice (some ⟨jC,0,none⟩) 1 1) [(k,old)]]) (L':=λy=>c6 g {A with o:=y} {e with u:={e.u with bJ:=e.u.bJ++[(k,old)]}}++[bd.box b pc (dY old),bd.red si (.slice (some ⟨jC,0,none⟩) 1 1) [(k,old)]]) [0,1,2,3,4,5,6,7,8,9,10,11,13] (λ_=>[]) (λw hw aI=>Zu.any (lx:=[(k,old)]) aI (by show e.u.bJ.length+1<=_;omega)) λy=> ?_
 refine cL ?_;refine ai_ (K:=u0) (l:=e.u.gone) [k] rfl (λa c=>lM) rfl (λa c=> ?_) (Q8 (by show e.u.gone.length+1<=_;omega)) (by show (e.u.gone.length+1)*8<=_;omega);refine cL ?_;refine xp Nat (λi=>[I (i:Nat)]) (λi=>c6 g {A with o:=y,g:=(a,c)} (Lk e k old i)++[bd.box b pc (dY old),bd.red si (.slice (some ⟨jC,0,none⟩) 1 1) [(k,old)]]) (λi=>i<=4) (λi=>4-i) 0 rfl ?_ aj (λi ai=> ?_)
 ·show _=c6 g _ {e with u:={e.u with bJ:=e.u.bJ++[(k,old)],gone:=e.u.gone++[k],aG:=e.u.aG.set k (rC 0 old (e.u.aG.getD k default))}}++_
  rw[ahr,Xy al];rfl
 refine cL ?_;refine l6 rfl (λbG=> ?_) λbG=> ?_
 ·have l8:i<4:=by omega
  refine cL ?_;refine BV (u:=I (cn old i)) rfl has (Aj l8) ?_;have oo:k<(e.u.aG.set k (rC i old (e.u.aG.getD k default))).length:=by rw[List.length_set];exact al
  refine cL ?_;refine l6 rfl (λhp=> ?_) λhp=> ?_
  ·refine cL ?_
   refine BW (K:=ly) (l:=e.u.aG.set k (rC i old (e.u.aG.getD k default))) (j:=k) (o:=0+i*1) (tH (rC i old (e.u.aG.getD k default)) i 0) U U lM rfl (λz bW=> ?_) ?_ (hj:=oo) (ho:=by show 0+i*1<4;omega)
   ·rw[List.getElem?_set,aY rfl,aY al,cQ] at bW
    subst bW;exact Lj l8 0
   refine cL ?_;refine pL (i+1) rfl ?_ aj aj;rw[List.set_set,aj_ hp];rfl
  ·refine cL ?_
   refine pL (i+1) rfl ?_ aj aj;show _=c6 g _ (Lk e k old (i+1))++_;unfold Lk;rw[aka hp]
 ·refine cL ?_
  obtain rfl:i=4:=by omega
  refine sC (λM bw=> ?_) ⟨(y,(a,c)),rfl,rfl⟩;unfold Lk at bw;rw[ahs] at bw;exact bw.pick Q7 rfl
end Ra
end AE
end
end
section
noncomputable section
namespace AE
abbrev tI:aK:=87
namespace Rb
def t:bX:=
.o (.dN 0) 2 1 []<|
.o (.cq 80 2 4) 3 1 [16,29,1]<|
.o (.bB 29 3) 4 1 [1]<|
.o (.cq 80 2 1) 5 1 [7,28,7]<|
.o (.cq 28 5 1) 6 1 [6,26,1]<|
.o (.bB 26 6) 7 1 [1]<|
.o (.dB 26 7 1) 8 1 [0,3,1]<|
.o (.bB 3 8) 9 1 [1]<|
.c 85 [4,9] 10 1<|
.ret 10
theorem hQ:kr Tryd.prog 61 {} [0,1] 2=some t:=mO au
theorem any {W:ax} {g:Nat} {A:dJ} {e:cx} (aI:cH (aE W) (cP (c6 g A e))) (k:Nat) (al:k<e.u.lit.length):
  mq fh 61 [dx g,I (k:Nat)] W (c6 g A e) Unit (λ_=>I (eQ e.table (e.u.lit.getD k default)).2.2.2.2.1) λ_=>c6 g A e:=by
 refine pM (ro:=[]) mixed hQ [dx g,I (k:Nat)] aI hv.none ?_;unfold t;refine cL ?_;refine rF (v:=I (eQ e.table (e.u.lit.getD k default)).2.2.2.2.1) (λw hw=>Zy.any w ((l5.arr (K:=Ag) (l:=e.table) has).at hw) _) ?_;exact ql ⟨(),rfl,rfl⟩
end Rb
namespace ZA
def t:bX:=
.o (.bB 34 2) 3 1 [1]<|
.call 35 [3,0] (.tuple ⟨[]⟩) 0<|
.ret (.tuple ⟨[]⟩)
theorem hQ:kr Tryd.prog 66 {rD:=[35]} [0,1,2] 3=some t:=mO au
theorem any {W:ax} {g fZ:Nat} {A:dJ} {e:cx} (aI:cH (aE W) (cP (c6 g A e++[bd.box fZ iV [dx g]]))) (k:Nat) (fI:Int) (al:k<e.u.waits.length) (hl:e.u.bz.length<=400000):
  mq fh 66 [I (k:Nat),I fI,.pointer (some ⟨fZ,0,none⟩)] W (c6 g A e++[bd.box fZ iV [dx g]]) dX (λ_=> .tuple #[]) λy=>c6 g {A with s:=y} (Ai e k)++[bd.box fZ iV [dx g]]:=by
 refine pM (ro:=[]) mixed hQ [I (k:Nat),I fI,.pointer (some ⟨fZ,0,none⟩)] aI hv.none ?_;unfold t;refine cL ?_;refine tB (er:=c6 g A e) (λ_=>[]) (λw hw aI=>Q_.any aI k al hl) λy=> ?_
 exact ql ⟨y,rfl,rfl⟩
end ZA
end AE
end
end
section
noncomputable section
namespace AE
theorem ZB {x:az} {i:Nat} (h:i<4):(kU x)[0+1+i*1]? =some (I (cn x.2 i)):=by
 match i,h with
 |0,_=>rfl
 |1,_=>rfl
 |2,_=>rfl
 |3,_=>rfl
abbrev B8 (x:bR):Prop:=∀c,c<4->0<=cn x c/\cn x c<=15
def xx (F:Int) (old x:bR) (fI:Int) (i:Nat):bR:=rA λc=>if c<i then Eg F old x fI c else 0
theorem akb {F:Int} {old x:bR} {fI:Int} {i:Nat} {v:Int} (h:Eg F old x fI i=v):tH (xx F old x fI i) i v=xx F old x fI (i+1):=by
 refine bR.ext' λc ar=> ?_
 unfold tH xx;rw[iU ar,iU ar,iU ar];by_cases ai:c=i
 ·subst ai;rw[aY rfl,aY aj,h]
 ·rw[a_ ai]
  by_cases hl:c<i
  ·rw[aY hl,aY aj]
  ·rw[a_ hl,a_ aj]
theorem Rc {F:Int} {old x:bR} {fI:Int} {i:Nat} (h:Eg F old x fI i=0):xx F old x fI (i+1)=xx F old x fI i:=by
 refine bR.ext' λc ar=> ?_
 unfold xx;rw[iU ar,iU ar];by_cases ai:c=i
 ·subst ai;rw[aY aj,a_ aj,h]
 ·by_cases hl:c<i
  ·rw[aY hl,aY aj]
  ·rw[a_ hl,a_ aj]
theorem akc {F:Int} {old x:bR} {fI:Int}:xx F old x fI 4=Ad F old x fI:=by
 refine bR.ext' λc ar=> ?_
 unfold xx Ad;rw[iU ar,iU ar,aY ar]
@[reducible] def kZ (e:cx) (k:Nat):Int:=(eQ e.table (e.u.lit.getD k default)).2.2.2.2.1
@[reducible] def Rd (e:cx) (k:Nat) (eR:bR):cx:={e with u:={e.u with bJ:=B3 e.u.bJ k eR,gone:=yP e.u.gone k eR,aG:=Ae e.u.aG k eR}}
@[reducible] def Hf (e:cx) (x:az) (k:Nat) (fI:Int):cx:=Rd e k (Ad (kZ e k) x.2 (e.u.aG.getD k default) fI)
namespace ZC
def t:bX:=
.o (.bB 34 2) 4 1 [1]<|
.call 61 [4,0] 5 1<|
.qR 85<|
.o (.bB 34 2) 7 1 [1]<|
.o (.dN 7) 8 1 []<|
.o (.cq 80 8 5) 9 1 [17,45,1]<|
.o (.bB 45 9) 10 1 [1]<|
.o (.dB 45 10 0) 11 1 [0,85,4]<|
.o (.bB 85 11) (.agg ⟨l4 4 12⟩) 4 [4]<|
.loop [I 0] 1<|
.o (.bin .lss 3 16 (I 4)) 17 1 []<|
.e_ 17 (
 .o (.fW 85 (.agg ⟨[12,13,14,15]⟩) 16) 18 1 [1,4,3,1]<|
 .o (.cq 87 3 1) 19 1 [1,85,4]<|
 .o (.dB 85 19 16) 20 1 [1,4,3,1]<|
 .o (.bB 3 20) 21 1 [1]<|
 .o (.bin .gtr 3 21 (I 0)) 22 1 []<|
 .e_ 22 (
  .o (.bin .gtr 3 18 (I 0)) 23 1 []<|
  .e_ 23 (
   .o (.cq 87 3 1) 24 1 [1,85,4]<|
   .o (.dB 85 24 16) 25 1 [1,4,3,1]<|
   .o (.bB 3 25) 26 1 [1]<|
   .o (.bin .lss 3 1 (I 0)) 27 1 []<|
   .c 62 [26,5,16,27] 28 1<|
   .o (.bin .eql 3 18 28) 29 1 []<|
   .e_ 29 (
    .o (.dB 85 6 16) 30 1 [1,4,3,1]<|
    .st 3 30 18<|
    .o (.bin .add 3 16 (I 1)) 31 1 []<|
    .back [31]) (
    .o (.bin .add 3 16 (I 1)) 30 1 []<|
    .back [30])) (
   .o (.bin .add 3 16 (I 1)) 24 1 []<|
   .back [24])) (
  .o (.bin .add 3 16 (I 1)) 23 1 []<|
  .back [23])) (
 .fH<|
 .o (.bB 85 6) (.agg ⟨l4 4 18⟩) 4 [4]<|
 .o (.bin .neq 85 (.agg ⟨[18,19,20,21]⟩) (.agg ⟨[I 0,I 0,I 0,I 0]⟩)) 22 1 []<|
 .e_ 22 (
  .o (.bB 34 2) 23 1 [1]<|
  .o (.bB 85 6) (.agg ⟨l4 4 24⟩) 4 [4]<|
  .call 63 [23,0,.agg ⟨[24,25,26,27]⟩] (.tuple ⟨[]⟩) 0<|
  .ret (.tuple ⟨[]⟩)) (
  .ret (.tuple ⟨[]⟩)))
theorem hQ:kr Tryd.prog 60 {rD:=[63,61],marks:=[85]} [0,1,2,3] 4=some t:=mO au
theorem any {W:ax} {g fZ oM:Nat} {A:dJ} {e:cx} {x:az} (aI:cH (aE W) (cP (c6 g A e++[bd.box fZ iV [dx g],bd.box oM tI (kU x)]))) (k:Nat) (fI:Int) (al:k<e.u.aG.length) (oo:k<e.u.lit.length) (ad:e.u.bJ.length<=300000) (ag:e.u.gone.length<=300000) (aq:B8 x.2) (di:1<=kZ e k/\kZ e k<=16):
  mq fh 60 [I (k:Nat),I fI,.pointer (some ⟨fZ,0,none⟩),.pointer (some ⟨oM,0,none⟩)] W (c6 g A e++[bd.box fZ iV [dx g],bd.box oM tI (kU x)]) (dX×dX) (λ_=> .tuple #[]) λy=>c6 g {A with o:=y.1,g:=y.2} (Hf e x k fI)++[bd.box fZ iV [dx g],bd.box oM tI (kU x)]:=by
 refine pM (ro:=[]) mixed hQ [I (k:Nat),I fI,.pointer (some ⟨fZ,0,none⟩),.pointer (some ⟨oM,0,none⟩)] aI hv.none ?_;unfold t;refine cL ?_;refine tB (er:=c6 g A e) (λ_=>[I (kZ e k)]) (λw hw aI=>Rb.any aI k oo) λ_=> ?_
 refine Ea (z:= .agg ⟨dY z4⟩) (dY z4) au rfl (λb=>wg) λb=> ?_
 refine cL ?_;refine K1 (K:=ly) (l:=e.u.aG) (j:=k) (c:=dY (e.u.aG.getD k default)) U U U oc ?_;generalize nU:e.u.aG.getD k default=fH;generalize aR:kZ e k=F at di;refine xp Nat (λi=>[I (i:Nat)]) (λi=>c6 g A e++[bd.box fZ iV [dx g],bd.box oM tI (kU x),bd.box b pc (dY (xx F x.2 fH fI i))]) (λi=>i<=4) (λi=>4-i) 0 U U aj (λi ai=> ?_);refine cL ?_;refine l6 rfl (λbG=> ?_) λbG=> ?_
 ·have l8:i<4:=by omega
  refine YX (cs:=dY fH) (j:=i) U U (aj' l8) ?_;refine cL ?_;refine BV (u:=I (cn x.2 i)) rfl has (ZB l8) ?_;refine cL ?_;refine l6 rfl (λhp=> ?_) λhp=> ?_
  ·refine cL ?_
   refine l6 rfl (λbf=> ?_) λbf=> ?_
   ·refine cL ?_
    refine BV (u:=I (cn x.2 i)) rfl has (ZB l8) ?_;refine cL ?_;refine rF (v:=I (given (cn x.2 i) F i (decide (fI<0)))) (λw hw=>Lh.any w (cn x.2 i) F i (decide (fI<0)) (by have:=aq i l8;omega) (by have:=aq i l8;omega) aj aj) ?_;refine cL ?_;refine l6 rfl (λao=> ?_) λao=> ?_
    ·refine cL ?_
     refine YS (cs':=dY (xx F x.2 fH fI (i+1))) U U lM ?_ ?_ (by show 0+i*1<4;omega)
     ·rw[<-akb (ajy hp bf ao)]
      exact Lj l8 _
     refine cL ?_;exact pL (i+1) U U aj aj
    ·refine cL ?_
     refine pL (i+1) rfl ?_ aj aj;rw[Rc (Q0 λq=>ao q.2.2)]
   ·refine cL ?_
    refine pL (i+1) rfl ?_ aj aj;rw[Rc (Q0 λq=>bf q.2.1)]
  ·refine cL ?_
   refine pL (i+1) rfl ?_ aj aj;rw[Rc (Q0 λq=>hp q.1)]
 ·refine cL ?_
  obtain rfl:i=4:=by omega
  rw[akc];generalize cO:Ad F x.2 fH fI=eR;refine yM (c:=dY eR) rfl has U U oc ?_;refine YY (b:=decide (eR=z4)) U U ((Y9 eR z4).trans (by rw[Y'])) ?_;refine D' rfl (λbW=> ?_) λbW=> ?_
  ·refine cL ?_
   refine yM (c:=dY eR) rfl has U U oc ?_;refine tB (er:=c6 g A e) (λ_=>[]) (λw hw aI=>Ra.any aI k eR al aj aj) λy=> ?_
   refine sC (λM bw=> ?_) ⟨y,rfl,rfl⟩;unfold Hf Rd;rw[nU,aR,cO];obtain⟨q1,aH,b0⟩:=ajx (l:=e.u.bJ) (g:=e.u.gone) (li:=e.u.aG) (n:=k) bW;rw[q1,aH,b0];exact bw.pick [0,1,2,3,4,5,6,7,8,9,10,11,12,13] rfl
  ·refine sC (λM bw=> ?_) ⟨(A.o,A.g),rfl,rfl⟩
   unfold Hf Rd;rw[nU,aR,cO];obtain⟨q1,aH,b0⟩:=ajw (l:=e.u.bJ) (g:=e.u.gone) (li:=e.u.aG) (n:=k) bW;rw[q1,aH,b0];exact bw.pick [0,1,2,3,4,5,6,7,8,9,10,11,12,13] rfl
end ZC
end AE
end
end
section
noncomputable section
namespace AE
theorem ZD {b:bQ} {p:d_} (af:okB b) (h:bV p b):Ac b p=((cl b p:Nat):Int):=by
 unfold cl;have:=(pa af h).1;rw[G5 h];have ag:=(pa af h).2.2.1;have ay:=j9 h;omega
def Ak (j:Nat):Int:=if j=0 then -1 else 1
theorem akd {j:Nat} (h:j<2):([I (-1),I 1]:List J)[j]? =some (I (Ak j)):=by
 match j,h with
 |0,_=>rfl
 |1,_=>rfl
namespace B9
def t (f:FuncId) (Eh:List J):bX:=
.o (.dN 0) 5 1 []<|
.o (.cq 80 5 1) 6 1 [7,28,7]<|
.o (.cq 28 6 0) 7 1 [0,25,6]<|
.o (.bB 25 7) (.agg ⟨l4 6 8⟩) 6 [6]<|
.c 84 [.agg ⟨[8,9,10,11,12,13]⟩,1] (.tuple ⟨[.agg ⟨[14,15,16]⟩,17]⟩) 4<|
.loop [I 0] 1<|
.o (.bin .lss 3 18 (I 3)) 19 1 []<|
.e_ 19 (
 .loop [I 0] 1<|
 .o (.bin .lss 3 20 (I 2)) 21 1 []<|
 .e_ 21 (
  .o (.fW 135 (.agg ⟨[I (-1),I 1]⟩) 20) 22 1 [1,2,3,1]<|
  .o (.bin .eql 3 18 (I 0)) 23 1 []<|
  .vZ 23 (
   .o (.bin .add 3 14 22) 24 1 []<|
   .back [I 0,24,15,16]) (
   .o (.bin .eql 3 18 (I 1)) 24 1 []<|
   .e_ 24 (
    .o (.bin .add 3 15 22) 25 1 []<|
    .back [I 0,14,25,16]) (
    .o (.bin .add 3 16 22) 25 1 []<|
    .back [22,14,15,25])) 4<|
  .o (.dN 0) 28 1 []<|
  .o (.cq 80 28 1) 29 1 [7,28,7]<|
  .o (.cq 28 29 0) 30 1 [0,25,6]<|
  .o (.bB 25 30) (.agg ⟨l4 6 31⟩) 6 [6]<|
  .c 55 [.agg ⟨[31,32,33,34,35,36]⟩,.agg ⟨[25,26,27]⟩] 37 1<|
  .o (.bin .geq 3 37 (I 0)) 38 1 []<|
  .e_ 38 (
   .o (.dN 0) 39 1 []<|
   .o (.cq 80 39 3) 40 1 [15,30,1]<|
   .o (.bB 30 40) 41 1 [1]<|
   .o (.dB 30 41 37) 42 1 [0,4,1]<|
   .o (.bB 4 42) 43 1 [1]<|
   .e_ 43 (
    .call f (37::24::Eh) (.tuple ⟨[]⟩) 0<|
    .o (.bin .add 3 20 (I 1)) 44 1 []<|
    .back [44]) (
    .o (.bin .add 3 20 (I 1)) 44 1 []<|
    .back [44])) (
   .o (.bin .add 3 20 (I 1)) 39 1 []<|
   .back [39])) (
  .fH<|
  .o (.bin .add 3 18 (I 1)) 22 1 []<|
  .back [22])) (
 .fH<|
 .ret (.tuple ⟨[]⟩))
theorem any {f:FuncId} {Eh tm:List J} {h:D0} (aA:kr fh 59 h [0,1,.func (.func f) #[] ⟨Eh⟩] 5=some (t f Eh)) {c2 c3 nV:J} (kB:∀env n,look env n 2=c2->look env n 3=c3->look env n 4=nV->hO env n Eh=tm) (ar:fY [c2,c3,nV]) (A8:∀v0 v1,hO [nV,c3,c2,v1,v0] 5 [0,1,.func (.func f) #[] ⟨Eh⟩]=[v0,v1,.func (.func f) #[] ⟨tm⟩])
  {W:ax} {g:Nat} {zI Z:Type} (pd:Z->zI->dJ) (nf:zI->cx) (pe:Z->zI->List (bd fh)) (is:List Nat) (st:zI->Nat×Int->zI) (iB:zI) {b:bQ} {sh:List Bool} {k:Nat} (af:okB b) (al:k<sh.length) (hl:sh.length=(fx b).toNat)
  (ZE:∀n,(nf ((eu b sh k n).foldl st iB)).b=b) (es:∀n,(nf ((eu b sh k n).foldl st iB)).u.b_=sh)
  (rY:∀n z w,n<6->cH (aE w) (cP (c6 g (pd z ((eu b sh k n).foldl st iB)) (nf ((eu b sh k n).foldl st iB))++pe z ((eu b sh k n).foldl st iB)))->mq fh f (I (cl b (iL b k n):Nat)::I (qa n)::tm) w (c6 g (pd z ((eu b sh k n).foldl st iB)) (nf ((eu b sh k n).foldl st iB))++pe z ((eu b sh k n).foldl st iB)) Z (λ_=> .tuple #[]) λqp=>c6 g (pd qp (st ((eu b sh k n).foldl st iB) (cl b (iL b k n),qa n))) (nf (st ((eu b sh k n).foldl st iB) (cl b (iL b k n),qa n)))++pe qp (st ((eu b sh k n).foldl st iB) (cl b (iL b k n),qa n)))
  (hp:∀z d,pick (cP (c6 g (pd z d) (nf d)++pe z d)) is=cP (c6 g (pd z d) (nf d)++pe z d)) (ake:∀z d qp ou,uY (c6 g (pd z d) (nf d)++pe z d) is (c6 g (pd qp ou) (nf ou)++pe qp ou)=c6 g (pd qp ou) (nf ou)++pe qp ou)
  (ik:∀z d,j6 (c6 g (pd z d) (nf d)++pe z d).length is=true) (hle:∀z d,is.length<=(c6 g (pd z d) (nf d)++pe z d).length) (z0:Z) (aI:cH (aE W) (cP (c6 g (pd z0 iB) (nf iB)++pe z0 iB))):
  mq fh 59 [dx g,I (k:Nat),.func (.func f) #[] ⟨tm⟩] W (c6 g (pd z0 iB) (nf iB)++pe z0 iB) Z (λ_=> .tuple #[]) λz=>c6 g (pd z ((eu b sh k 6).foldl st iB)) (nf ((eu b sh k 6).foldl st iB))++pe z ((eu b sh k 6).foldl st iB):=by
 have e0:(eu b sh k 0).foldl st iB=iB:=rfl;have aC:0<=((k:Nat):Int)/\((k:Nat):Int)<fx b:=Zc al hl;have Px:=Ze af (k:Nat);refine pM (ro:=[]) mixed aA [dx g,I (k:Nat),c2,c3,nV] aI hv.none ?_ (A8 _ _) (ho:=⟨rfl,rfl,ar⟩);unfold t;refine cL ?_;refine yM (c:=xt b) rfl has (by exact(congrArg xt (ZE 0)).symm) rfl oc ?_;refine QI [I (fu b (k:Nat)).1,I (fu b (k:Nat)).2.1,I (fu b (k:Nat)).2.2,.bool (decide (0<=((k:Nat):Int)/\((k:Nat):Int)<fx b))] (λw _=>Q'.any w b (k:Nat) af) rfl ?_;refine xp (Nat×Z) (λu=>[I (u.1:Nat)]) (λu=>c6 g (pd u.2 ((eu b sh k (2*u.1)).foldl st iB)) (nf ((eu b sh k (2*u.1)).foldl st iB))++pe u.2 ((eu b sh k (2*u.1)).foldl st iB)) (λu=>u.1<=3) (λu=>3-u.1) (0,z0) U U (by show 0<=3;omega) (λu hu=> ?_);obtain⟨i,z⟩:=u;have hu:i<=3:=hu;dsimp only;refine cL ?_;refine l6 rfl (λay=> ?_) λay=> ?_
 ·refine xp (Nat×Z) (λu=>[I (u.1:Nat)]) (λu=>c6 g (pd u.2 ((eu b sh k (2*i+u.1)).foldl st iB)) (nf ((eu b sh k (2*i+u.1)).foldl st iB))++pe u.2 ((eu b sh k (2*i+u.1)).foldl st iB)) (λu=>u.1<=2) (λu=>2-u.1) (0,z) U U (by show 0<=2;omega) (λv yj=> ?_)
  have bW:∃Re,Re=z:=⟨z,rfl⟩;obtain⟨Re,bW⟩:=bW;subst bW;obtain⟨j,z⟩:=v;have yj:j<=2:=yj;dsimp only;refine cL ?_;refine l6 rfl (λag=> ?_) λag=> ?_
  ·have hj:j<2:=by omega
   have cU:2*i+j<6:=by omega
   have Ll: -1<=Ak j/\Ak j<=1:=by unfold Ak;split<;>omega
   refine YX (cs:=[I (-1),I 1]) (j:=j) U U (akd hj) ?_;refine cL ?_;refine ajb (Int×d_) (λu=>[I u.1,I u.2.1,I u.2.2.1,I u.2.2.2]) (λ_=>c6 g (pd z ((eu b sh k (2*i+j)).foldl st iB)) (nf ((eu b sh k (2*i+j)).foldl st iB))++pe z ((eu b sh k (2*i+j)).foldl st iB)) (λu=>u=(qa (2*i+j),iL b k (2*i+j))) rfl (λai=> ?_) (λai=> ?_) (λu hu=> ?_)
   ·refine cL ?_
    refine QJ (0,(fu b (k:Nat)).1+Ak j,(fu b (k:Nat)).2.1,(fu b (k:Nat)).2.2) U U ?_;obtain rfl:i=0:=by omega
    match j,hj with
    |0,_=>rfl
    |1,_=>rfl
   ·refine cL ?_
    refine l6 rfl (λB'=> ?_) λB'=> ?_
    ·refine cL ?_
     refine QJ (0,(fu b (k:Nat)).1,(fu b (k:Nat)).2.1+Ak j,(fu b (k:Nat)).2.2) U U ?_;obtain rfl:i=1:=by omega
     match j,hj with
     |0,_=>rfl
     |1,_=>rfl
    ·refine cL ?_
     refine QJ (Ak j,(fu b (k:Nat)).1,(fu b (k:Nat)).2.1,(fu b (k:Nat)).2.2+Ak j) U U ?_;obtain rfl:i=2:=by omega
     match j,hj with
     |0,_=>rfl
     |1,_=>rfl
   ·subst hu
    dsimp only;have fD:=G6 (b:=b) al hl (iL b k (2*i+j));have apd:(cl b (iL b k (2*i+j)))<(nf ((eu b sh k (2*i+j)).foldl st iB)).u.b_.length:=by rw[es];exact fD
    refine cL ?_;refine yM (c:=xt b) rfl has (by exact(congrArg xt (ZE (2*i+j))).symm) rfl oc ?_;by_cases lF:bV (iL b k (2*i+j)) b
    ·refine rF (v:=I (cl b (iL b k (2*i+j)):Nat)) (λw _=>by rw[<-ZD af lF];exact He.any w b (iL b k (2*i+j)) af) ?_
     refine cL ?_;refine l6 rfl (λaL=> ?_) λaL=>absurd (Int.natCast_nonneg _) aL
     refine cL ?_;refine D_ rfl (λaw=> ?_) λaw=> ?_
     ·have aw:sh.getD (cl b (iL b k (2*i+j))) default=true:=by rw[<-es (2*i+j)];exact aw
      refine lN (v:=λ_=> .tuple #[]) (N:=λqp=>c6 g (pd qp (st ((eu b sh k (2*i+j)).foldl st iB) (cl b (iL b k (2*i+j)),qa (2*i+j)))) (nf (st ((eu b sh k (2*i+j)).foldl st iB) (cl b (iL b k (2*i+j)),qa (2*i+j))))++pe qp (st ((eu b sh k (2*i+j)).foldl st iB) (cl b (iL b k (2*i+j)),qa (2*i+j)))) (er:=c6 g (pd z ((eu b sh k (2*i+j)).foldl st iB)) (nf ((eu b sh k (2*i+j)).foldl st iB))++pe z ((eu b sh k (2*i+j)).foldl st iB)) (L':=λqp=>c6 g (pd qp ((eu b sh k (2*i+(j+1))).foldl st iB)) (nf ((eu b sh k (2*i+(j+1))).foldl st iB))++pe qp ((eu b sh k (2*i+(j+1))).foldl st iB)) is (λ_=>[]) (λw hw aI=>rY (2*i+j) z w cU aI) (λqp=> ?_) (ha:=by exact congrArg (λl=>I (cl b (iL b k (2*i+j)):Nat)::I (qa (2*i+j))::l) (kB _ _ (by rfl) (by rfl) (by rfl))) (hL:=λqp=> ?_) (hp:=hp _ _) (ik:=ik _ _) (hl:=λqp=>hle _ _)
      ·refine cL ?_
       exact pL (u:=(j,z)) (j+1,qp) U U (by show j+1<=2;omega) (by show 2-(j+1)<2-j;omega)
      ·rw[ake,show 2*i+(j+1)=2*i+j+1 by omega,ajA al hl cU lF aw,List.foldl_append]
       rfl
     ·have aw:¬sh.getD (cl b (iL b k (2*i+j))) default=true:=by rw[<-es (2*i+j)];rw[show _=false from aw];decide
      refine cL ?_;refine pL (u:=(j,z)) (j+1,z) rfl ?_ (by show j+1<=2;omega) (by show 2-(j+1)<2-j;omega);dsimp only;rw[show 2*i+(j+1)=2*i+j+1 by omega,ajB al hl cU lF aw]
    ·refine rF (v:=I (-1)) (λw _=>by rw[<-Ef lF];exact He.any w b (iL b k (2*i+j)) af) ?_
     refine cL ?_;refine l6 rfl (λaL=>absurd aL cw) λaL=> ?_
     refine cL ?_;refine pL (u:=(j,z)) (j+1,z) rfl ?_ (by show j+1<=2;omega) (by show 2-(j+1)<2-j;omega);dsimp only;rw[show 2*i+(j+1)=2*i+j+1 by omega,ajC al hl cU lF]
  ·refine cL ?_
   obtain rfl:j=2:=by omega
   exact pL (u:=(i,Re)) (i+1,z) U U (by show i+1<=3;omega) (by show 3-(i+1)<3-i;omega)
 ·refine cL ?_
  obtain rfl:i=3:=by omega
  exact ql ⟨z,rfl,rfl⟩
end B9
end AE
end
end
section
noncomputable section
namespace AE
@[reducible] def B_ (e:cx) (s:List az×List Nat×List bR):cx:={e with u:={e.u with bJ:=s.1,gone:=s.2.1,aG:=s.2.2}}
theorem Hg (x:az):∀(l:List (Nat×Int)) (e:cx),l.foldl (λe p=>Hf e x p.1 p.2) e=B_ e (mr e.table e.u.lit x.2 l (e.u.bJ,e.u.gone,e.u.aG))
 |[],_=>rfl
 |p::l,e=>by
  rw[List.foldl_cons,Hg x l];rfl
theorem Rf (table:List cW) (lit:List Int) (old:bR):∀(l:List (Nat×Int)) (s:List az×List Nat×List bR),(mr table lit old l s).1.length<=s.1.length+l.length/\(mr table lit old l s).2.1.length<=s.2.1.length+l.length/\(mr table lit old l s).2.2.length=s.2.2.length
 |[],_=>⟨ch _,ch _,rfl⟩
 |p::l,s=>by
  obtain⟨q1,aH,b0⟩:=Rf table lit old l (pb table lit old s p);have cS:(pb table lit old s p).1.length<=s.1.length+1:=Zf _ _ _;have dy:(pb table lit old s p).2.1.length<=s.2.1.length+1:=ajD _ _ _;have gj:(pb table lit old s p).2.2.length=s.2.2.length:=ajE _ _ _;have e:mr table lit old (p::l) s=mr table lit old l (pb table lit old s p):=rfl;rw[e,List.length_cons];exact⟨aj,aj,b0.trans gj⟩
@[reducible] def Lm (e:cx) (s:List Nat×List Bool):cx:={e with u:={e.u with bz:=s.1,waits:=s.2}}
theorem Hh:∀(l:List (Nat×Int)) (e:cx),l.foldl (λe p=>Ai e p.1) e=Lm e (sF l (e.u.bz,e.u.waits))
 |[],_=>rfl
 |p::l,e=>by
  rw[List.foldl_cons,Hh l];rfl
theorem ZF:∀(l:List (Nat×Int)) (s:List Nat×List Bool),(sF l s).1.length<=s.1.length+l.length/\(sF l s).2.length=s.2.length
 |[],_=>⟨ch _,rfl⟩
 |p::l,s=>by
  obtain⟨q1,aH⟩:=ZF l (mN s.1 s.2 p.1,nN s.2 p.1);have cS:=Xx s.1 s.2 p.1;have dy:=Kw s.2 p.1;have e:sF (p::l) s=sF l (mN s.1 s.2 p.1,nN s.2 p.1):=rfl;rw[e,List.length_cons];dsimp only at q1 aH;exact⟨aj,aH.trans dy⟩
theorem Rg (b:bQ) (sh:List Bool) (k j:Nat):(eu b sh k j).length<=j:=by
 unfold eu xv;exact Nat.le_trans (List.length_filter_le _ _) (Pk _ _ _ _ _)
theorem Rh (a b c:Nat):fY [.pointer (some ⟨a,0,none⟩),.pointer (some ⟨b,0,none⟩),.pointer (some ⟨c,0,none⟩)]:=⟨rfl,rfl,rfl,trivial⟩
namespace ZG
theorem hQ:kr fh 59 {rD:=[60],cells:=[(1039,1,0),(1039,1,1),(1039,1,2)],KH:=[(39,[])]} [0,1,.func (.func 60) ⟨[]⟩ ⟨[2,3]⟩] 5=some (B9.t 60 [2,3]):=mO au
theorem any {W:ax} {g fZ oM:Nat} {A:dJ} {e:cx} {x:az} (aI:cH (aE W) (cP (c6 g A e++[bd.box fZ iV [dx g],bd.box oM tI (kU x)]))) (k:Nat) (af:okB e.b) (al:k<e.u.b_.length) (hl:e.u.b_.length=(fx e.b).toNat) (lh:e.u.aG.length=e.u.b_.length) (BI:e.u.lit.length=e.u.b_.length) (ad:e.u.bJ.length<=200000) (ag:e.u.gone.length<=200000) (aq:B8 x.2) (di:∀n,n<e.u.b_.length->1<=kZ e n/\kZ e n<=16):
  mq fh 59 [dx g,I (k:Nat),.func (.func 60) #[] ⟨[dx fZ,dx oM]⟩] W (c6 g A e++[bd.box fZ iV [dx g],bd.box oM tI (kU x)]) (dX×dX) (λ_=> .tuple #[]) λy=>c6 g {A with o:=y.1,g:=y.2} (B_ e (mr e.table e.u.lit x.2 (eu e.b e.u.b_ k 6) (e.u.bJ,e.u.gone,e.u.aG)))++[bd.box fZ iV [dx g],bd.box oM tI (kU x)]:=by
 rw[<-Hg];refine B9.any hQ (c2:=dx fZ) (c3:=dx oM) (nV:=dx fZ) (tm:=[dx fZ,dx oM]) (λenv n ag ay _=> ?_) (Rh _ _ _) (λ_ _=>rfl) (λz (_:cx)=>{A with o:=z.1,g:=z.2}) (λe=>e) (λ_ _=>[bd.box fZ iV [dx g],bd.box oM tI (kU x)]) [0,1,2,3,4,5,6,7,8,9,10,11,12,13] (λe p=>Hf e x p.1 p.2) e af al hl (λn=>by rw[Hg]) (λn=>by rw[Hg]) (λn z w cU aI=> ?_) (λ_ _=>rfl) (λ_ _ _ _=>K6 (n:=14) U U) (λ_ _=>rfl) (λ_ _=>gI rfl) (A.o,A.g) aI
 ·show [look env n 2,look env n 3]=_
  rw[ag,ay]
 ·have av:=Rg e.b e.u.b_ k n
  have hp:=G6 (b:=e.b) al hl (iL e.b k n);rw[Hg] at aI ⊢;obtain⟨q1,aH,b0⟩:=Rf e.table e.u.lit x.2 (eu e.b e.u.b_ k n) (e.u.bJ,e.u.gone,e.u.aG);dsimp only at q1 aH b0;exact ZC.any aI (cl e.b (iL e.b k n)) (qa n) (by show _<(mr e.table e.u.lit x.2 (eu e.b e.u.b_ k n) (e.u.bJ,e.u.gone,e.u.aG)).2.2.length;rw[b0,lh];exact hp) (by show _<e.u.lit.length;rw[BI];exact hp) (by show (mr e.table e.u.lit x.2 (eu e.b e.u.b_ k n) (e.u.bJ,e.u.gone,e.u.aG)).1.length<=_;omega) (by show (mr e.table e.u.lit x.2 (eu e.b e.u.b_ k n) (e.u.bJ,e.u.gone,e.u.aG)).2.1.length<=_;omega) aq (di _ hp)
end ZG
namespace ZH
theorem hQ:kr fh 59 {rD:=[66],cells:=[(1039,1,0),(1039,1,1),(1039,1,2)],KH:=[(39,[])]} [0,1,.func (.func 66) ⟨[]⟩ ⟨[2]⟩] 5=some (B9.t 66 [2]):=mO au
theorem any {W:ax} {g fZ:Nat} {A:dJ} {e:cx} (aI:cH (aE W) (cP (c6 g A e++[bd.box fZ iV [dx g]]))) (k:Nat) (af:okB e.b) (al:k<e.u.b_.length) (hl:e.u.b_.length=(fx e.b).toNat) (hw:e.u.waits.length=e.u.b_.length) (ad:e.u.bz.length<=200000):
  mq fh 59 [dx g,I (k:Nat),.func (.func 66) #[] ⟨[dx fZ]⟩] W (c6 g A e++[bd.box fZ iV [dx g]]) dX (λ_=> .tuple #[]) λy=>c6 g {A with s:=y} (Lm e (sF (eu e.b e.u.b_ k 6) (e.u.bz,e.u.waits)))++[bd.box fZ iV [dx g]]:=by
 rw[<-Hh];refine B9.any hQ (c2:=dx fZ) (c3:=dx fZ) (nV:=dx fZ) (tm:=[dx fZ]) (λenv n ag _ _=> ?_) (Rh _ _ _) (λ_ _=>rfl) (λz (_:cx)=>{A with s:=z}) (λe=>e) (λ_ _=>[bd.box fZ iV [dx g]]) [0,1,2,3,4,5,6,7,8,9,10,11,12] (λe p=>Ai e p.1) e af al hl (λn=>by rw[Hh]) (λn=>by rw[Hh]) (λn z w cU aI=> ?_) (λ_ _=>rfl) (λ_ _ _ _=>K6 (n:=13) U U) (λ_ _=>rfl) (λ_ _=>gI rfl) A.s aI
 ·show [look env n 2]=_
  rw[ag]
 ·have av:=Rg e.b e.u.b_ k n
  have hp:=G6 (b:=e.b) al hl (iL e.b k n);rw[Hh] at aI ⊢;obtain⟨q1,aH⟩:=ZF (eu e.b e.u.b_ k n) (e.u.bz,e.u.waits);dsimp only at q1 aH;exact ZA.any aI (cl e.b (iL e.b k n)) (qa n) (by show _<(sF (eu e.b e.u.b_ k n) (e.u.bz,e.u.waits)).2.length;rw[aH,hw];exact hp) (by show (sF (eu e.b e.u.b_ k n) (e.u.bz,e.u.waits)).1.length<=_;omega)
end ZH
end AE
end
end
section
noncomputable section
namespace AE
abbrev tJ:aK:=3
def wq (F:Int) (out x:bR) (fI:Int) (i:Nat):bR:=rA λc=>if c<i then Za F out x fI c else cn out c
theorem akf {F:Int} {out x:bR} {fI:Int}:wq F out x fI 0=out:=bR.ext' λc ar=>by
 unfold wq;rw[iU ar,a_ aj]
theorem akg {F:Int} {out x:bR} {fI:Int}:wq F out x fI 4=B4 F out x fI:=bR.ext' λc ar=>by
 unfold wq B4;rw[iU ar,iU ar,aY ar]
theorem akh {F:Int} {out x:bR} {fI:Int} {i:Nat} (h:i<4):cn (wq F out x fI i) i=cn out i:=by
 unfold wq;rw[iU h,a_ aj]
theorem aki {F:Int} {out x:bR} {fI:Int} {i:Nat}:tH (wq F out x fI i) i (max (cn out i) (given (cn x i) F i (decide (0<fI))))=wq F out x fI (i+1):=bR.ext' λc ar=>by
 unfold tH wq;rw[iU ar,iU ar,iU ar];by_cases ai:c=i
 ·subst ai;rw[aY rfl,aY aj];rfl
 ·rw[a_ ai]
  by_cases hl:c<i
  ·rw[aY hl,aY aj]
  ·rw[a_ hl,a_ aj]
namespace ZI
def t:bX:=
.loop [I 0] 1<|
.o (.bin .lss 3 5 (I 4)) 6 1 []<|
.e_ 6 (
 .o (.dB 85 2 5) 7 1 [1,4,3,1]<|
 .o (.bB 3 7) 8 1 [1]<|
 .o (.bB 34 3) 9 1 [1]<|
 .o (.dN 9) 10 1 []<|
 .o (.cq 80 10 5) 11 1 [17,45,1]<|
 .o (.bB 45 11) 12 1 [1]<|
 .o (.dB 45 12 0) 13 1 [0,85,4]<|
 .o (.dB 85 13 5) 14 1 [1,4,3,1]<|
 .o (.bB 3 14) 15 1 [1]<|
 .o (.bB 3 4) 16 1 [1]<|
 .o (.bin .gtr 3 1 (I 0)) 17 1 []<|
 .c 62 [15,16,5,17] 18 1<|
 .o (.e5 #[3,3] 3 8 18) 19 1 []<|
 .st 3 7 19<|
 .o (.bin .add 3 5 (I 1)) 20 1 []<|
 .back [20]) (
 .fH<|
 .ret (.tuple ⟨[]⟩))
theorem hQ:kr Tryd.prog 88 {} [0,1,2,3,4] 5=some t:=mO au
theorem any {W:ax} {g go fZ pg:Nat} {A:dJ} {e:cx} {out:bR} {F:Int} (aI:cH (aE W) (cP (c6 g A e++[bd.box go pc (dY out),bd.box fZ iV [dx g],bd.box pg tJ [I F]]))) (k:Nat) (fI:Int) (al:k<e.u.aG.length) (af:B8 (e.u.aG.getD k default)) (di:1<=F/\F<=16):
  mq fh 88 [I (k:Nat),I fI,dx go,dx fZ,dx pg] W (c6 g A e++[bd.box go pc (dY out),bd.box fZ iV [dx g],bd.box pg tJ [I F]]) Unit (λ_=> .tuple #[]) λ_=>c6 g A e++[bd.box go pc (dY (B4 F out (e.u.aG.getD k default) fI)),bd.box fZ iV [dx g],bd.box pg tJ [I F]]:=by
 refine pM (ro:=[]) mixed hQ [I (k:Nat),I fI,dx go,dx fZ,dx pg] aI hv.none ?_;unfold t;generalize nU:e.u.aG.getD k default=fH at af ⊢;refine xp Nat (λi=>[I (i:Nat)]) (λi=>c6 g A e++[bd.box go pc (dY (wq F out fH fI i)),bd.box fZ iV [dx g],bd.box pg tJ [I F]]) (λi=>i<=4) (λi=>4-i) 0 rfl (by rw[akf]) aj (λi ai=> ?_);refine cL ?_;refine l6 rfl (λbG=> ?_) λbG=> ?_
 ·have l8:i<4:=by omega
  refine cL ?_;refine BV (u:=I (cn out i)) rfl has (by rw[<-akh (F:=F) (x:=fH) (fI:=fI) l8];exact Aj l8) ?_;refine cL ?_;refine K0 (K:=ly) (l:=e.u.aG) (j:=k) (o:=0+i*1) (u:=I (cn fH i)) rfl (by rw[<-nU];exact Aj l8) ?_;refine cL ?_;refine rF (v:=I (given (cn fH i) F i (decide (0<fI)))) (λw hw=>Lh.any w (cn fH i) F i (decide (0<fI)) (by have:=af i l8;omega) (by have:=af i l8;omega) aj aj) ?_;refine cL ?_;refine YS (cs':=dY (wq F out fH fI (i+1))) U U lM ?_ ?_ (by show 0+i*1<4;omega)
  ·rw[<-aki]
   exact Lj l8 _
  refine cL ?_;exact pL (i+1) U U aj aj
 ·refine cL ?_
  obtain rfl:i=4:=by omega
  refine ql ⟨(),rfl,?_⟩;rw[akg]
end ZI
namespace Ri
theorem hQ:kr fh 59 {rD:=[88],cells:=[(1039,1,0),(1039,1,1),(1039,1,2)],KH:=[(39,[])]} [0,1,.func (.func 88) ⟨[]⟩ ⟨[2,3,4]⟩] 5=some (B9.t 88 [2,3,4]):=mO au
theorem any {W:ax} {g go fZ pg:Nat} {A:dJ} {e:cx} {out:bR} {F:Int} (aI:cH (aE W) (cP (c6 g A e++[bd.box go pc (dY out),bd.box fZ iV [dx g],bd.box pg tJ [I F]]))) (k:Nat) (af:okB e.b) (al:k<e.u.b_.length) (hl:e.u.b_.length=(fx e.b).toNat) (lh:e.u.aG.length=e.u.b_.length) (hL:∀n,n<e.u.b_.length->B8 (e.u.aG.getD n default)) (di:1<=F/\F<=16):
  mq fh 59 [dx g,I (k:Nat),.func (.func 88) #[] ⟨[dx go,dx fZ,dx pg]⟩] W (c6 g A e++[bd.box go pc (dY out),bd.box fZ iV [dx g],bd.box pg tJ [I F]]) Unit (λ_=> .tuple #[]) λ_=>c6 g A e++[bd.box go pc (dY (sG F e.u.aG (eu e.b e.u.b_ k 6) out)),bd.box fZ iV [dx g],bd.box pg tJ [I F]]:=by
 refine B9.any hQ (c2:=dx go) (c3:=dx fZ) (nV:=dx pg) (tm:=[dx go,dx fZ,dx pg]) (λenv n ag ay bG=> ?_) (Rh _ _ _) (λ_ _=>rfl) (λ(_:Unit) (_:bR)=>A) (λ_=>e) (λ_ o=>[bd.box go pc (dY o),bd.box fZ iV [dx g],bd.box pg tJ [I F]]) [0,1,2,3,4,5,6,7,8,9,10,11,12,13,14] (λo p=>B4 F o (e.u.aG.getD p.1 default) p.2) out af al hl (λn=>rfl) (λn=>rfl) (λn z w cU aI=> ?_) (λ_ _=>rfl) (λ_ _ _ _=>K6 (n:=15) U U) (λ_ _=>rfl) (λ_ _=>gI rfl) () aI
 ·show [look env n 2,look env n 3,look env n 4]=_
  rw[ag,ay,bG]
 ·have hp:=G6 (b:=e.b) al hl (iL e.b k n)
  exact ZI.any aI (cl e.b (iL e.b k n)) (qa n) (by rw[lh];exact hp) (hL _ hp) di
end Ri
namespace ZJ
def t:bX:=
.tu 34 0<|
.qR 85<|
.qR 85<|
.o (.bB 34 2) 5 1 [1]<|
.o (.dN 5) 6 1 []<|
.o (.cq 80 6 3) 7 1 [15,30,1]<|
.o (.bB 30 7) 8 1 [1]<|
.o (.dB 30 8 1) 9 1 [0,4,1]<|
.o (.bB 4 9) 10 1 [1]<|
.o (.un .not 10) 11 1 []<|
.e_ 11 (
 .o (.bB 85 4) (.agg ⟨l4 4 12⟩) 4 [4]<|
 .st 85 3 (.agg ⟨[12,13,14,15]⟩)<|
 .tv 85 3) (
 .o (.bB 34 2) 12 1 [1]<|
 .o (.dN 12) 13 1 []<|
 .o (.cq 80 13 4) 14 1 [16,29,1]<|
 .o (.bB 29 14) 15 1 [1]<|
 .o (.cq 80 13 1) 16 1 [7,28,7]<|
 .o (.cq 28 16 1) 17 1 [6,26,1]<|
 .o (.bB 26 17) 18 1 [1]<|
 .o (.dB 26 18 1) 19 1 [0,3,1]<|
 .o (.bB 3 19) 20 1 [1]<|
 .c 87 [15,20] (.agg ⟨[21,22,23]⟩) 3<|
 .o (.mg 85 4 none none none) 24 1 [1,4,3,1]<|
 .sm 26 24 [21,22,23]<|
 .o (.bB 34 2) 25 1 [1]<|
 .call 61 [25,1] 26 1<|
 .qR 3<|
 .st 3 27 26<|
 .o (.bB 34 2) 28 1 [1]<|
 .o (.dN 28) 29 1 []<|
 .o (.cq 80 29 1) 30 1 [7,28,7]<|
 .o (.cq 28 30 0) 31 1 [0,25,6]<|
 .o (.bB 25 31) (.agg ⟨l4 6 32⟩) 6 [6]<|
 .c 84 [.agg ⟨[32,33,34,35,36,37]⟩,1] (.tuple ⟨[.agg ⟨[38,39,40]⟩,41]⟩) 4<|
 .o (.cq 25 31 1) 42 1 [3,23,3]<|
 .o (.cq 23 42 2) 43 1 [2,3,1]<|
 .o (.bB 3 43) 44 1 [1]<|
 .o (.bin .sub 3 44 (I 1)) 45 1 []<|
 .o (.bin .eql 3 40 45) 46 1 []<|
 .e_ 46 (
  .o (.bB 3 27) 47 1 [1]<|
  .c 62 [I 15,47,I 3,.bool true] 48 1<|
  .o (.dB 85 4 (I 3)) 49 1 [1,4,3,1]<|
  .st 3 49 48<|
  .o (.bB 34 2) 50 1 [1]<|
  .call 59 [50,1,.func (.func 88) ⟨[]⟩ ⟨[4,2,27]⟩] (.tuple ⟨[]⟩) 0<|
  .o (.bB 85 4) (.agg ⟨l4 4 51⟩) 4 [4]<|
  .st 85 3 (.agg ⟨[51,52,53,54]⟩)<|
  .tv 85 3) (
  .o (.bB 34 2) 47 1 [1]<|
  .call 59 [47,1,.func (.func 88) ⟨[]⟩ ⟨[4,2,27]⟩] (.tuple ⟨[]⟩) 0<|
  .o (.bB 85 4) (.agg ⟨l4 4 48⟩) 4 [4]<|
  .st 85 3 (.agg ⟨[48,49,50,51]⟩)<|
  .tv 85 3))
theorem hQ:kr Tryd.prog 65 {rD:=[59,61],marks:=[34,85,3]} [0,1] 2=some t:=mO au
theorem any {W:ax} {g:Nat} {A:dJ} {e:cx} (aI:cH (aE W) (cP (c6 g A e))) (k:Nat) (af:okB e.b) (al:k<e.u.b_.length) (hl:e.u.b_.length=(fx e.b).toNat) (lh:e.u.aG.length=e.u.b_.length) (BI:e.u.lit.length=e.u.b_.length) (hL:∀n,n<e.u.b_.length->B8 (e.u.aG.getD n default)) (di:1<=kZ e k/\kZ e k<=16):
  mq fh 65 [dx g,I (k:Nat)] W (c6 g A e) Unit (λ_=> .agg ⟨dY (wm e.table e.u.lit e.u.aG e.u.b_ e.b k)⟩) λ_=>c6 g A e:=by
 have aC:0<=((k:Nat):Int)/\((k:Nat):Int)<fx e.b:=Zc al hl;have Px:=Ze af (k:Nat);have ng:k<e.u.lit.length:=by omega
 refine pM (ro:=[]) mixed hQ [dx g,I (k:Nat)] aI hv.none ?_;unfold t;refine QH (cs:=[dx g]) U U (λb=>wg) λfZ=> ?_
 refine Ea (z:= .agg ⟨dY z4⟩) (dY z4) au rfl (λb=>wg) λgr=> ?_
 refine Ea (z:= .agg ⟨dY z4⟩) (dY z4) au rfl (λb=>wg) λgo=> ?_
 refine cL ?_;refine D_ rfl (λo0=> ?_) λo0=> ?_
 ·have aw:¬e.u.b_.getD k default=true:=by simpa using o0
  refine yM (c:=dY z4) rfl has U U oc ?_;refine G1 (m:=4) (us:=dY z4) (cs':=dY z4) U U lM rfl ?_;refine QG (L':=c6 g A e) rfl has (λM bw=>bw.pre) ⟨(),?_,rfl⟩;rw[ajF aw]
 ·have aw:e.u.b_.getD k default=true:=by simpa using o0
  refine cL ?_;refine QI [I (gY (eQ e.table (e.u.lit.getD k default)) 0),I (gY (eQ e.table (e.u.lit.getD k default)) 1),I (gY (eQ e.table (e.u.lit.getD k default)) 2)] (λw hw=>Zz.any w ((l5.arr (K:=Ag) (l:=e.table) has).at hw) _) rfl ?_;refine ajf rfl ?_;refine ai' (e:=tJ) (us:=[I (gY (eQ e.table (e.u.lit.getD k default)) 0),I (gY (eQ e.table (e.u.lit.getD k default)) 1),I (gY (eQ e.table (e.u.lit.getD k default)) 2)]) (cs':=dY (gY (eQ e.table (e.u.lit.getD k default)) 0,gY (eQ e.table (e.u.lit.getD k default)) 1,gY (eQ e.table (e.u.lit.getD k default)) 2,0)) U U lM rfl ?_;refine cL ?_;refine tB (er:=c6 g A e) (λ_=>[I (kZ e k)]) (λw hw aI=>Rb.any aI k ng) (λ_=> ?_);refine Ea (z:=I 0) [I 0] au rfl (λb=>wg) λpg=> ?_
  refine G0 U U lM GZ ?_;refine cL ?_;refine yM (c:=xt e.b) rfl has U U oc ?_;refine QI [I (fu e.b (k:Nat)).1,I (fu e.b (k:Nat)).2.1,I (fu e.b (k:Nat)).2.2,.bool (decide (0<=((k:Nat):Int)/\((k:Nat):Int)<fx e.b))] (λw _=>Q'.any w e.b (k:Nat) af) rfl ?_;unfold okB at af;refine cL ?_;have af:okB e.b:=af;refine l6 rfl (λaN=> ?_) λaN=> ?_
  ·refine cL ?_
   refine rF (v:=I (given 15 (kZ e k) 3 true)) (λw hw=>Lh.any w 15 (kZ e k) 3 true cw cw aj aj) ?_;refine YQ (j:=3) U U ?_;refine cL ?_;refine lN (er:=c6 g A e++[bd.box go pc (dY (gY (eQ e.table (e.u.lit.getD k default)) 0,gY (eQ e.table (e.u.lit.getD k default)) 1,gY (eQ e.table (e.u.lit.getD k default)) 2,given 15 (kZ e k) 3 true)),bd.box fZ iV [dx g],bd.box pg tJ [I (kZ e k)]]) (L':=λ_=>c6 g A e++[bd.box fZ iV [dx g],bd.box gr pc (dY z4),bd.box go pc (dY (sG (kZ e k) e.u.aG (eu e.b e.u.b_ k 6) (gY (eQ e.table (e.u.lit.getD k default)) 0,gY (eQ e.table (e.u.lit.getD k default)) 1,gY (eQ e.table (e.u.lit.getD k default)) 2,given 15 (kZ e k) 3 true))),bd.box pg tJ [I (kZ e k)]]) [0,1,2,3,4,5,6,7,8,9,10,11,14,12,15] (λ_=>[]) (λw hw aI=>Ri.any aI k af al hl lh hL di) (λ_=> ?_);refine yM (c:=dY (sG (kZ e k) e.u.aG (eu e.b e.u.b_ k 6) (gY (eQ e.table (e.u.lit.getD k default)) 0,gY (eQ e.table (e.u.lit.getD k default)) 1,gY (eQ e.table (e.u.lit.getD k default)) 2,given 15 (kZ e k) 3 true))) rfl has U U oc ?_;refine G1 (m:=4) (us:=dY (sG (kZ e k) e.u.aG (eu e.b e.u.b_ k 6) (gY (eQ e.table (e.u.lit.getD k default)) 0,gY (eQ e.table (e.u.lit.getD k default)) 1,gY (eQ e.table (e.u.lit.getD k default)) 2,given 15 (kZ e k) 3 true))) (cs':=dY (sG (kZ e k) e.u.aG (eu e.b e.u.b_ k 6) (gY (eQ e.table (e.u.lit.getD k default)) 0,gY (eQ e.table (e.u.lit.getD k default)) 1,gY (eQ e.table (e.u.lit.getD k default)) 2,given 15 (kZ e k) 3 true))) U U lM rfl ?_;refine QG (L':=c6 g A e) rfl has (λM bw=>bw.pre) ⟨(),?_,rfl⟩;rw[ajG aw aN]
  ·refine cL ?_
   refine lN (er:=c6 g A e++[bd.box go pc (dY (gY (eQ e.table (e.u.lit.getD k default)) 0,gY (eQ e.table (e.u.lit.getD k default)) 1,gY (eQ e.table (e.u.lit.getD k default)) 2,0)),bd.box fZ iV [dx g],bd.box pg tJ [I (kZ e k)]]) (L':=λ_=>c6 g A e++[bd.box fZ iV [dx g],bd.box gr pc (dY z4),bd.box go pc (dY (sG (kZ e k) e.u.aG (eu e.b e.u.b_ k 6) (gY (eQ e.table (e.u.lit.getD k default)) 0,gY (eQ e.table (e.u.lit.getD k default)) 1,gY (eQ e.table (e.u.lit.getD k default)) 2,0))),bd.box pg tJ [I (kZ e k)]]) [0,1,2,3,4,5,6,7,8,9,10,11,14,12,15] (λ_=>[]) (λw hw aI=>Ri.any aI k af al hl lh hL di) (λ_=> ?_);refine yM (c:=dY (sG (kZ e k) e.u.aG (eu e.b e.u.b_ k 6) (gY (eQ e.table (e.u.lit.getD k default)) 0,gY (eQ e.table (e.u.lit.getD k default)) 1,gY (eQ e.table (e.u.lit.getD k default)) 2,0))) rfl has U U oc ?_;refine G1 (m:=4) (us:=dY (sG (kZ e k) e.u.aG (eu e.b e.u.b_ k 6) (gY (eQ e.table (e.u.lit.getD k default)) 0,gY (eQ e.table (e.u.lit.getD k default)) 1,gY (eQ e.table (e.u.lit.getD k default)) 2,0))) (cs':=dY (sG (kZ e k) e.u.aG (eu e.b e.u.b_ k 6) (gY (eQ e.table (e.u.lit.getD k default)) 0,gY (eQ e.table (e.u.lit.getD k default)) 1,gY (eQ e.table (e.u.lit.getD k default)) 2,0))) U U lM rfl ?_;refine QG (L':=c6 g A e) rfl has (λM bw=>bw.pre) ⟨(),?_,rfl⟩;rw[ajH aw aN]
end ZJ
end AE
end
end
namespace AE
@[reducible] def mu (b:bQ) (v:J):J:= .agg ⟨[.int .i64 b.1,.int .i64 b.2.1,.int .i64 b.2.2.1,.int .i64 b.2.2.2.1,.int .i64 b.2.2.2.2.1,.int .i64 b.2.2.2.2.2,v]⟩
theorem akj {α:Type} {P:aS} {f:FuncId} {args:Array J} {w:ax} {e:aK} {k:Nat} {enc:α->List J} {l:List α} {L:List cb} {F:J->J} (aw:cH (aE w) L)
  (h:Calls P f args w λe' w'=>(∃a c,e'= .returned (F (.slice a l.length c))/\dw w.heap.size (aE w') e k enc (.slice a l.length c) l)/\cj w.heap.size w w'):
  Calls P f args w λe' w'=>(∃y:Option Addr×Nat,e'= .returned (F (.slice y.1 l.length y.2))/\cZ (aE w) L (aE w') (L++[hr e k enc (.slice y.1 l.length y.2) l]))/\cj 0 w w':=
 h.mono λe' w' he=>by
   obtain⟨⟨a,c,rfl,cO⟩,hl⟩:=he;have t:cZ (aE w) [] (aE w') [hr e k enc (.slice a l.length c) l]:=⟨cH.one (sk cO),λi o ai _=>by
    rw[show aE w' i=aE w i from hl.block i (Array.getElem?_eq_some_iff.1 ai).1]
    exact ai,λb af=> .inr (Array.getElem?_eq_none_iff.2 (cO.known b (p8.1 af)).2)⟩
   exact⟨⟨(a,c),rfl,(aw.own.new t).Gm⟩,hl.zero⟩
theorem ZK {α:Type} (M:Mem) (e:aK) (k:Nat) (enc:α->List J):cZ M [] M [hr e k enc (.slice none 0 0) []]:=
 ⟨cH.one (sk (dw.nil 0 M e k enc none)),λ_ _ h _=>h,λb af=>by
   have:some b=eP (.slice none 0 0):=p8.1 af
   cases this⟩
theorem Rj {α:Type} (M:Mem) (e:aK) (k:Nat) (enc:α->List J):cZ M [] M [nK e k enc (.slice none 0 0) []]:=
 ⟨cH.one (WG (dw.nil 0 M e k enc none).queue),λ_ _ h _=>h,λb af=>by
   have:some b=eP (.slice none 0 0):=p8.1 af
   cases this⟩
end AE
section
noncomputable section
namespace AE
theorem ZL {x:bR} (h:0<=x.1/\x.1<=15/\0<=x.2.1/\x.2.1<=15/\0<=x.2.2.1/\x.2.2.1<=15/\0<=x.2.2.2/\x.2.2.2<=15):B8 x:=λc ar=>by
 obtain⟨aL,ad,ag,ay,bG,cJ,cU,fR⟩:=h
 match c,ar with
 |0,_=>exact⟨aL,ad⟩
 |1,_=>exact⟨ag,ay⟩
 |2,_=>exact⟨bG,cJ⟩
 |3,_=>exact⟨cU,fR⟩
theorem ZM {N eR:bR} {i:Nat} (h:i<4):cn (lv i N eR) i=cn eR i:=by
 unfold lv;rw[iU h,a_ aj]
theorem ZN {N eR:bR} {i:Nat}:tH (lv i N eR) i (max (cn N i) (cn eR i))=lv (i+1) N eR:=bR.ext' λc ar=>by
 unfold tH lv;rw[iU ar,iU ar,iU ar];by_cases ai:c=i
 ·subst ai;rw[aY rfl,aY aj]
 ·rw[a_ ai]
  by_cases hl:c<i
  ·rw[aY hl,aY aj]
  ·rw[a_ hl,a_ aj]
theorem ZO {N eR:bR} {i:Nat} (h:i<4):wo (i+1) N eR=(wo i N eR||decide (cn eR i<cn N i)):=by
 match i,h with
 |0,_=>simp [wo,cn]
 |1,_=>simp [wo,cn]
 |2,_=>simp [wo,cn]
 |3,_=>simp [wo,cn]
theorem ZP:∀(l:List Nat) (s:List Nat×List Bool),(nv l s).1.length<=s.1.length+l.length/\(nv l s).2.length=s.2.length
 |[],_=>⟨ch _,rfl⟩
 |k::l,s=>by
  obtain⟨q1,aH⟩:=ZP l (mN s.1 s.2 k,nN s.2 k);have cS:=Xx s.1 s.2 k;have dy:=Kw s.2 k;have e:nv (k::l) s=nv l (mN s.1 s.2 k,nN s.2 k):=rfl;rw[e,List.length_cons];dsimp only at q1 aH;exact⟨aj,aH.trans dy⟩
theorem akk {B:Nat} {dG:Mem} {az:List cb} {M:Mem} {L L':List (bd fh)} (d:Nat) {K:ju fh} {r:bd fh} (fq:pK L d r (.arr K (.slice none 0 0) []) L') (h:bK B dG az M (cP L)):bK B dG az M (cP L'):=by
 obtain⟨ai,rfl⟩:=fq.get;rw[wb];have t:=ZK M K.e K.k K.enc;refine h.lZ d (l3 ai) ⟨t.sp,λi o ai _=>ai,λb af=> ?_⟩;rcases t.fresh b af with ad|ad
 ·exact absurd ad (DI b)
 ·exact .inr ad
namespace Rk
def t:bX:=
.o (.dN 0) 1 1 []<|
.o (.cq 76 1 0) 2 1 [0,74,1]<|
.o (.bB 74 2) 3 1 [1]<|
.o (.len #[74] 3 3) 4 1 [0,87]<|
.o (.bin .eql 3 4 (I 0)) 5 1 []<|
.ret 5
theorem hQ:kr Tryd.prog 37 {} [0] 1=some t:=mO au
theorem any {W:ax} {g:Nat} {A:dJ} {e:cx} (aI:cH (aE W) (cP (c6 g A e))):mq fh 37 [.pointer (some ⟨g,20,none⟩)] W (c6 g A e) Unit (λ_=> .bool (decide (((e.u.bJ.length:Nat):Int)=0))) λ_=>c6 g A e:=by
 refine pM (ro:=[]) mixed hQ [.pointer (some ⟨g,20,none⟩)] aI hv.none ?_;unfold t;refine cL ?_;exact ql ⟨(),rfl,rfl⟩
end Rk
namespace ZQ
def t:bX:=
.o (.dN 0) 1 1 []<|
.o (.cq 78 1 0) 2 1 [0,26,1]<|
.o (.bB 26 2) 3 1 [1]<|
.o (.len #[26] 3 3) 4 1 [0,3]<|
.o (.bin .eql 3 4 (I 0)) 5 1 []<|
.ret 5
theorem hQ:kr Tryd.prog 38 {} [0] 1=some t:=mO au
theorem any {W:ax} {g:Nat} {A:dJ} {e:cx} (aI:cH (aE W) (cP (c6 g A e))):mq fh 38 [.pointer (some ⟨g,22,none⟩)] W (c6 g A e) Unit (λ_=> .bool (decide (((e.u.bz.length:Nat):Int)=0))) λ_=>c6 g A e:=by
 refine pM (ro:=[]) mixed hQ [.pointer (some ⟨g,22,none⟩)] aI hv.none ?_;unfold t;refine cL ?_;exact ql ⟨(),rfl,rfl⟩
end ZQ
namespace ZR
def t:bX:=
.o (.dN 0) 1 1 []<|
.o (.cq 73 1 0) 2 1 [0,71,1]<|
.o (.bB 71 2) 3 1 [1]<|
.o (.len #[71] 3 3) 4 1 [0,89]<|
.o (.bin .eql 3 4 (I 0)) 5 1 []<|
.ret 5
theorem hQ:kr Tryd.prog 39 {} [0] 1=some t:=mO au
theorem any {W:ax} {g:Nat} {A:dJ} {e:cx} (aI:cH (aE W) (cP (c6 g A e))):mq fh 39 [.pointer (some ⟨g,19,none⟩)] W (c6 g A e) Unit (λ_=> .bool (decide (((e.u.reqs.length:Nat):Int)=0))) λ_=>c6 g A e:=by
 refine pM (ro:=[]) mixed hQ [.pointer (some ⟨g,19,none⟩)] aI hv.none ?_;unfold t;refine cL ?_;exact ql ⟨(),rfl,rfl⟩
end ZR
end AE
end
end
section
noncomputable section
namespace AE
@[reducible] def xy (e:cx):cx:={e with u:=(gS e.table e.b e.u).2}
namespace ZS
def t:bX:=
.tu 34 0<|
.o (.bB 34 1) 2 1 [1]<|
.o (.dN 2) 3 1 []<|
.o (.cq 80 3 8) 4 1 [20,76,1]<|
.call 37 [4] 5 1<|
.o (.un .not 5) 6 1 []<|
.e_ 6 (
 .o (.bB 34 1) 7 1 [1]<|
 .o (.dN 7) 8 1 []<|
 .o (.cq 80 8 8) 9 1 [20,76,1]<|
 .call 58 [9] (.agg ⟨[10,11,12,13,14]⟩) 5<|
 .qR 87<|
 .st 87 15 (.agg ⟨[10,11,12,13,14]⟩)<|
 .o (.bB 34 1) 16 1 [1]<|
 .o (.cq 87 15 0) 17 1 [0,3,1]<|
 .o (.bB 3 17) 18 1 [1]<|
 .call 59 [16,18,.func (.func 60) ⟨[]⟩ ⟨[1,15]⟩] (.tuple ⟨[]⟩) 0<|
 .o (.bB 34 1) 19 1 [1]<|
 .o (.dN 19) 20 1 []<|
 .o (.cq 80 20 8) 21 1 [20,76,1]<|
 .call 37 [21] 22 1<|
 .e_ 22 (
  .o (.bB 34 1) 23 1 [1]<|
  .o (.dN 23) 24 1 []<|
  .o (.cq 80 24 9) 25 1 [21,26,1]<|
  .o (.bB 26 25) 26 1 [1]<|
  .o (.len #[26] 3 26) 27 1 [0,3]<|
  .loop [I 0] 1<|
  .o (.bin .lss 3 28 27) 29 1 []<|
  .e_ 29 (
   .o (.dB 26 26 28) 30 1 [0,3,1]<|
   .o (.bB 3 30) 31 1 [1]<|
   .o (.bB 34 1) 32 1 [1]<|
   .call 35 [32,31] (.tuple ⟨[]⟩) 0<|
   .o (.bin .add 3 28 (I 1)) 33 1 []<|
   .back [33]) (
   .fH<|
   .o (.bB 34 1) 30 1 [1]<|
   .o (.dN 30) 31 1 []<|
   .o (.cq 80 31 9) 32 1 [21,26,1]<|
   .st 26 32 (.slice none 0 0)<|
   .ret (.bool true))) (
  .ret (.bool true))) (
 .o (.bB 34 1) 7 1 [1]<|
 .o (.dN 7) 8 1 []<|
 .o (.cq 80 8 10) 9 1 [22,78,1]<|
 .call 38 [9] 10 1<|
 .o (.un .not 10) 11 1 []<|
 .e_ 11 (
  .o (.bB 34 1) 12 1 [1]<|
  .o (.dN 12) 13 1 []<|
  .o (.cq 80 13 10) 14 1 [22,78,1]<|
  .call 64 [14] 15 1<|
  .o (.bB 34 1) 16 1 [1]<|
  .o (.dN 16) 17 1 []<|
  .o (.cq 80 17 11) 18 1 [23,30,1]<|
  .o (.bB 30 18) 19 1 [1]<|
  .o (.dB 30 19 15) 20 1 [0,4,1]<|
  .st 4 20 (.bool false)<|
  .o (.bB 34 1) 21 1 [1]<|
  .call 65 [21,15] (.agg ⟨[22,23,24,25]⟩) 4<|
  .qR 85<|
  .st 85 26 (.agg ⟨[22,23,24,25]⟩)<|
  .loop [I 0,.bool false] 2<|
  .o (.bin .lss 3 27 (I 4)) 29 1 []<|
  .e_ 29 (
   .e_ 28 (
    .o (.bB 34 1) 30 1 [1]<|
    .o (.dN 30) 31 1 []<|
    .o (.cq 80 31 5) 32 1 [17,45,1]<|
    .o (.bB 45 32) 33 1 [1]<|
    .o (.dB 85 26 27) 34 1 [1,4,3,1]<|
    .o (.bB 3 34) 35 1 [1]<|
    .o (.dB 45 33 15) 36 1 [0,85,4]<|
    .o (.dB 85 36 27) 37 1 [1,4,3,1]<|
    .o (.bB 3 37) 38 1 [1]<|
    .o (.e5 #[3,3] 3 35 38) 39 1 []<|
    .st 3 37 39<|
    .o (.bin .add 3 27 (I 1)) 40 1 []<|
    .back [40,.bool true]) (
    .o (.dB 85 26 27) 30 1 [1,4,3,1]<|
    .o (.bB 3 30) 31 1 [1]<|
    .o (.bB 34 1) 32 1 [1]<|
    .o (.dN 32) 33 1 []<|
    .o (.cq 80 33 5) 34 1 [17,45,1]<|
    .o (.bB 45 34) 35 1 [1]<|
    .o (.dB 45 35 15) 36 1 [0,85,4]<|
    .o (.dB 85 36 27) 37 1 [1,4,3,1]<|
    .o (.bB 3 37) 38 1 [1]<|
    .o (.bin .gtr 3 31 38) 39 1 []<|
    .o (.e5 #[3,3] 3 31 38) 40 1 []<|
    .st 3 37 40<|
    .o (.bin .add 3 27 (I 1)) 41 1 []<|
    .back [41,39])) (
   .fH<|
   .e_ 28 (
    .o (.bB 34 1) 30 1 [1]<|
    .call 59 [30,15,.func (.func 66) ⟨[]⟩ ⟨[1]⟩] (.tuple ⟨[]⟩) 0<|
    .ret (.bool true)) (
    .ret (.bool true)))) (
  .o (.bB 34 1) 12 1 [1]<|
  .o (.dN 12) 13 1 []<|
  .o (.cq 80 13 7) 14 1 [19,73,1]<|
  .call 39 [14] 15 1<|
  .o (.un .not 15) 16 1 []<|
  .e_ 16 (
   .o (.bB 34 1) 17 1 [1]<|
   .o (.dN 17) 18 1 []<|
   .o (.cq 80 18 7) 19 1 [19,73,1]<|
   .call 67 [19] (.agg ⟨[20,21,22]⟩) 3<|
   .o (.bB 34 1) 23 1 [1]<|
   .o (.dN 23) 24 1 []<|
   .o (.cq 80 24 5) 25 1 [17,45,1]<|
   .o (.bB 45 25) 26 1 [1]<|
   .o (.dB 45 26 20) 27 1 [0,85,4]<|
   .o (.bB 85 27) (.agg ⟨l4 4 28⟩) 4 [4]<|
   .call 63 [23,20,.agg ⟨[28,29,30,31]⟩] (.tuple ⟨[]⟩) 0<|
   .o (.bB 34 1) 32 1 [1]<|
   .o (.dN 32) 33 1 []<|
   .o (.cq 80 33 1) 34 1 [7,28,7]<|
   .o (.cq 28 34 1) 35 1 [6,26,1]<|
   .o (.bB 26 35) 36 1 [1]<|
   .o (.cq 80 33 3) 37 1 [15,30,1]<|
   .o (.bB 30 37) 38 1 [1]<|
   .o (.dB 26 36 20) 39 1 [0,3,1]<|
   .o (.dB 30 38 20) 40 1 [0,4,1]<|
   .st 3 39 21<|
   .o (.dB 30 38 20) 41 1 [0,4,1]<|
   .st 4 41 22<|
   .ret (.bool true)) (
   .ret (.bool false))))
theorem hQ:kr Tryd.prog 36 {rD:=[58,64,67,37,38,39,59,65,35,63],marks:=[34,85,87]} [0] 1=some t:=mO au
theorem any {W:ax} {g:Nat} {A:dJ} {e:cx} (aI:cH (aE W) (cP (c6 g A e))) (G:gu e.table e.b e.u):
  mq fh 36 [dx g] W (c6 g A e) dJ (λ_=> .bool (gS e.table e.b e.u).1) λa'=>c6 g a' (xy e):=by
 have af:=G.box;have hl:=G.len;have lh:=G.Q5;have BI:=G.Hc;have hw:=G.ajZ;have ad:=G.hA;have ag:=G.c2;have ay:=G.c3;have hL:∀n,n<e.u.b_.length->B8 (e.u.aG.getD n default):=λn av=>ZL (G.li n av)
 refine pM (ro:=[]) mixed hQ [dx g] aI hv.none ?_;unfold t;refine QH (cs:=[dx g]) U U (λb=>wg) λfZ=> ?_
 refine cL ?_;refine tB (er:=c6 g A e) (λ_=>[.bool (decide (((e.u.bJ.length:Nat):Int)=0))]) (λw _ aI=>Rk.any aI) λ_=> ?_
 refine cL ?_;refine D' rfl (λav=> ?_) λav=> ?_
 ·have sB:0<e.u.bJ.length:=by omega
  have ZT:=G.e7 _ (by rw[dq,gi sB];exact List.getElem_mem sB:e.u.bJ.getD 0 default∈e.u.bJ);refine cL ?_;refine tB (er:=c6 g A e) (λ_=>kU (e.u.bJ.getD 0 default)) (λw _ aI=>Zv.any aI sB) λy=> ?_
  generalize aq:e.u.bJ.getD 0 default=x at ZT ⊢;obtain⟨su,iH⟩:=ZT;refine Ea (z:= .agg ⟨kU (0,z4)⟩) (kU (0,z4)) au rfl (λb=>wg) λoM=> ?_
  refine G1 (m:=5) (us:=kU x) (cs':=kU x) U U lM rfl ?_;refine cL ?_;generalize aw:mr e.table e.u.lit x.2 (eu e.b e.u.b_ x.1 6) (e.u.bJ.drop 1,e.u.gone,e.u.aG)=s;have MC:(e.u.bJ.drop 1).length<=e.u.bJ.length:=by rw[List.length_drop];omega
  have gK:=Rf e.table e.u.lit x.2 (eu e.b e.u.b_ x.1 6) (e.u.bJ.drop 1,e.u.gone,e.u.aG);have Ll:=ajN (b:=e.b) (sh:=e.u.b_) (k:=x.1) (table:=e.table) (lit:=e.u.lit) (old:=x.2) (s:=(e.u.bJ.drop 1,e.u.gone,e.u.aG)) G.go;rw[aw] at gK Ll;have jm:=Rg e.b e.u.b_ x.1 6;have gG:(gS e.table e.b e.u)=(true,if s.1.length=0 then {e.u with bJ:=s.1,gone:=[],aG:=s.2.2,bz:=(nv s.2.1 (e.u.bz,e.u.waits)).1,waits:=(nv s.2.1 (e.u.bz,e.u.waits)).2} else {e.u with bJ:=s.1,gone:=s.2.1,aG:=s.2.2}):=by
   rw[G8 sB];unfold yR xw;rw[aq,aw]
  unfold xy;rw[gG];refine lN (er:=c6 g {A with o:=y} {e with u:={e.u with bJ:=e.u.bJ.drop 1}}++[bd.box fZ iV [dx g],bd.box oM tI (kU x)]) (L':=λ(z:dX×dX)=>c6 g {A with o:=z.1,g:=z.2} (B_ e s)++[bd.box fZ iV [dx g],bd.box oM tI (kU x)]) (N:=λ(z:dX×dX)=>c6 g {A with o:=z.1,g:=z.2} (B_ e s)++[bd.box fZ iV [dx g],bd.box oM tI (kU x)]) [0,1,2,3,4,5,6,7,8,9,10,11,12,13] (λ_=>[]) (λw _ aI=> ?_) (λz=> ?_) (hL:=λz=>K6 (n:=14) U U)
  ·have:=ZG.any (e:={e with u:={e.u with bJ:=e.u.bJ.drop 1}}) aI x.1 af su hl lh BI (by show (e.u.bJ.drop 1).length<=_;omega) (by show e.u.gone.length<=_;omega) (ZL iH) G.cq
   rw[aw] at this;exact this
  ·refine cL ?_
   refine tB (er:=c6 g {A with o:=z.1,g:=z.2} (B_ e s)) (λ_=>[.bool (decide (((s.1.length:Nat):Int)=0))]) (λw _ aI=>Rk.any aI) λ_=> ?_
   refine l6 rfl (λbW=> ?_) λbW=> ?_
   ·have bW:s.1.length=0:=by omega
    rw[aY bW];refine cL ?_;refine xp (Nat×dX) (λu=>[I (u.1:Nat)]) (λu=>c6 g {A with o:=z.1,g:=z.2,s:=u.2} (Lm (B_ e s) (nv (s.2.1.take u.1) (e.u.bz,e.u.waits)))++[bd.box fZ iV [dx g],bd.box oM tI (kU x)]) (λu=>u.1<=s.2.1.length) (λu=>s.2.1.length-u.1) (0,A.s) U U (Nat.zero_le _) (λu hu=> ?_);obtain⟨i,a⟩:=u;have hu:i<=s.2.1.length:=hu;dsimp only;obtain⟨cS,dy⟩:=ZP (s.2.1.take i) (e.u.bz,e.u.waits);have gj:(s.2.1.take i).length<=s.2.1.length:=by rw[List.length_take];omega
    have vf:s.2.1.length<=e.u.gone.length+6:=Ll.2;dsimp only at cS dy;refine cL ?_;refine l6 rfl (λai=> ?_) λai=> ?_
    ·have ai:i<s.2.1.length:=by omega
     have al:=Ll.1 i ai;refine cL ?_;refine tB (er:=c6 g {A with o:=z.1,g:=z.2,s:=a} (Lm (B_ e s) (nv (s.2.1.take i) (e.u.bz,e.u.waits)))) (λ_=>[]) (λw _ aI=>Q_.any aI (s.2.1.getD i default) (by show _<(nv (s.2.1.take i) (e.u.bz,e.u.waits)).2.length;rw[dy,hw];exact al) (by show (nv (s.2.1.take i) (e.u.bz,e.u.waits)).1.length<=_;omega)) λa6=> ?_
     refine cL ?_;refine pL (u:=(i,a)) (i+1,a6) rfl ?_ (by show i+1<=_;omega) (by show s.2.1.length-(i+1)<s.2.1.length-i;omega);obtain⟨t1,t2⟩:=ajK (s:=(e.u.bz,e.u.waits)) U U ai;unfold Ai;dsimp only;rw[t1,t2]
    ·refine cL ?_
     obtain rfl:i=s.2.1.length:=by omega
     rw[List.take_length];exact sC (λM bw=>by exact(akk (L':=c6 g {A with o:=z.1,g:=(none,0),s:=a} {e with u:={e.u with bJ:=s.1,gone:=[],aG:=s.2.2,bz:=(nv s.2.1 (e.u.bz,e.u.waits)).1,waits:=(nv s.2.1 (e.u.bz,e.u.waits)).2}}++[bd.box fZ iV [dx g],bd.box oM tI (kU x)]) 2 (K:=u0) lM bw).pick Q7 rfl) ⟨{A with o:=z.1,g:=(none,0),s:=a},rfl,rfl⟩
   ·rw[a_ aj]
    exact sC (λM bw=>by exact bw.pre) ⟨{A with o:=z.1,g:=z.2},rfl,rfl⟩
 ·have sB:¬0<e.u.bJ.length:=by omega
  refine cL ?_;refine tB (er:=c6 g A e) (λ_=>[.bool (decide (((e.u.bz.length:Nat):Int)=0))]) (λw _ aI=>ZQ.any aI) λ_=> ?_
  refine cL ?_;refine D' rfl (λkK=> ?_) λkK=> ?_
  ·have Ca:0<e.u.bz.length:=by omega
   have al:=G.nw _ (by rw[dq,gi Ca];exact List.getElem_mem Ca:e.u.bz.getD 0 default∈e.u.bz);refine cL ?_;refine tB (er:=c6 g A e) (λ_=>[I (e.u.bz.getD 0 default:Nat)]) (λw _ aI=>Zt.any aI Ca) λy=> ?_
   generalize akl:e.u.bz.getD 0 default=k at al ⊢;have MC:(e.u.bz.drop 1).length<=e.u.bz.length:=by rw[List.length_drop];omega
   have ape:k<e.u.waits.length:=by omega
   have ng:k<e.u.aG.length:=by omega
   refine cL ?_;refine BW (K:=jJ) (l:=e.u.waits) (j:=k) false U U lM rfl (λ_ _=>rfl) ?_;refine cL ?_;generalize kn:wm e.table e.u.lit e.u.aG e.u.b_ e.b k=N;generalize cO:e.u.aG.getD k default=eR;have gG:(gS e.table e.b e.u)=(true,if wo 4 N eR=true then {e.u with aG:=e.u.aG.set k (lv 4 N eR),bz:=(sF (eu e.b e.u.b_ k 6) (e.u.bz.drop 1,e.u.waits.set k false)).1,waits:=(sF (eu e.b e.u.b_ k 6) (e.u.bz.drop 1,e.u.waits.set k false)).2} else {e.u with aG:=e.u.aG.set k (lv 4 N eR),bz:=e.u.bz.drop 1,waits:=e.u.waits.set k false}):=by
    rw[G9 sB Ca];unfold yS G7;rw[akl,kn,cO]
   unfold xy;rw[gG];refine lN (v:=λ_=> .agg ⟨dY N⟩) (er:=c6 g {A with s:=y} {e with u:={e.u with bz:=e.u.bz.drop 1,waits:=e.u.waits.set k false}}) (L':=λ_=>c6 g {A with s:=y} {e with u:={e.u with bz:=e.u.bz.drop 1,waits:=e.u.waits.set k false}}++[bd.box fZ iV [dx g]]) Q7 (λ_=>dY N) (λw _ aI=>by rw[<-kn];exact ZJ.any aI k af al hl lh BI hL (G.cq k al)) λ_=> ?_
   refine Ea (z:= .agg ⟨dY z4⟩) (dY z4) au rfl (λb=>wg) λHb=> ?_
   refine G1 (m:=4) (us:=dY N) (cs':=dY N) U U lM rfl ?_;refine xp Nat (λi=>[I (i:Nat),.bool (wo i N eR)]) (λi=>c6 g {A with s:=y} {e with u:={e.u with bz:=e.u.bz.drop 1,waits:=e.u.waits.set k false,aG:=e.u.aG.set k (lv i N eR)}}++[bd.box fZ iV [dx g],bd.box Hb pc (dY N)]) (λi=>i<=4) (λi=>4-i) 0 rfl ?_ aj (λi ai=> ?_)
   ·rw[ajI,<-cO,Xy ng]
    rfl
   refine cL ?_;refine l6 rfl (λbG=> ?_) λbG=> ?_
   ·have l8:i<4:=by omega
    have oo:k<(e.u.aG.set k (lv i N eR)).length:=by rw[List.length_set];exact ng
    have DF:(e.u.aG.set k (lv i N eR)).getD k default=lv i N eR:=by rw[Gg ng,aY rfl]
    have bE:∀z,(e.u.aG.set k (lv i N eR))[k]? =some z->dY (tH (lv i N eR) i (max (cn N i) (cn eR i)))=(dY z).set (0+i*1) (I (max (cn N i) (cn eR i))):=λz bW=>by
     rw[List.getElem?_set,aY rfl,aY ng,cQ] at bW;subst bW;exact Lj l8 _
    refine D_ rfl (λhm=> ?_) λhm=> ?_
    ·refine cL ?_
     refine BV (u:=I (cn N i)) rfl has (Aj l8) ?_;refine cL ?_;refine K0 (K:=ly) (l:=e.u.aG.set k (lv i N eR)) (j:=k) (o:=0+i*1) (u:=I (cn eR i)) rfl (by rw[DF,<-ZM (N:=N) l8];exact Aj l8) ?_;refine cL ?_;refine BW (K:=ly) (l:=e.u.aG.set k (lv i N eR)) (j:=k) (o:=0+i*1) (tH (lv i N eR) i (max (cn N i) (cn eR i))) U U lM rfl bE ?_ (hj:=oo) (ho:=by show 0+i*1<4;omega);refine cL ?_;refine pL (i+1) ?_ ?_ aj aj
     ·rw[ZO l8,hm]
      rfl
     ·rw[List.set_set,ZN]
      rfl
    ·refine cL ?_
     refine BV (u:=I (cn N i)) rfl has (Aj l8) ?_;refine cL ?_;refine K0 (K:=ly) (l:=e.u.aG.set k (lv i N eR)) (j:=k) (o:=0+i*1) (u:=I (cn eR i)) rfl (by rw[DF,<-ZM (N:=N) l8];exact Aj l8) ?_;refine cL ?_;refine BW (K:=ly) (l:=e.u.aG.set k (lv i N eR)) (j:=k) (o:=0+i*1) (tH (lv i N eR) i (max (cn N i) (cn eR i))) U U lM rfl bE ?_ (hj:=oo) (ho:=by show 0+i*1<4;omega);refine cL ?_;refine pL (i+1) ?_ ?_ aj aj
     ·rw[ZO l8,hm]
      rfl
     ·rw[List.set_set,ZN]
      rfl
   ·refine cL ?_
    obtain rfl:i=4:=by omega
    refine D_ rfl (λhm=> ?_) λhm=> ?_
    ·rw[aY hm]
     refine cL ?_;refine lN (er:=c6 g {A with s:=y} {e with u:={e.u with bz:=e.u.bz.drop 1,waits:=e.u.waits.set k false,aG:=e.u.aG.set k (lv 4 N eR)}}++[bd.box fZ iV [dx g]]) (L':=λz=>c6 g {A with s:=z} {e with u:={e.u with aG:=e.u.aG.set k (lv 4 N eR),bz:=(sF (eu e.b e.u.b_ k 6) (e.u.bz.drop 1,e.u.waits.set k false)).1,waits:=(sF (eu e.b e.u.b_ k 6) (e.u.bz.drop 1,e.u.waits.set k false)).2}}++[bd.box fZ iV [dx g],bd.box Hb pc (dY N)]) [0,1,2,3,4,5,6,7,8,9,10,11,12] (λ_=>[]) (λw _ aI=>ZH.any (e:={e with u:={e.u with bz:=e.u.bz.drop 1,waits:=e.u.waits.set k false,aG:=e.u.aG.set k (lv 4 N eR)}}) aI k af al hl (by show (e.u.waits.set k false).length=_;rw[List.length_set];exact hw) (by show (e.u.bz.drop 1).length<=_;omega)) λz=> ?_
     exact sC (λM bw=>by exact bw.pre) ⟨{A with s:=z},rfl,rfl⟩
    ·rw[a_ (by rw[hm];decide)]
     exact sC (λM bw=>by exact bw.pre) ⟨{A with s:=y},rfl,rfl⟩
  ·have Ca:¬0<e.u.bz.length:=by omega
   refine cL ?_;refine tB (er:=c6 g A e) (λ_=>[.bool (decide (((e.u.reqs.length:Nat):Int)=0))]) (λw _ aI=>ZR.any aI) λ_=> ?_
   refine cL ?_;refine D' rfl (λRl=> ?_) λRl=> ?_
   ·have Ei:0<e.u.reqs.length:=by omega
    have al:=G.reqs _ (by rw[dq,gi Ei];exact List.getElem_mem Ei:e.u.reqs.getD 0 default∈e.u.reqs);unfold xy;rw[G' sB Ca Ei];unfold Lb;refine cL ?_;refine tB (er:=c6 g A e) (λ_=>ni (e.u.reqs.getD 0 default)) (λw _ aI=>Zw.any aI Ei) λy=> ?_
    generalize aq:e.u.reqs.getD 0 default=x at al ⊢;have ng:x.1<e.u.aG.length:=by omega
    have r_:x.1<e.u.lit.length:=by omega
    refine cL ?_;refine K1 (K:=ly) (l:=e.u.aG) (j:=x.1) (c:=dY (e.u.aG.getD x.1 default)) U U U oc ?_;refine tB (er:=c6 g {A with q:=y} {e with u:={e.u with reqs:=e.u.reqs.drop 1}}) (λ_=>[]) (λw _ aI=>Ra.any aI x.1 (e.u.aG.getD x.1 default) ng (by show e.u.bJ.length<=_;omega) (by show e.u.gone.length<=_;omega)) λz=> ?_
    refine cL ?_;refine BW (K:=jv) (l:=e.u.lit) (j:=x.1) x.2.1 U U lM rfl (λ_ _=>rfl) ?_;refine cL ?_;refine BW (K:=jJ) (l:=e.u.b_) (j:=x.1) x.2.2 U U lM rfl (λ_ _=>rfl) ?_;exact sC (λM bw=>by exact bw.pre) ⟨{A with q:=y,o:=z.1,g:=z.2},rfl,rfl⟩
   ·have Ei:¬0<e.u.reqs.length:=by omega
    unfold xy;rw[G_ sB Ca Ei];exact sC (λM bw=>by exact bw.pre) ⟨A,rfl,rfl⟩
end ZS
end AE
end
end
namespace AE
namespace ZU
noncomputable def body:Code:=(Tryd.f78.body).getD .skip
def N:Nat:=14
noncomputable abbrev bC:=fm Tryd.prog Tryd.f78
def aO:b8:={sl:=b3 [(1,.agg ⟨[I 0,I 0,I 0,I 0,I 0,I 0]⟩),(0,.agg ⟨[0,1,2,3,4,5]⟩)],ms:=[],A:=start}
def bP:bj:=[(.e5 #[3,3] 3 0 (I 0),6),
 (.e5 #[3,3] 3 1 (I 0),7),
 (.e5 #[3,3] 3 2 (I 0),8),
 (.lS #[3,3] 3 3 (I 0),9),
 (.lS #[3,3] 3 4 (I 0),10),
 (.lS #[3,3] 3 5 (I 0),11),
 (.bin .geq 3 6 6,.bool true),
 (.bin .lss 3 6 9,.bool true),
 (.bin .geq 3 7 7,.bool true),
 (.bin .lss 3 7 10,.bool true),
 (.bin .geq 3 8 8,.bool true),
 (.bin .lss 3 8 11,.bool true)]
theorem e0:bC (at' 14 bP [] body aO)=some (.agg ⟨[6,7,8,9,10,11]⟩):=au
def cd:bj:=[(.e5 #[3,3] 3 0 (I 0),6),
 (.e5 #[3,3] 3 1 (I 0),7),
 (.e5 #[3,3] 3 2 (I 0),8),
 (.lS #[3,3] 3 3 (I 0),9),
 (.lS #[3,3] 3 4 (I 0),10),
 (.lS #[3,3] 3 5 (I 0),11),
 (.bin .geq 3 6 6,.bool true),
 (.bin .lss 3 6 9,.bool true),
 (.bin .geq 3 7 7,.bool true),
 (.bin .lss 3 7 10,.bool true),
 (.bin .geq 3 8 8,.bool true),
 (.bin .lss 3 8 11,.bool false)]
theorem e1:bC (at' 14 cd [] body aO)=some (.agg ⟨[I 0,I 0,I 0,I 0,I 0,I 0]⟩):=au
def dk:bj:=[(.e5 #[3,3] 3 0 (I 0),6),
 (.e5 #[3,3] 3 1 (I 0),7),
 (.e5 #[3,3] 3 2 (I 0),8),
 (.lS #[3,3] 3 3 (I 0),9),
 (.lS #[3,3] 3 4 (I 0),10),
 (.lS #[3,3] 3 5 (I 0),11),
 (.bin .geq 3 6 6,.bool true),
 (.bin .lss 3 6 9,.bool true),
 (.bin .geq 3 7 7,.bool true),
 (.bin .lss 3 7 10,.bool false)]
theorem e2:bC (at' 14 dk [] body aO)=some (.agg ⟨[I 0,I 0,I 0,I 0,I 0,I 0]⟩):=au
def ei:bj:=[(.e5 #[3,3] 3 0 (I 0),6),
 (.e5 #[3,3] 3 1 (I 0),7),
 (.e5 #[3,3] 3 2 (I 0),8),
 (.lS #[3,3] 3 3 (I 0),9),
 (.lS #[3,3] 3 4 (I 0),10),
 (.lS #[3,3] 3 5 (I 0),11),
 (.bin .geq 3 6 6,.bool true),
 (.bin .lss 3 6 9,.bool false)]
theorem e3:bC (at' 14 ei [] body aO)=some (.agg ⟨[I 0,I 0,I 0,I 0,I 0,I 0]⟩):=au
@[reducible] noncomputable def bD (b:bQ):List J:=[I b.1,I b.2.1,I b.2.2.1,I b.2.2.2.1,I b.2.2.2.2.1,I b.2.2.2.2.2,I (max b.1 0),I (max b.2.1 0),I (max b.2.2.1 0),I (min b.2.2.2.1 0),I (min b.2.2.2.2.1 0),I (min b.2.2.2.2.2 0)]
theorem any (W:ax) (b:bQ):Calls Tryd.prog 78 #[X.val b,.agg ⟨[I 0,I 0,I 0,I 0,I 0,I 0]⟩] W λe w'=>e= .returned (.agg ⟨[I 0,I 0,I 0,I 0,I 0,I 0]⟩)/\cj W.heap.size W w':=by
 refine jI (bD b) body aO N [.agg ⟨[ak 0,ak 1,ak 2,ak 3,ak 4,ak 5]⟩,.agg ⟨[I 0,I 0,I 0,I 0,I 0,I 0]⟩] Tryd.func78 λa ah=> ?_
 letI:=b6 ah;by_cases aL:(max b.1 0)<(min b.2.2.2.1 0)
 ·by_cases ad:(max b.2.1 0)<(min b.2.2.2.2.1 0)
  ·by_cases ag:(max b.2.2.1 0)<(min b.2.2.2.2.2 0)
   ·refine bA bP [] (ae (aV.p2 U U U U U U) (ae (aV.p2 U U U U U U) (ae (aV.p2 U U U U U U) (ae (aV.tf U U U U U U) (ae (aV.tf U U U U U U) (ae (aV.tf U U U U U U) (ae bb (ae bb (ae bb (ae bb (ae bb (ae bb aP)))))))))))) aQ ?_ ah
    exact bU e0 λw2 bp=>(by (exfalso;omega))
   ·refine bA cd [] (ae (aV.p2 U U U U U U) (ae (aV.p2 U U U U U U) (ae (aV.p2 U U U U U U) (ae (aV.tf U U U U U U) (ae (aV.tf U U U U U U) (ae (aV.tf U U U U U U) (ae bb (ae bb (ae bb (ae bb (ae bb (ae aU aP)))))))))))) aQ ?_ ah
    exact bU e1 λw2 bp=>(by rfl)
  ·refine bA dk [] (ae (aV.p2 U U U U U U) (ae (aV.p2 U U U U U U) (ae (aV.p2 U U U U U U) (ae (aV.tf U U U U U U) (ae (aV.tf U U U U U U) (ae (aV.tf U U U U U U) (ae bb (ae bb (ae bb (ae aU aP)))))))))) aQ ?_ ah
   exact bU e2 λw2 bp=>(by rfl)
 ·refine bA ei [] (ae (aV.p2 U U U U U U) (ae (aV.p2 U U U U U U) (ae (aV.p2 U U U U U U) (ae (aV.tf U U U U U U) (ae (aV.tf U U U U U U) (ae (aV.tf U U U U U U) (ae bb (ae aU aP)))))))) aQ ?_ ah
  exact bU e3 λw2 bp=>(by rfl)
end ZU
end AE
namespace AE
def Rm:J:= .agg ⟨[.int .i64 0,.int .i64 0,.int .i64 0,.int .i64 0,.int .i64 0,.int .i64 0]⟩
variable [a7]
theorem ZV {x y r:J} {b:bQ} (hp:dM [x,y]=true) (ao:aM r=true) (br:ep [x,y]=[X.val b,Rm]) (ca:aJ r=Rm):jb Tryd.prog (78,[x,y],r):=
 kR (a:= #[X.val b,Rm]) hp ao br ca λw _=>ZU.any w b
end AE
namespace AE
namespace ZW
noncomputable def body:Code:=(Tryd.f40.body).getD .skip
def N:Nat:=8
def aO:b8:={sl:=b3 [(0,0)],ms:=[],A:=start}
def bP:bj:=[(.bin .eql 45 0 (.slice none 0 0),.bool true)]
theorem e0:fm Tryd.prog Tryd.f40 (at' 8 bP [] body aO)=some (.slice none 0 0):=au
def cd:bj:=[(.bin .eql 45 0 (.slice none 0 0),.bool false)]
theorem e1:p4 45 (at' 8 cd [] body aO)=some (.slice (some ⟨0,0,none⟩) 0 0,0):=au
abbrev gA:=at' 8 cd [] body aO
def dF:List bx:=[]
def hd0:aF:=b3 [(2,.slice none 0 0)]
def hp0:aF:=fa 8 hd0 7 1
theorem e2:cr (b9 gA) hd0 dF=some []:=au
def dV:dU:=(body,[1,1,0],3)
theorem jO:fm Tryd.prog Tryd.f40 (cK 8 [] [] dV (b5 hp0 dF))=some 1:=au
@[reducible] noncomputable def bD (l:List bR) (dR:cm) (eg:Nat) (cu:List bR:=[]) (a0:cm:=none) (dE:Nat:=0):List J:=[bu dR l eg,bu a0 cu dE]
theorem any (W:ax) {h_:J} {l:List bR} (hl:cE (aE W) 4 dY h_ l) (av:l.length<=100000):Calls Tryd.prog 40 #[h_] W λe w'=>(∃a c,e= .returned (bu a l c)/\dw W.heap.size (aE w') qe 4 dY (bu a l c) l)/\cj W.heap.size W w':=by
 obtain⟨dR,eg,rfl⟩:=hl.slice;refine jI (bD l dR eg) body aO N [ak 0] Tryd.func40 λa ah=> ?_
 letI:=b6 ah;by_cases aL:dR=none
 ·refine bA bP [] (ae (aV.JC rfl n' rfl aL) aP) aQ ?_ ah
  exact bU e0 λw2 bp=>(by (subst aL;exact JB hl.isNil))
 ·refine bA cd [] (ae (aV.JD rfl n' rfl aL) aP) aQ ?_ ah
  obtain⟨cu,e4⟩:=h3 ([]++l);have fc:cu.length=0+l.length:=by rw[e4];simp
  refine Bf (l:=[]) (lx:=l) (l':=cu) (bm:=λph pj=>(bD l dR eg cu ph pj)) (T:=none) e4 e1 n' Xp Xq Xr Xs ahj cw yC ahk e2 (et hp0 1) rfl (JA au) (zG U U λw hw=>hl.reads yC hw) (yo (show 0+l.length<=1000000 by omega)) (show (0+l.length)*Ks<=140737488355328 by unfold Ks;omega) (λ_ _ _=>zE) (λ_ _ _=>rfl) ?_;intro j2 a0 dE lP jw rI dA w ah;have u1:=jw.up rI (ch _) (λ_ _ h=>h);letI:=b6 ah;refine dP (dQ dV) [] [] aP aQ ?_ ah;exact bU jO λw2 bp=>(by (exact Bh lP (by rw[e4];rfl) bp))
end ZW
namespace Hi
noncomputable def body:Code:=(Tryd.f33.body).getD .skip
def N:Nat:=8
def aO:b8:={sl:=b3 [(0,0)],ms:=[],A:=start}
def bP:bj:=[(.bin .eql 30 0 (.slice none 0 0),.bool true)]
theorem e0:fm Tryd.prog Tryd.f33 (at' 8 bP [] body aO)=some (.slice none 0 0):=au
def cd:bj:=[(.bin .eql 30 0 (.slice none 0 0),.bool false)]
theorem e1:p4 30 (at' 8 cd [] body aO)=some (.slice (some ⟨0,0,none⟩) 0 0,0):=au
abbrev gA:=at' 8 cd [] body aO
def dF:List bx:=[]
def hd0:aF:=b3 [(2,.slice none 0 0)]
def hp0:aF:=fa 8 hd0 7 1
theorem e2:cr (b9 gA) hd0 dF=some []:=au
def dV:dU:=(body,[1,1,0],3)
theorem jO:fm Tryd.prog Tryd.f33 (cK 8 [] [] dV (b5 hp0 dF))=some 1:=au
@[reducible] noncomputable def bD (l:List Bool) (dR:cm) (eg:Nat) (cu:List Bool:=[]) (a0:cm:=none) (dE:Nat:=0):List J:=[bu dR l eg,bu a0 cu dE]
theorem any (W:ax) {h_:J} {l:List Bool} (hl:cE (aE W) 1 il h_ l) (av:l.length<=100000):Calls Tryd.prog 33 #[h_] W λe w'=>(∃a c,e= .returned (bu a l c)/\dw W.heap.size (aE w') n9 1 il (bu a l c) l)/\cj W.heap.size W w':=by
 obtain⟨dR,eg,rfl⟩:=hl.slice;refine jI (bD l dR eg) body aO N [ak 0] Tryd.func33 λa ah=> ?_
 letI:=b6 ah;by_cases aL:dR=none
 ·refine bA bP [] (ae (aV.JC rfl mn rfl aL) aP) aQ ?_ ah
  exact bU e0 λw2 bp=>(by (subst aL;exact JB hl.isNil))
 ·refine bA cd [] (ae (aV.JD rfl mn rfl aL) aP) aQ ?_ ah
  obtain⟨cu,e4⟩:=h3 ([]++l);have fc:cu.length=0+l.length:=by rw[e4];simp
  refine Bf (l:=[]) (lx:=l) (l':=cu) (bm:=λph pj=>(bD l dR eg cu ph pj)) (T:=none) e4 e1 mn Pl Pm Pn Po ahc cw kq Pp e2 (et hp0 1) rfl (JA au) (zG U U λw hw=>hl.reads kq hw) (yo (show 0+l.length<=1000000 by omega)) (show (0+l.length)*Gl<=140737488355328 by unfold Gl;omega) (λ_ _ _=>zE) (λ_ _ _=>rfl) ?_;intro j2 a0 dE lP jw rI dA w ah;have u1:=jw.up rI (ch _) (λ_ _ h=>h);letI:=b6 ah;refine dP (dQ dV) [] [] aP aQ ?_ ah;exact bU jO λw2 bp=>(by (exact Bh lP (by rw[e4];rfl) bp))
end Hi
namespace Rn
noncomputable def body:Code:=(Tryd.f77.body).getD .skip
def N:Nat:=8
def aO:b8:={sl:=b3 [(0,0)],ms:=[],A:=start}
def bP:bj:=[(.bin .eql 26 0 (.slice none 0 0),.bool true)]
theorem e0:fm Tryd.prog Tryd.f77 (at' 8 bP [] body aO)=some (.slice none 0 0):=au
def cd:bj:=[(.bin .eql 26 0 (.slice none 0 0),.bool false)]
theorem e1:p4 26 (at' 8 cd [] body aO)=some (.slice (some ⟨0,0,none⟩) 0 0,0):=au
abbrev gA:=at' 8 cd [] body aO
def dF:List bx:=[]
def hd0:aF:=b3 [(2,.slice none 0 0)]
def hp0:aF:=fa 8 hd0 7 1
theorem e2:cr (b9 gA) hd0 dF=some []:=au
def dV:dU:=(body,[1,1,0],3)
theorem jO:fm Tryd.prog Tryd.f77 (cK 8 [] [] dV (b5 hp0 dF))=some 1:=au
@[reducible] noncomputable def bD (l:List Int) (dR:cm) (eg:Nat) (cu:List Int:=[]) (a0:cm:=none) (dE:Nat:=0):List J:=[bu dR l eg,bu a0 cu dE]
theorem any (W:ax) {h_:J} {l:List Int} (hl:cE (aE W) 1 fQ h_ l) (av:l.length<=100000):Calls Tryd.prog 77 #[h_] W λe w'=>(∃a c,e= .returned (bu a l c)/\dw W.heap.size (aE w') kQ 1 fQ (bu a l c) l)/\cj W.heap.size W w':=by
 obtain⟨dR,eg,rfl⟩:=hl.slice;refine jI (bD l dR eg) body aO N [ak 0] Tryd.func77 λa ah=> ?_
 letI:=b6 ah;by_cases aL:dR=none
 ·refine bA bP [] (ae (aV.JC rfl iz rfl aL) aP) aQ ?_ ah
  exact bU e0 λw2 bp=>(by (subst aL;exact JB hl.isNil))
 ·refine bA cd [] (ae (aV.JD rfl iz rfl aL) aP) aQ ?_ ah
  obtain⟨cu,e4⟩:=h3 ([]++l);have fc:cu.length=0+l.length:=by rw[e4];simp
  refine Bf (l:=[]) (lx:=l) (l':=cu) (bm:=λph pj=>(bD l dR eg cu ph pj)) (T:=none) e4 e1 iz JL JM JN JO JP cw ko JQ e2 (et hp0 1) rfl (JA au) (zG U U λw hw=>hl.reads ko hw) (yo (show 0+l.length<=1000000 by omega)) (show (0+l.length)*yr<=140737488355328 by unfold yr;omega) (λ_ _ _=>zE) (λ_ _ _=>rfl) ?_;intro j2 a0 dE lP jw rI dA w ah;have u1:=jw.up rI (ch _) (λ_ _ h=>h);letI:=b6 ah;refine dP (dQ dV) [] [] aP aQ ?_ ah;exact bU jO λw2 bp=>(by (exact Bh lP (by rw[e4];rfl) bp))
end Rn
namespace ZX
noncomputable def body:Code:=(Tryd.f32.body).getD .skip
def N:Nat:=8
def aO:b8:={sl:=b3 [(0,0)],ms:=[],A:=start}
def bP:bj:=[(.bin .eql 29 0 (.slice none 0 0),.bool true)]
theorem e0:fm Tryd.prog Tryd.f32 (at' 8 bP [] body aO)=some (.slice none 0 0):=au
def cd:bj:=[(.bin .eql 29 0 (.slice none 0 0),.bool false)]
theorem e1:p4 29 (at' 8 cd [] body aO)=some (.slice (some ⟨0,0,none⟩) 0 0,0):=au
abbrev gA:=at' 8 cd [] body aO
def dF:List bx:=[]
def hd0:aF:=b3 [(2,.slice none 0 0)]
def hp0:aF:=fa 8 hd0 7 1
theorem e2:cr (b9 gA) hd0 dF=some []:=au
def dV:dU:=(body,[1,1,0],3)
theorem jO:fm Tryd.prog Tryd.f32 (cK 8 [] [] dV (b5 hp0 dF))=some 1:=au
@[reducible] noncomputable def bD (l:List cW) (dR:cm) (eg:Nat) (cu:List cW:=[]) (a0:cm:=none) (dE:Nat:=0):List J:=[bu dR l eg,bu a0 cu dE]
theorem any (W:ax) {h_:J} {l:List cW} (hl:cE (aE W) 8 jF h_ l) (av:l.length<=100000):Calls Tryd.prog 32 #[h_] W λe w'=>(∃a c,e= .returned (bu a l c)/\dw W.heap.size (aE w') oD 8 jF (bu a l c) l)/\cj W.heap.size W w':=by
 obtain⟨dR,eg,rfl⟩:=hl.slice;refine jI (bD l dR eg) body aO N [ak 0] Tryd.func32 λa ah=> ?_
 letI:=b6 ah;by_cases aL:dR=none
 ·refine bA bP [] (ae (aV.JC rfl lY rfl aL) aP) aQ ?_ ah
  exact bU e0 λw2 bp=>(by (subst aL;exact JB hl.isNil))
 ·refine bA cd [] (ae (aV.JD rfl lY rfl aL) aP) aQ ?_ ah
  obtain⟨cu,e4⟩:=h3 ([]++l);have fc:cu.length=0+l.length:=by rw[e4];simp
  refine Bf (l:=[]) (lx:=l) (l':=cu) (bm:=λph pj=>(bD l dR eg cu ph pj)) (T:=none) e4 e1 lY afE afF afG afH afI cw JS afJ e2 (et hp0 1) rfl (JA au) (zG U U λw hw=>hl.reads JS hw) (yo (show 0+l.length<=1000000 by omega)) (show (0+l.length)*Ov<=140737488355328 by unfold Ov;omega) (λ_ _ _=>zE) (λ_ _ _=>rfl) ?_;intro j2 a0 dE lP jw rI dA w ah;have u1:=jw.up rI (ch _) (λ_ _ h=>h);letI:=b6 ah;refine dP (dQ dV) [] [] aP aQ ?_ ah;exact bU jO λw2 bp=>(by (exact Bh lP (by rw[e4];rfl) bp))
end ZX
end AE
namespace AE
namespace ZY
noncomputable def body:Code:=(Tryd.f51.body).getD .skip
def N:Nat:=16
def aO:b8:={sl:=b3 [(1,.func (.func 52) ⟨[]⟩ ⟨[0,1]⟩),(0,.agg ⟨[2,3,4,5,6,7,8]⟩)],ms:=[],A:=start}
theorem e0:hb (at' 16 [] [] body aO)=some (77,[8]):=au
abbrev gA:=at' 16 [] [] body aO
def dF:List bx:=[⟨.cells [2,3,4,5,6,7,8],28,0⟩,⟨.cells [I 0,I 0,I 0,I 0,I 0,I 0,.slice none 0 0],28,0⟩]
def hd0:aF:=b3 [(4,dh 1 0),(2,dh 0 0),(1,.func (.func 52) ⟨[]⟩ ⟨[0,1]⟩)]
def hp0:aF:=fa 16 hd0 8 9
theorem e3:cr (kS Tryd.prog gA) hd0 dF=some [(0,0),(1,1),(2,2),(3,3),(4,4),(5,5),(6,6),(7,7),(8,8)]:=au
def dV:dU:=(body,[1,0],3)
def cd:bj:=[(.bB 28 0,.agg ⟨[2,3,4,5,6,7,8]⟩),
 (.cq 28 1 0,1),
 (.bB 25 1,.agg ⟨[I 0,I 0,I 0,I 0,I 0,I 0]⟩)]
def h':dZ:=[(78,[.agg ⟨[2,3,4,5,6,7]⟩,.agg ⟨[I 0,I 0,I 0,I 0,I 0,I 0]⟩],.agg ⟨[I 0,I 0,I 0,I 0,I 0,I 0]⟩)]
theorem mF:fm Tryd.prog Tryd.f51 (cK 16 cd h' dV (b5 hp0 dF))=some (.agg ⟨[2,3,4,5,6,7,9]⟩):=au
@[reducible] noncomputable def bD (bS:cm) (bL bT qX:Nat) (b:bQ) (qY:Nat) (sH:List Int:=[]) (ia:cm:=none) (ib:Nat:=0):List J:=[dh qX 0,dh qY 0,I b.1,I b.2.1,I b.2.2.1,I b.2.2.2.1,I b.2.2.2.2.1,I b.2.2.2.2.2,.slice bS bL bT,bu ia sH ib]
theorem any (W:ax) {bS:cm} {bL bT:Nat} {cells:List Int} (h0:cE (aE W) 1 fQ (.slice bS bL bT) cells) {qX:Nat} {b:bQ} (akm:jr 0 (aE W) (dh qX 0) 28 [I b.1,I b.2.1,I b.2.2.1,I b.2.2.2.1,I b.2.2.2.2.1,I b.2.2.2.2.2,.slice bS bL bT]) {qY:Nat} (akn:jr 0 (aE W) (dh qY 0) 28 [I 0,I 0,I 0,I 0,I 0,I 0,.slice none 0 0]) (av:cells.length<=100000):Calls Tryd.prog 51 #[.agg ⟨[I b.1,I b.2.1,I b.2.2.1,I b.2.2.2.1,I b.2.2.2.2.1,I b.2.2.2.2.2,.slice bS bL bT]⟩,.func (.func 52) #[] #[dh qX 0,dh qY 0]] W λe w'=>(∃a c,e= .returned (mu b (bu a cells c))/\dw W.heap.size (aE w') kQ 1 fQ (bu a cells c) cells)/\cj W.heap.size W w':=by
 refine jI (bD bS bL bT qX b qY) body aO N [.agg ⟨[ak 2,ak 3,ak 4,ak 5,ak 6,ak 7,ak 8]⟩,.func (.func 52) ⟨[]⟩ ⟨[ak 0,ak 1]⟩] Tryd.func51 λa ah=> ?_
 letI:=b6 ah;have aI:=bK.o5 W;refine bA [] [] aP aQ ?_ ah;obtain⟨sH,Al⟩:=h3 (cells);refine hG (Y:=dX) (bm:=λaW=>(bD bS bL bT qX b qY sH aW.1 aW.2)) aI [] (λaW=>[]) (λaW=>[qn aW.1 sH aW.2]) e0 e3 (et hp0 9) (fC:=λw hw cX aw=>by rw[Al];exact FV (Rn.any _ ((h0.mono aI.ext).mono hw) av)) (rest:= ?_);intro j2 ⟨ia,ib⟩ dp dA w ah;replace dp:=dp.K9;letI:=b6 ah;refine dP (dQ dV) cd h' (ae (aV.J1 (g:=qX) (o:=0) (n:=7) (akm.up dp.ext) U U U au au U U U) (ae (ff 25 0 6) (ae (aV.J1 (g:=qY) (o:=0) (n:=6) (akn.up dp.ext) U U U au au U U U) aP))) (cG (ZV U U U U) aQ) ?_ ah;exact bU mF λw2 bp=>(by subst Al;exact⟨_,_,rfl,(dp.arr 0 rfl).mono (ch _) λ_ _ _ h=>bp _ _ h⟩)
end ZY
namespace Ro
noncomputable def body:Code:=(Tryd.f31.body).getD .skip
def N:Nat:=8
def aO:b8:={sl:=b3 [(1,.agg ⟨[I 0,I 0,I 0,I 0,I 0,I 0,.slice none 0 0]⟩),(0,.agg ⟨[0,1,2,3,4,5,6]⟩)],ms:=[],A:=start}
def bP:bj:=[(.ea (I 28),I 28)]
theorem e0:uK (at' 8 bP [] body aO)=some (28,(.agg ⟨[0,1,2,3,4,5,6]⟩)):=au
abbrev gA:=at' 8 bP [] body aO
def dF:List bx:=[]
def hd0:aF:=b3 [(1,.agg ⟨[I 0,I 0,I 0,I 0,I 0,I 0,.slice none 0 0]⟩)]
def hp0:aF:=fa 8 hd0 2 7
theorem e1:cr (b9 gA) hd0 dF=some []:=au
def dV:dU:=(body,[0],1)
theorem h4:uK (cK 8 bP [] dV (b5 hp0 dF))=some (28,(.agg ⟨[I 0,I 0,I 0,I 0,I 0,I 0,.slice none 0 0]⟩)):=au
abbrev jx:=cK 8 bP [] dV {sl:=hp0,ms:=[],A:=da dF}
def hy:List bx:=[]
def ht:aF:=b3 [(2,7)]
def hp1:aF:=fa 8 ht 3 8
theorem jO:cr (b9 jx) ht hy=some [(7,7)]:=au
def iA:dU:=(body,[0],2)
theorem k0:FK (cK 8 bP [] iA (b5 hp1 hy))=some 28:=au
abbrev pk:=cK 8 bP [] iA {sl:=hp1,ms:=[],A:=da hy}
def kh:List bx:=[]
def k1:aF:=b3 [(3,8),(2,7)]
def hp2:aF:=fa 8 k1 4 9
theorem qq:cr (b9 pk) k1 kh=some [(8,8),(7,7)]:=au
def jf:dU:=(body,[0],3)
def cd:bj:=[(.ea (I 28),I 28),
 (.bB 28 7,.agg ⟨[0,1,2,3,4,5,6]⟩)]
theorem tK:hb (cK 8 cd [] jf (b5 hp2 kh))=some (51,[.agg ⟨[0,1,2,3,4,5,6]⟩,.func (.func 52) ⟨[]⟩ ⟨[7,8]⟩]):=au
abbrev yT:=cK 8 cd [] jf {sl:=hp2,ms:=[],A:=da kh}
def rJ:List bx:=[]
def u2:aF:=b3 [(4,9)]
def hp3:aF:=fa 8 u2 7 (.agg ⟨[0,1,2,3,4,5,10]⟩)
theorem rK:cr (b9 yT) u2 rJ=some [(9,9)]:=au
def tL:dU:=(body,[1,0],3)
theorem Cb:nJ (cK 8 bP [] tL (b5 hp3 rJ))=some (28,9,(.agg ⟨[0,1,2,3,4,5,10]⟩)):=au
abbrev tM:=cK 8 bP [] tL {sl:=hp3,ms:=[],A:=da rJ}
def tN:List bx:=[]
def tO:aF:=b3 [(4,9)]
def qc:aF:=match g' 8 tO none (.tuple ⟨[]⟩) with|some s=>s|none=> .nil
theorem Hj:cr (b9 tM) tO tN=some [(9,9)]:=au
def Hk:dU:=(body,[1,0],4)
theorem Cc:endCell Tryd.f31 (cK 8 bP [] Hk (b5 qc tN))=some (28,9):=au
@[reducible] noncomputable def bD (bS:cm) (bL bT:Nat) (b:bQ) (eI:Nat:=0) (g1:Nat:=0) (g2:Nat:=0) (qs:List Int:=[]) (tP:cm:=none) (tQ:Nat:=0):List J:=[I b.1,I b.2.1,I b.2.2.1,I b.2.2.2.1,I b.2.2.2.2.1,I b.2.2.2.2.2,.slice bS bL bT,dh eI 0,dh g1 0,dh g2 0,bu tP qs tQ]
theorem any (W:ax) {b:bQ} {bS:cm} {bL bT:Nat} {cells:List Int} (h0:cE (aE W) 1 fQ (.slice bS bL bT) cells) (av:cells.length<=100000):Calls Tryd.prog 31 #[.agg ⟨[I b.1,I b.2.1,I b.2.2.1,I b.2.2.2.1,I b.2.2.2.2.1,I b.2.2.2.2.2,.slice bS bL bT]⟩,.agg ⟨[I 0,I 0,I 0,I 0,I 0,I 0,.slice none 0 0]⟩] W λe w'=>(∃a c,e= .returned (mu b (bu a cells c))/\dw W.heap.size (aE w') kQ 1 fQ (bu a cells c) cells)/\cj W.heap.size W w':=by
 refine jI (bD bS bL bT b) body aO N [.agg ⟨[ak 0,ak 1,ak 2,ak 3,ak 4,ak 5,ak 6]⟩,.agg ⟨[I 0,I 0,I 0,I 0,I 0,I 0,.slice none 0 0]⟩] Tryd.func31 λa ah=> ?_
 letI:=b6 ah;have aI:=bK.o5 W;refine bA bP [] (ae (gD _) aP) aQ ?_ ah;refine xe (u:= .agg ⟨[I b.1,I b.2.1,I b.2.2.1,I b.2.2.2.1,I b.2.2.2.2.1,I b.2.2.2.2.2,.slice bS bL bT]⟩) (cs:=[I b.1,I b.2.1,I b.2.2.1,I b.2.2.2.1,I b.2.2.2.2.1,I b.2.2.2.2.2,.slice bS bL bT]) (bm:=λf'=>(bD bS bL bT b f')) e0 U U U e1 (et hp0 7) rfl (λ_ f'=>zE) (λ_ _=>rfl) ?_;intro j2 eI fc Cd jw dA w ah;have dp:=aI.new (tl Cd fc jw);replace dp:=dp.K9;letI:=b6 ah;refine dP (dQ dV) bP [] (ae (gD _) aP) aQ ?_ ah;refine xe (u:= .agg ⟨[I 0,I 0,I 0,I 0,I 0,I 0,.slice none 0 0]⟩) (cs:=[I 0,I 0,I 0,I 0,I 0,I 0,.slice none 0 0]) (bm:=λf'=>(bD bS bL bT b eI f')) h4 U U U jO (et hp1 8) rfl (λ_ f'=>fw) (λ_ _=>rfl) ?_;intro nj g1 hJ rq mv dA w ah;have gv:=dp.new (tl rq hJ mv);replace gv:=gv.G2;letI:=b6 ah;refine dP (dQ iA) bP [] (ae (gD _) aP) aQ ?_ ah;refine OH (z:= .agg ⟨[I 0,I 0,I 0,I 0,I 0,I 0,.slice none 0 0]⟩) (bm:=λf'=>(bD bS bL bT b eI g1 f')) k0 au qq (et hp2 9) rfl (λ_ f'=>fw) (λ_ _=>rfl) ?_;intro nk g2 vz kK Rp Hl dA w ah;have ic:=gv.new (tl (ty:=28) (cs:=[I 0,I 0,I 0,I 0,I 0,I 0,.slice none 0 0]) (jr.mk' vz Rp) kK Hl);replace ic:=ic.wi;letI:=b6 ah;refine dP (dQ jf) cd [] (ae (gD _) (ae (wh 0 7 0 ic) aP)) aQ ?_ ah;obtain⟨qs,Hm⟩:=h3 (cells);refine hG (Y:=dX) (bm:=λaW=>(bD bS bL bT b eI g1 g2 qs aW.1 aW.2)) ic [0,1] (λaW=>[_,_]) (λaW=>[qn aW.1 qs aW.2]) tK rK (et hp3 (.agg ⟨[0,1,2,3,4,5,10]⟩)) (fC:=λw hw cX aw=>by rw[Hm];exact akj (F:=mu b) aw (ZY.any _ ((h0.mono ic.ext).mono hw) (aw.box 0 rfl) (aw.box 1 rfl) av)) (rest:= ?_);intro Rq ⟨tP,tQ⟩ oN dA w ah;replace oN:=oN.BZ;letI:=b6 ah;refine dP (dQ tL) bP [] (ae (gD _) aP) aQ ?_ ah;refine OO (g:=g2) (j:=0) (n:=7) (us:=[I b.1,I b.2.1,I b.2.2.1,I b.2.2.2.1,I b.2.2.2.2.1,I b.2.2.2.2.2,bu tP qs tQ]) (cs:=[I 0,I 0,I 0,I 0,I 0,I 0,.slice none 0 0]) (cs':=[I b.1,I b.2.1,I b.2.2.1,I b.2.2.2.1,I b.2.2.2.2.1,I b.2.2.2.2.2,bu tP qs tQ]) (bm:=(bD bS bL bT b eI g1 g2 qs tP tQ)) rfl Cb au Hj (et qc (.tuple ⟨[]⟩)) U U U U U (p_ rfl (p_ rfl (p_ rfl (p_ rfl (p_ rfl (p_ rfl (p_ rfl FU))))))) (oN.box 2 rfl) (gI rfl) (λ_=>fw) ?_;intro Ln Rr Ce dA w ah;have pn:=oN.lZ 2 rfl (vO Rr Ce);replace pn:=pn.BZ;letI:=b6 ah;refine dP (dQ Hk) bP [] (ae (gD _) aP) aQ ?_ ah;exact OU (v:= .agg ⟨[ak 0,ak 1,ak 2,ak 3,ak 4,ak 5,ak 10]⟩) (cs:=[I b.1,I b.2.1,I b.2.2.1,I b.2.2.2.1,I b.2.2.2.2.1,I b.2.2.2.2.2,bu tP qs tQ]) Cc U U (pn.box 2 rfl) au (show bk Tryd.prog (sizeOf 28)=some 7 by kernel_rfl) U U λw2 eW bp=>⟨(by subst Hm;exact⟨_,_,rfl,(pn.arr 3 rfl).mono (ch _) λ_ _ _ h=>bp _ _ h⟩),eW⟩
end Ro
end AE
end Go.Proofs.YtepcfjbfkedlpaaDoor
namespace Go.Proofs.YtepcfjbfkedlpaaDoor
open Go Go.Proofs Go.Shelf Go.RowKit Go.Lib
section
def ako:Go.Shelf.Ren:=⟨λ|212=>56|263=>82|264=>83|n=>n,λ|46=>104|51=>127|146=>128|53=>130|148=>131|n=>n,λ|n=>n⟩
theorem akp:Go.Proofs.Lays.n212 Tryd.prog ako:={
 mixed:=by kernel_rfl
 f212:=Tryd.func56.trans (congrArg some au)
 f263:=Tryd.func82.trans (congrArg some au)
 f264:=Tryd.func83.trans (congrArg some au)
 t46:=Tryd.underlying104
 a46:=Tryd.isAgg104
 z46:=Tryd.sizeOf104
 v46:=Tryd.zeroValue104
 t51:=Tryd.underlying127
 a51:=Tryd.isAgg127
 z51:=Tryd.sizeOf127
 v51:=Tryd.zeroValue127
 t53:=Tryd.underlying130
 a53:=Tryd.isAgg130
 z53:=Tryd.sizeOf130
 v53:=Tryd.zeroValue130
 t146:=Tryd.underlying128
 a146:=Tryd.isAgg128
 z146:=Tryd.sizeOf128
 v146:=Tryd.zeroValue128
 t148:=Tryd.underlying131
 a148:=Tryd.isAgg131
 z148:=Tryd.sizeOf131
 v148:=Tryd.zeroValue131}
open Go.RowKit Go.Lib in
theorem bits_Mul (x y:Nat) (aq:x<18446744073709551616) (bE:y<18446744073709551616) (w:ax):
 Calls Tryd.prog 56 #[.int .u64 x,.int .u64 y] w λe w'=>e= .returned (.tuple #[.int .u64 ((x*y/18446744073709551616:Nat):Int),.int .u64 ((x*y%18446744073709551616:Nat):Int)])/\w'=w:=Any.bits_Mul akp x y aq bE w
namespace AE
def jT (n i:Nat):List Bool:=List.replicate i true++List.replicate (n-i) false
theorem ZZ (n:Nat):jT n n=List.replicate n true:=by simp [jT]
theorem akq (n:Nat):(List.replicate n vW).take 0++[true].take (min [true].length ((List.replicate n vW).length-0))++(List.replicate n vW).drop (0+min [true].length ((List.replicate n vW).length-0))=jT n (min [true].length ((List.replicate n vW).length-0)):=by
 have bW:vW=false:=rfl;rw[bW,mz];cases n with
 |zero=>rfl
 |succ n=>
  have:min [true].length (n+1-0)=1:=by simp
  rw[this];simp [jT]
theorem akr {n i:Nat} (h:i<=n):(jT n i).take i++((jT n i).take i).take (min ((jT n i).take i).length ((jT n i).length-i))++(jT n i).drop (i+min ((jT n i).take i).length ((jT n i).length-i))=jT n (i+min ((jT n i).take i).length ((jT n i).length-i)):=by
 have ad:(jT n i).take i=List.replicate i true:=by
  unfold jT;rw[List.take_append_of_le_length (by simp)];simp
 have ag:(jT n i).length=n:=by simp [jT];omega
 rw[ad,ag,mz];generalize hm:min i (n-i)=m;have aks:m<=i:=by omega
 have Kg:m<=n-i:=by omega
 unfold jT;rw[List.drop_append,mz,List.drop_of_length_le (by simp),Nat.add_sub_cancel_left,List.take_replicate,List.drop_replicate,Nat.min_eq_left aks,List.nil_append,List.replicate_append_replicate];congr 2;omega
theorem akt {α:Type} {B:Nat} {M:Mem} {e:aK} {k:Nat} {enc:α->List J} {a:Option Addr} {n c:Nat} {l:List α} (h:dw B M e k enc (.slice a n c) l):l.length<=c:=by
 obtain⟨a6,c',he,ar⟩:=h.queue.cap;cases he;exact ar
section
variable [a7]
theorem Z0 {x y r:J} {p q:Nat} (hp:dM [x,y]=true) (ao:aM r=true) (br:ep [x,y]=[.int .u64 ((p:Nat):Int),.int .u64 ((q:Nat):Int)]) (ca:aJ r= .tuple ⟨[.int .u64 0,.int .u64 ((q:Nat):Int)]⟩) (ad:p=1) (ag:q<=9000000000000000000):jb Tryd.prog (56,[x,y],r):=
 kR (a:= #[.int .u64 ((p:Nat):Int),.int .u64 ((q:Nat):Int)]) hp ao br ca λw _=>(bits_Mul p q aj aj w).mono λe w' he=>by
  obtain⟨rfl,rfl⟩:=he;subst ad;refine⟨?_,⟨rfl,rfl,rfl,ch _,λ_ _=>rfl⟩,ch _⟩;rw[Nat.one_mul,Nat.div_eq_of_lt aj,Nat.mod_eq_of_lt aj];rfl
end
end AE
end
end Go.Proofs.YtepcfjbfkedlpaaDoor
