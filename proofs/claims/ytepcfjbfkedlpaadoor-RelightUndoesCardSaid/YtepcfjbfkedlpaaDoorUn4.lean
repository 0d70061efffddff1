/- Parts of the proof. -/
import Derived.Test.YtepcfjbfkedlpaaDoorUn3
import Derived.ProofKit
import Derived.Shelf.Bits.Mul64
import Derived.Ground.Names2Prog
set_option maxRecDepth 100000
set_option maxHeartbeats 4000000
noncomputable section
namespace Go.Proofs.YtepcfjbfkedlpaaDoor
open Go Go.Proofs Go.RowKit
namespace AE
variable {P:aR}
theorem P8 {n:Nat} {s1 s2:a1} (ha:n5 n s1 s2):∀o:Option J,ss.DW n o=true->o.map (@aJ s1)=o.map (@aJ s2)
 |none,_=>rfl
 |some v,h=>congrArg some (kO ha v h)
theorem ah6 {n:Nat} {s1 s2:a1} (ha:n5 n s1 s2) (f:gd) (h:ss.vQ n f=true): @xV s1 f= @xV s2 f:=by
 cases f<;>simp only [ss.vQ,c7] at h<;>unfold xV<;>dsimp only
 case bin=>rw[kO ha _ h.1,kO ha _ h.2]
 case un=>rw[kO ha _ h]
 case conv=>rw[kO ha _ h]
 case mb=>rw[kO ha _ h.1,P8 ha _ h.2.1,P8 ha _ h.2.2.1,P8 ha _ h.2.2.2]
 case dG=>rw[kO ha _ h.1,kO ha _ h.2]
 case fX=>rw[kO ha _ h.1,kO ha _ h.2]
 case bA=>rw[kO ha _ h]
 case cn=>rw[kO ha _ h]
 case dM=>rw[kO ha _ h]
 case len=>rw[kO ha _ h]
 case eY=>rw[kO ha _ h.1,kO ha _ h.2]
 case lO=>rw[kO ha _ h.1,kO ha _ h.2]
 case d'=>rw[kO ha _ h]
 case lB=>rw[kO ha _ h.1,kO ha _ h.2]
theorem P9 {n m:Nat} (hle:n<=m):∀o:Option J,ss.DW n o=true->ss.DW m o=true
 |none,_=>rfl
 |some v,h=>nh hle v h
theorem ah7 {n m:Nat} (hle:n<=m) {f:gd} (h:ss.vQ n f=true):ss.vQ m f=true:=by
 cases f<;>simp only [ss.vQ,c7] at h ⊢
 case bin=>exact⟨nh hle _ h.1,nh hle _ h.2⟩
 case un=>exact nh hle _ h
 case conv=>exact nh hle _ h
 case mb=>exact⟨nh hle _ h.1,P9 hle _ h.2.1,P9 hle _ h.2.2.1,P9 hle _ h.2.2.2⟩
 case dG=>exact⟨nh hle _ h.1,nh hle _ h.2⟩
 case fX=>exact⟨nh hle _ h.1,nh hle _ h.2⟩
 case bA=>exact nh hle _ h
 case cn=>exact nh hle _ h
 case dM=>exact nh hle _ h
 case len=>exact nh hle _ h
 case eY=>exact⟨nh hle _ h.1,nh hle _ h.2⟩
 case lO=>exact⟨nh hle _ h.1,nh hle _ h.2⟩
 case d'=>exact nh hle _ h
 case lB=>exact⟨nh hle _ h.1,nh hle _ h.2⟩
theorem ah8 {n:Nat} {M:Mem} {e1 e2:List J} (ha:n5 n (cY M e1) (cY M e2)) {f:gd} {r:J} (aQ:ss.vQ n f=true) (ao:kN n r=true) (h: @aT (cY M e1) P (f,r)): @aT (cY M e2) P (f,r):=by
 obtain⟨ad,ag,ay⟩:=h;refine⟨ad,ag,?_⟩;simp only at ay ⊢;rw[<-ah6 ha f aQ,<-kO ha r ao];exact ay
theorem ah9 {n:Nat} {M:Mem} {e1 e2:List J} (ha:n5 n (cY M e1) (cY M e2)) {f:FuncId} {args:List J} {r:J} (aQ:o5 n args=true) (ao:kN n r=true) (h: @i_ (cY M e1) P (f,args,r)): @i_ (cY M e2) P (f,args,r):=by
 obtain⟨ad,ag,ay⟩:=h;refine⟨ad,ag,?_⟩;simp only at ay ⊢;rw[<-BD ha args aQ,<-kO ha r ao];exact ay
theorem n5.mono {n m:Nat} {s1 s2:a1} (h:n5 n s1 s2) (hm:m<=n):n5 m s1 s2:=λk al=>h k aj
theorem n5.trans {n:Nat} {s1 s2 r5:a1} (h:n5 n s1 s2) (ag:n5 n s2 r5):n5 n s1 r5:=λk al=>(h k al).trans (ag k al)
section
variable {B:Nat} {W:ax} {az:List cc} {ro:List (jc P)}
def n7 (B:Nat) (W:ax) (az:List cc) (L:List (bs P)) (env:List J) (F:j5):Prop:=∀M,bI B (aG W) az M (db L)->∀ext,@s' (cY M (ext++env)) P F
def n8 (B:Nat) (W:ax) (az:List cc) (L:List (bs P)) (env:List J) (T:kc):Prop:=∀M,bI B (aG W) az M (db L)->∀ext,∀p∈T,@i_ (cY M (ext++env)) P p
theorem n7.ext {L:List (bs P)} {env:List J} {F:j5} (h:n7 B W az L env F) (vs:List J):n7 B W az L (vs++env) F:=λM bt ext=>by
 have:=h M bt (ext++vs)
 rwa [List.append_assoc] at this
theorem n8.ext {L:List (bs P)} {env:List J} {T:kc} (h:n8 B W az L env T) (vs:List J):n8 B W az L (vs++env) T:=λM bt ext=>by
 have:=h M bt (ext++vs)
 rwa [List.append_assoc] at this
theorem n7.snoc {L:List (bs P)} {env:List J} {n:Nat} {F:j5} (av:env.length=n) (h:n7 B W az L env F) {f:gd} {r:J} (aQ:∀M,bI B (aG W) az M (db L)-> @aT (cY M env) P (f,r)) (ad:ss.vQ n f=true) (ag:kN n r=true):n7 B W az L env (F++[(f,r)]):=λM bt ext p hp=>by
 rcases List.mem_append.1 hp with hp|hp
 ·exact h M bt ext p hp
 ·rw[List.mem_singleton] at hp
  subst hp;exact ah8 (uJ M M av) ad ag (aQ M bt)
theorem n8.snoc {L:List (bs P)} {env:List J} {n:Nat} {T:kc} (av:env.length=n) (h:n8 B W az L env T) {f:FuncId} {args:List J} {r:J} (aQ:∀M,bI B (aG W) az M (db L)-> @i_ (cY M env) P (f,args,r)) (ad:o5 n args=true) (ag:kN n r=true):n8 B W az L env (T++[(f,args,r)]):=λM bt ext p hp=>by
 rcases List.mem_append.1 hp with hp|hp
 ·exact h M bt ext p hp
 ·rw[List.mem_singleton] at hp
  subst hp;exact ah9 (uJ M M av) ad ag (aQ M bt)
theorem n7.marks (L:List (bs P)) (env:List J) (l:List aK):n7 B W az L env (Gr l):=λM _ ext p hp=>by
 obtain⟨t,_,rfl⟩:=List.mem_map.1 hp;exact @gB (cY M (ext++env)) P (t:Int)
theorem n8.nil (L:List (bs P)) (env:List J):n8 B W az L env []:=λ_ _ _ _ h=>by cases h
theorem Yg {L:List (bs P)} (dK:∀M,pE (aG W) az M->hi ro M) {M:Mem} (cM:bI B (aG W) az M (db L)) {w:ax} (hw:∀i o,M i=some o->w.heap[i]? =some o):rz W az ro L w:=by
 have he:pE (aG W) az (aG w):=λi o ad ag=>hw i o (Gm cM i o ad ag)
 exact⟨cM.sp.mono λb o _ ho=>hw b o ho,dK _ he,he⟩
theorem Yh {L:List (bs P)} (dK:∀M,pE (aG W) az M->hi ro M) {n m:Nat} {env vs:List J} {f:FuncId} {args:List J} {r:J} (av:env.length=n) (ad:gg (vs.reverse++env)) (h0:gg env) (hm:vs.length=m) (ha:o5 n args=true) (hp:dL args=true) (ao:aM r=true)
  (ar:∀w,rz W az ro L w->Calls P f ⟨h9 env n args⟩ w λe w'=>e= .returned (ex (vs.reverse++env) (n+m) r)/\cg w.heap.size w w') (M:Mem) (cM:bI B (aG W) az M (db L)): @i_ (cY M (vs.reverse++env)) P (f,args,r):=by
 refine⟨hp,ao,λw hw=> ?_⟩;have gK: @eo (cY M (vs.reverse++env)) args=h9 env n args:=by
  rw[<-BD (uJ M M av) args ha];exact tl M h0 av args
 have kF: @aJ (cY M (vs.reverse++env)) r=ex (vs.reverse++env) (n+m) r:=ml M ad (by simp [av,hm,Nat.add_comm]) r;simp only;rw[gK,kF];exact ar w (Yg dK cM hw)
end
theorem jn.ah' [a1] [cS] [Lib P] {F:j5} {T:kc} {N d B:Nat} {w0 w:ax} {a:Act} {s:b6} {Q:Exit->Act->ax->Prop} (bb:ov Q) (cQ:P.follows .mixedOrders=true) (dh:s' P F) (eA:r8 P T) (dT:jn) (h:fy P N B w0 Q (dT.run P F T N d s)) (ah:Here N s B w0 a w):dT.lg P Q a w:=by
 cases dT with
 |k x ks=>
  obtain⟨st,ad,ag⟩:=h;letI:eh P:=⟨F⟩;letI:s3 P:=⟨T⟩;have ar:=zv (gl:= .nil) (bn:=1000) cQ dh eA d;exact pX cQ ar ks x s st Q a w bb ad ag ah
 |ops r os ks=>
  haveI:mX Q:=⟨bb⟩
  exact Fu cQ dh eA h ah
 |any bn os listed ks=>
  obtain⟨st,ad,_⟩:=h;cases ad
section
variable [Lib P] (cf:jd) (B:Nat) (W:ax) (az:List cc) (post:J->List (bs P)->Prop)
def KO (e:Ending) (w:ax):Prop:=∃v L',e= .returned v/\post v L'/\cV (aG W) az (aG w) (db L')
abbrev mm (M:Mem) (env:List J) (s:b6) (a:Act) (w:ax):Prop:= @Here (cY M env) gm cf.N s B W a w
inductive nj:List jj->List (fG P)->(Exit->Act->ax->Prop)->List J->Prop
 |nil (env:List J):nj [] [] (@rh gm P cf.fn cf.N B W λe w=>KO W az post e w/\cg B W w) env
 |cons {c:jj} {cs:List jj} {xg:fG P} {aU:List (fG P)} {Q:Exit->Act->ax->Prop} {env dc qQ:List J} {R:Act->ax->Prop} (gE:env=dc++qQ) (av:qQ.length=c.n) (h:nj cs aU Q env)
   (jA:∀M nM L vs bL s a w,bI B (aG W) az M (db L)->(∃n2,nM=n2++qQ)->gg nM->xg (h9 nM nM.length vs) L->cp s c.sl c.aZ=some bL->DY c.n vs bL=true->ri c.aZ=true->mm cf B W M nM s a w->R a w):nj (c::cs) (xg::aU) (Exit.then R (dY P c.ks Q)) env
variable {cf B W az post}
omit [Lib P] in
theorem nj.ext {cs:List jj} {aU:List (fG P)} {Q:Exit->Act->ax->Prop} {env:List J} (h:nj cf B W az post cs aU Q env) (dc:List J):nj cf B W az post cs aU Q (dc++env):=by
 induction h with
 |nil env=>exact .nil _
 |cons gE av _ jA cz=>exact .cons (dc:=dc++_) (by rw[gE,List.append_assoc]) av cz jA
omit [Lib P] in
theorem nj.calm {cs:List jj} {aU:List (fG P)} {Q:Exit->Act->ax->Prop} {env:List J} (h:nj cf B W az post cs aU Q env):ov Q:=by
 induction h with
 |nil env=>exact(inferInstance:mX _).calm
 |cons gE av _ jA cz=>exact(cz.vw _).then _
def pH (cf:jd) (B:Nat) (W:ax) (az:List cc) (ro:List (jc P)) (post:J->List (bs P)->Prop) (G:jD):Prop:=
 ∀n cs dT eu sl aZ F T o t,G n cs dT eu sl aZ F T o=some t->zY eu (b3 sl aZ) sl aZ->∀hV dc L aU Q,dA B W az ro post n (dc++hV) L aU t->(dc++hV).length=n->hV.length=eu->gg (dc++hV)->nj cf B W az post cs aU Q hV->
  n7 B W az L (dc++hV) F->n8 B W az L (dc++hV) T->∀M,bI B (aG W) az M (db L)->∀a w,mm cf B W M hV (b3 sl aZ) a w->dT.lg P Q a w
theorem GK (n:Nat) (s:a1):n5 n s s:=λ_ _=>rfl
theorem D2 {M:Mem} {n:Nat} {e1 e2:List J} {s:b6} {sl:aF} {aZ:List bu} {a:Act} {w:ax} (ha:n5 n (cY M e1) (cY M e2)) (h:zY n s sl aZ) (ah:mm cf B W M e1 s a w):mm cf B W M e2 (b3 sl aZ) a w:=by
 obtain⟨bL,ho,ad,ag⟩:=h;exact @Here.move gm (cY M e1) (cY M e2) _ _ _ _ _ _ _ _ _ ho (GI ha ad) (λ_ _ h=>h) (Nat.zero_le _) (gX ag) ah
omit [Lib P] in
theorem KP {ro:List (jc P)} {G:jD} (fk:pH cf B W az ro post G) {n:Nat} {cs:List jj} {dT:jn} {F:j5} {T:kc} {sl:aF} {aZ:List bu} {go:jn->aF->List bu->Option bY} {t:bZ} (h:Gx G n cs dT F T sl aZ go=some t) {env:List J} {L:List (bs P)} {aU:List (fG P)} {Q:Exit->Act->ax->Prop} (hw:dA B W az ro post n env L aU t) (av:env.length=n) (ho:gg env)
  (ar:nj cf B W az post cs aU Q env) (dh:n7 B W az L env F) (eA:n8 B W az L env T) {M:Mem} (bt:bI B (aG W) az M (db L)) {a:Act} {w:ax} (ah:su n aZ=true->mm cf B W M env (b3 (ni aZ.length n sl) aZ) a w):dT.lg P Q a w:=by
 rw[ahR] at h;cases af:su n aZ with
 |false=>rw[af] at h;cases h
 |true=>
  rw[af,bD] at h;exact fk n cs dT n _ aZ _ _ _ t h (ah2 af) env [] L aU Q hw av av ho ar dh eA M bt a w (ah af)
theorem uN {ro:List (jc P)} {G:jD} (fk:pH cf B W az ro post G) {n:Nat} {cs:List jj} {dT:jn} {sl:aF} {aZ:List bu} {t:bZ} (h:ry P cf G n cs dT sl aZ=some t) {env:List J} {L:List (bs P)} {aU:List (fG P)} {Q:Exit->Act->ax->Prop} (hw:dA B W az ro post n env L aU t) (av:env.length=n) (ho:gg env)
  (ar:nj cf B W az post cs aU Q env) {M:Mem} (bt:bI B (aG W) az M (db L)) {a:Act} {w:ax} (ah:mm cf B W M env (b3 sl aZ) a w):dT.lg P Q a w:=
 KP fk h hw av ho ar (n7.marks _ _ _) (n8.nil _ _) bt λaf=>D2 (GK n _) (Yf af) ah
theorem Yi {ro:List (jc P)} {G:jD} (fk:pH cf B W az ro post G) {n:Nat} {cs:List jj} {dT:jn} {s:b6} {t:bZ} (h:KK P cf G n cs dT s=some t) {env:List J} {L:List (bs P)} {aU:List (fG P)} {Q:Exit->Act->ax->Prop} (hw:dA B W az ro post n env L aU t) (av:env.length=n) (ho:gg env)
  (ar:nj cf B W az post cs aU Q env) {M:Mem} (bt:bI B (aG W) az M (db L)) {a:Act} {w:ax} (ah:mm cf B W M env s a w):dT.lg P Q a w:=by
 unfold KK at h;cases aw:zX s with
 |false=>rw[aw] at h;cases h
 |true=>
  rw[aw,bD] at h;exact KP fk h hw av ho ar (n7.marks _ _ _) (n8.nil _ _) bt λaf=>D2 (GK n _) (P6 aw af) ah
theorem P' {a b:Option bZ} {f:bZ->bZ->bZ} {t:bZ} (h:two a b f=some t):∃x y,a=some x/\b=some y/\t=f x y:=by
 unfold two at h;split at h
 ·split at h
  ·cases h;exact⟨_,_,rfl,rfl,rfl⟩
  ·cases h
 ·cases h
omit [Lib P] in
theorem P_ {ro:List (jc P)} (dK:∀M,pE (aG W) az M->hi ro M) {G:jD} (fk:pH cf B W az ro post G) {n:Nat} {cs:List jj} {dT:jn} {eu:Nat} {sl:aF} {aZ:List bu} {F:j5} {T:kc} {go:j5->Option bY} {x:gd×J×Nat×Bool} {t:bZ} (h:Gy P G n cs dT eu sl aZ F T go x=some t) (nC:zY eu (b3 sl aZ) sl aZ)
  {hV dc:List J} {L:List (bs P)} {aU:List (fG P)} {Q:Exit->Act->ax->Prop} (hw:dA B W az ro post n (dc++hV) L aU t) (av:(dc++hV).length=n) (e_:hV.length=eu) (ho:gg (dc++hV)) (ar:nj cf B W az post cs aU Q hV) (dh:n7 B W az L (dc++hV) F) (eA:n8 B W az L (dc++hV) T)
  (M:Mem) (bt:bI B (aG W) az M (db L)) (a:Act) (w:ax) (ah:mm cf B W M hV (b3 sl aZ) a w):dT.lg P Q a w:=by
 obtain⟨f,r,m,b⟩:=x;unfold Gy at h;simp only at h;cases hu:ss.vQ n f with
 |false=>rw[hu] at h;cases h
 |true=>
  rw[hu,bD] at h;cases b with
  |true=>
   rw[bD] at h;obtain⟨dg,k2,e1,e2,rfl⟩:=P' h;cases hw with
   |s b aQ ad ag=>
    have om:∀M,bI B (aG W) az M (db L)-> @aT (cY M (dc++hV)) P (f,.bool b):=λM bt=>aQ M bt (dK M (Gm bt))
    cases b with
    |true=>exact fk n cs dT eu sl aZ _ T _ dg e1 nC hV dc L aU Q (ad rfl) av e_ ho ar (dh.snoc av om hu rfl) eA M bt a w ah
    |false=>exact fk n cs dT eu sl aZ _ T _ k2 e2 nC hV dc L aU Q (ag rfl) av e_ ho ar (dh.snoc av om hu rfl) eA M bt a w ah
  |false=>
   rw[eB] at h;cases ao:kN (n+m) r with
   |false=>rw[ao] at h;cases h
   |true=>
    rw[ao,bD] at h;obtain⟨k,e,rfl⟩:=Option.map_eq_some_iff.1 h;cases hw with
    |o vs hm ad aQ al=>
     have hl:(vs.reverse++(dc++hV)).length=n+m:=by simp only [List.length_append,List.length_reverse] at av ⊢;omega
     rw[<-List.append_assoc] at al hl;have ah_:ss.vQ (n+m) f=true:=ah7 (Nat.le_add_right n m) hu;refine fk (n+m) cs dT eu sl aZ _ T _ k e nC hV (vs.reverse++dc) L aU Q al hl e_ ?_ ar ?_ ?_ M bt a w ah
     ·rw[List.append_assoc];exact tk (qM ad) ho
     ·refine n7.snoc hl ?_ (λM bt=> ?_) ah_ ao
      ·rw[List.append_assoc];exact dh.ext _
      ·rw[List.append_assoc];exact aQ M bt (dK M (Gm bt))
     ·rw[List.append_assoc];exact eA.ext _
omit [Lib P] in
theorem Qa {ro:List (jc P)} (dK:∀M,pE (aG W) az M->hi ro M) {G:jD} (fk:pH cf B W az ro post G) {n:Nat} {cs:List jj} {dT:jn} {eu:Nat} {sl:aF} {aZ:List bu} {F:j5} {T:kc} {go:kc->Option bY} {x:FuncId×List J×J×Nat×Bool} {t:bZ} (h:Gz G n cs dT eu sl aZ F T go x=some t) (nC:zY eu (b3 sl aZ) sl aZ)
  {hV dc:List J} {L:List (bs P)} {aU:List (fG P)} {Q:Exit->Act->ax->Prop} (hw:dA B W az ro post n (dc++hV) L aU t) (av:(dc++hV).length=n) (e_:hV.length=eu) (ho:gg (dc++hV)) (ar:nj cf B W az post cs aU Q hV) (dh:n7 B W az L (dc++hV) F) (eA:n8 B W az L (dc++hV) T)
  (M:Mem) (bt:bI B (aG W) az M (db L)) (a:Act) (w:ax) (ah:mm cf B W M hV (b3 sl aZ) a w):dT.lg P Q a w:=by
 obtain⟨f,args,r,m,b⟩:=x;unfold Gz at h;simp only at h;cases hu:o5 n args&&dL args with
 |false=>rw[hu] at h;cases h
 |true=>
  rw[hu,bD] at h;simp only [c7] at hu;obtain⟨hu,hp⟩:=hu;cases b with
  |true=>
   rw[bD] at h;obtain⟨dg,k2,e1,e2,rfl⟩:=P' h;cases hw with
   |cs b A3 ad ag=>
    have om:∀M,bI B (aG W) az M (db L)-> @i_ (cY M (dc++hV)) P (f,args,.bool b):=λM bt=>Yh (vs:=[]) (m:=0) dK av ho ho rfl hu hp rfl A3 M bt
    cases b with
    |true=>exact fk n cs dT eu sl aZ F _ _ dg e1 nC hV dc L aU Q (ad rfl) av e_ ho ar dh (eA.snoc av om hu rfl) M bt a w ah
    |false=>exact fk n cs dT eu sl aZ F _ _ k2 e2 nC hV dc L aU Q (ag rfl) av e_ ho ar dh (eA.snoc av om hu rfl) M bt a w ah
  |false=>
   rw[eB] at h;cases ao:kN (n+m) r&&aM r with
   |false=>rw[ao] at h;cases h
   |true=>
    rw[ao,bD] at h;simp only [c7] at ao;obtain⟨ao,AM⟩:=ao;obtain⟨k,e,rfl⟩:=Option.map_eq_some_iff.1 h;cases hw with
    |c vs hm ad A3 al=>
     have hl:(vs.reverse++(dc++hV)).length=n+m:=by simp only [List.length_append,List.length_reverse] at av ⊢;omega
     have l9:gg (vs.reverse++(dc++hV)):=tk (qM ad) ho;rw[<-List.append_assoc] at al hl;refine fk (n+m) cs dT eu sl aZ F _ _ k e nC hV (vs.reverse++dc) L aU Q al hl e_ ?_ ar ?_ ?_ M bt a w ah
     ·rw[List.append_assoc];exact l9
     ·rw[List.append_assoc];exact dh.ext _
     ·refine n8.snoc hl ?_ (λM bt=> ?_) (DU (Nat.le_add_right n m) _ hu) ao
      ·rw[List.append_assoc];exact eA.ext _
      ·rw[List.append_assoc];exact Yh dK av l9 ho hm hu hp AM A3 M bt
theorem aia {ro:List (jc P)} {G:jD} (fk:pH cf B W az ro post G) {n:Nat} {cs:List jj} {x:k_} {s:b6} {t:bZ} (h:PL P cf G n cs x s=some t) {env:List J} {L:List (bs P)} {aU:List (fG P)} {Q:Exit->Act->ax->Prop} (hw:dA B W az ro post n env L aU t) (av:env.length=n) (ho:gg env)
  (ar:nj cf B W az post cs aU Q env) {M:Mem} (bt:bI B (aG W) az M (db L)) {a:Act} {w:ax} (ah:mm cf B W M env s a w):Q x.exit' a w:=by
 unfold PL at h;split at h
 ·split at h
  ·rename_i v aC
   cases h;cases ar;cases hw with
   |ret L' hL hp=>
    letI:=cY M env;letI:=gm;refine VJ aC (λw2 hl ai=> ?_) a w ah;refine⟨⟨_,L',?_,hp,(hL M bt).done ai⟩,hl⟩;rw[ml M ho av v]
  ·split at h
   ·rename_i t x xM
    cases hp:aM x with
    |false=>rw[hp] at h;cases h
    |true=>
     rw[hp,bD,cN] at h;subst h;cases ar;cases hw with
     |tn i hL aq ha aw aC ai L' eA aib=>
      letI:=cY M env;letI:=gm;obtain⟨st,e,c1⟩:=OE (R:=λe w=>KO W az post e w/\cg B W w) xM hp ((ml M ho av x).trans aq) (bt.box i (lY hL)) ha aw aC (ai _) (λw2 hl DP=>⟨⟨_,L',rfl,aib,(eA M bt).done DP⟩,hl⟩);cases e;exact c1 a w ah
   ·cases h
 ·rename_i c cs'
  cases ar with
  | @cons _ _ xg aoX aoY _ dc qQ R gE iz AL jA=>
    split at h
    ·split at h
     ·rename_i bL ig
      cases af:DY c.n (KF bL c.m c.n) bL&&ri c.aZ with
      |false=>rw[af] at h;cases h
      |true=>
       rw[af,bD,cN] at h;subst h;simp only [c7] at af;cases hw with
       |back GL=>exact jA M env L _ bL s a w bt ⟨dc,gE⟩ ho (by rw[av];exact GL) ig af.1 af.2 ah
     ·cases h
    ·rename_i aq
     obtain⟨k,e,rfl⟩:=Option.map_eq_some_iff.1 h;cases hw with
     |gD al=>
      have:=Yi fk e al av ho AL bt ah;exact Jo (λh=>aq h) this _
theorem aic {ro:List (jc P)} {G:jD} (fk:pH cf B W az ro post G) {n:Nat} {cs:List jj} {body:Code} {s:b6} {ks:List fi} {t:bZ} (h:PM P cf G n cs body s ks=some t) {env:List J} {L:List (bs P)} {aU:List (fG P)} {Q:Exit->Act->ax->Prop} (hw:dA B W az ro post n env L aU t) (av:env.length=n) (ho:gg env)
  (ar:nj cf B W az post cs aU Q env) {M:Mem} (bt:bI B (aG W) az M (db L)) {a:Act} {w:ax} (ah:mm cf B W M env s a w):(Code.loop body).wpIn (Fr none) 0 P (dY P ks Q) a w:=by
 unfold PM at h;split at h
 ·rename_i m hm
  exact wpIn_loop_rounds m (Yi fk h hw av ho ar bt ah)
 split at h
 ·rename_i qc o6 vs sZ
  split at h
  ·rename_i bL ig
   cases af:DY n vs bL&&ri o6 with
   |false=>rw[af] at h;cases h
   |true=>
    rw[af,bD] at h;simp only [c7] at af;obtain⟨k,e,rfl⟩:=Option.map_eq_some_iff.1 h;cases hw with
    |loop da bp b9 gw iR mc hm ad h0 hL bf al=>
     letI:=gm;refine Vy (N:=cf.N) (B:=B) (w0:=W) (X:=Mem×da) (λx=>cY x.1 ((bp x.2).reverse++env)) (b3 qc o6) (λx=>bI B (aG W) az x.1 (db (b9 x.2))/\gw x.2) (λx=>iR x.2) (λx aq dZ w1 lS=> ?_) (M,mc) ⟨hL M bt,bf⟩ ?_
     ·obtain⟨nf,u⟩:=x
      obtain⟨sj,iH⟩:=aq;refine uN (dT:= .k .normal [.mW body]) (cs:=⟨qc,o6,n,vs.length,ks⟩::cs) (Q:=Exit.then (λa7 w'=>∃x':Mem×da,(bI B (aG W) az x'.1 (db (b9 x'.2))/\gw x'.2)/\iR x'.2<iR u/\mm cf B W x'.1 ((bp x'.2).reverse++env) (b3 qc o6) a7 w') (dY P ks Q)) fk e (al u iH) (by simp [av,hm,Nat.add_comm]) (tk (qM (ad u)) ho) ?_ sj lS;refine .cons (dc:=(bp u).reverse) (qQ:=env) rfl av (ar.ext _) ?_;intro ng nM km Yj aid s2 a2 w2 Qb BJ AF GL dd Qc jl hS;obtain⟨n2,BJ⟩:=BJ;obtain⟨u',Qd,Bs,mA,eA⟩:=GL;exact⟨(ng,u'),⟨eA ng Qb,Qd⟩,Bs,@Here.move gm (cY ng nM) (cY ng ((bp u').reverse++env)) _ _ _ _ _ _ _ _ _ dd (P7 BJ av AF (ad u') mA.symm Qc) (λ_ _ h=>h) (Nat.zero_le _) (gX jl) hS⟩
     ·exact @Here.move gm (cY M env) (cY M ((bp mc).reverse++env)) _ _ _ _ _ _ _ _ _ ig (P7 (n2:=[]) rfl av ho (ad mc) (by rw[av];exact h0.symm) af.1) (λ_ _ h=>h) (Nat.zero_le _) (gX af.2) ah
  ·cases h
 ·cases h
theorem GM {M:Mem} {n:Nat} {env:List J} {v u:J} {s:b6} {sl:aF} {aZ:List bu} {a:Act} {w:ax} (aC: @aJ (cY M env) v= @aJ (cY M env) u) (h:uL n v u s sl aZ=true) (ah:mm cf B W M env s a w):mm cf B W M env (b3 sl aZ) a w:=by
 unfold uL at h;simp only [c7] at h;obtain⟨ad,ag⟩:=h;split at ad
 ·rename_i bL ho
  exact @Here.move gm (cY M env) (cY M env) _ _ _ _ _ _ _ _ _ ho (ah3 (GK n _) aC ad) (λ_ _ h=>h) (Nat.zero_le _) (gX ag) ah
 ·cases ad
theorem Qe {ro:List (jc P)} {G:jD} (fk:pH cf B W az ro post G) {n:Nat} {cs:List jj} {v:J} {s:b6} {iB je:jn} {t:bZ} (h:GG P cf G n cs v s iB je=some t) {env:List J} {L:List (bs P)} {aU:List (fG P)} {Q:Exit->Act->ax->Prop} (hw:dA B W az ro post n env L aU t) (av:env.length=n) (ho:gg env)
  (ar:nj cf B W az post cs aU Q env) {M:Mem} (bt:bI B (aG W) az M (db L)) {a:Act} {w:ax} (ah:mm cf B W M env s a w):∃b,@aJ (cY M env) v= .bool b/\(bif b then iB else je).lg P Q a w:=by
 unfold GG at h;split at h
 ·rename_i b hM
  cases af:uL n v (.bool b) s (kz n v (.bool b) s).1 (kz n v (.bool b) s).2 with
  |false=>rw[af] at h;cases h
  |true=>
   rw[af,bD] at h;obtain⟨k,e,rfl⟩:=Option.map_eq_some_iff.1 h;have key:∀b',ex env n v= .bool b'->b'=b->dA B W az ro post n env L aU k->∃b,@aJ (cY M env) v= .bool b/\(bif b then iB else je).lg P Q a w:=λb' aq ef al=>by
    subst ef;have ai: @aJ (cY M env) v= .bool b':=(ml M ho av v).trans aq;exact⟨b',ai,uN fk e al av ho ar bt (GM (by rw[ai];rfl) af ah)⟩
   cases b with
   |true=>
    rw[bD] at hw;cases hw with
    |fR b aq ad ag=>
     cases b with
     |true=>exact key _ aq rfl (ad rfl)
     |false=>cases ag rfl
   |false=>
    rw[eB] at hw;cases hw with
    |fR b aq ad ag=>
     cases b with
     |true=>cases ad rfl
     |false=>exact key _ aq rfl (ag rfl)
 cases af:uL n v (.bool true) s (kz n v (.bool true) s).1 (kz n v (.bool true) s).2&&uL n v (.bool false) s (kz n v (.bool false) s).1 (kz n v (.bool false) s).2 with
 |false=>rw[af] at h;cases h
 |true=>
  rw[af,bD] at h;simp only [c7] at af;obtain⟨dg,k2,e1,e2,rfl⟩:=P' h;cases hw with
  |fR b aq ad ag=>
   have ai: @aJ (cY M env) v= .bool b:=(ml M ho av v).trans aq;refine⟨b,ai,?_⟩;cases b with
   |true=>exact uN fk e1 (ad rfl) av ho ar bt (GM (by rw[ai];rfl) af.1 ah)
   |false=>exact uN fk e2 (ag rfl) av ho ar bt (GM (by rw[ai];rfl) af.2 ah)
theorem aie {ro:List (jc P)} {G:jD} (fk:pH cf B W az ro post G) {n:Nat} {cs:List jj} {v:J} {s:b6} {x y:Code} {ks:List fi} {qc:aF} {o6:List bu} {m:Nat} {t:bZ} (h:PS P cf G n cs v s x y ks qc o6 m=some t) {env:List J} {L:List (bs P)} {aU:List (fG P)} {Q:Exit->Act->ax->Prop} (hw:dA B W az ro post n env L aU t) (av:env.length=n) (ho:gg env)
  (ar:nj cf B W az post cs aU Q env) {M:Mem} (bt:bI B (aG W) az M (db L)) {a:Act} {w:ax} (ah:mm cf B W M env s a w):∃b,@aJ (cY M env) v= .bool b/\(if b then x else y).wpIn (Fr none) 0 P (dY P ks Q) a w:=by
 unfold PS at h;cases af:uL n v (.bool true) s (kz n v (.bool true) s).1 (kz n v (.bool true) s).2&&uL n v (.bool false) s (kz n v (.bool false) s).1 (kz n v (.bool false) s).2 with
 |false=>rw[af] at h;cases h
 |true=>
  rw[af,bD] at h;simp only [c7] at af;split at h
  ·rename_i dg e1
   split at h
   ·rename_i k2 e2
    obtain⟨k,e3,rfl⟩:=Option.map_eq_some_iff.1 h;cases hw with
    |vP b aq da bp b9 gw hm Is ad ag al=>
     have ai: @aJ (cY M env) v= .bool b:=(ml M ho av v).trans aq;refine⟨b,ai,?_⟩
     let R:Act->ax->Prop:=λa7 w'=>∃x':Mem×da,(bI B (aG W) az x'.1 (db (b9 x'.2))/\gw x'.2)/\mm cf B W x'.1 ((bp x'.2).reverse++env) (b3 qc o6) a7 w'
     have Yk:nj cf B W az post (⟨qc,o6,n,m,ks⟩::cs) ((λcL L'=>∃u',gw u'/\cL=bp u'/\pG B W az L' (b9 u'))::aU) (Exit.then R (dY P ks Q)) env:=by
      refine .cons (dc:=[]) (qQ:=env) rfl av ar ?_;intro ng nM km Yj aid s2 a2 w2 Qb BJ AF GL dd Qc jl hS;obtain⟨n2,BJ⟩:=BJ;obtain⟨u',Qd,mA,eA⟩:=GL;exact⟨(ng,u'),⟨eA ng Qb,Qd⟩,@Here.move gm (cY ng nM) (cY ng ((bp u').reverse++env)) _ _ _ _ _ _ _ _ _ dd (P7 BJ av AF (Is u') mA.symm Qc) (λ_ _ h=>h) (Nat.zero_le _) (gX jl) hS⟩
     have fW:∀e a7 w',Exit.then R (dY P ks Q) e a7 w'->dY P ks Q e a7 w':=λe a7 w' hp=>by
      cases e with
      |normal=>
       obtain⟨⟨nf,u⟩,⟨sj,iH⟩,lS⟩:=hp;exact uN (dT:= .k .normal ks) fk e3 (al u iH) (by simp [av,hm,Nat.add_comm]) (tk (qM (Is u)) ho) (ar.ext _) sj lS
      |_=>exact hp
     cases b with
     |true=>exact wpIn_mono (uN (dT:= .k .normal [.mW x]) fk e1 (ad rfl) av ho Yk bt (GM (by rw[ai];rfl) af.1 ah)) fW
     |false=>exact wpIn_mono (uN (dT:= .k .normal [.mW y]) fk e2 (ag rfl) av ho Yk bt (GM (by rw[ai];rfl) af.2 ah)) fW
   ·cases h
  ·cases h
theorem Yl {M:Mem} {env:List J} {s:b6} {a:Act} {w:ax} {c:Operand} (hp:aM (dH .nil s.sl c)=true) (ah:mm cf B W M env s a w):a.eval c= @aJ (cY M env) (dH .nil s.sl c):=by
 letI:=cY M env;obtain⟨⟨φ,ds,ad,ag,ay,bG,_⟩,cE,cR⟩:=ah;exact aD.ji _ hp (gV (iG φ) ag.get c)
end
end AE
namespace AE
variable {P:aR} [Lib P] {cf:jd} {B:Nat} {W:ax} {az:List cc} {post:J->List (bs P)->Prop} {ro:List (jc P)}
omit [Lib P] in
theorem xh {N n:Nat} {s:b6} {dst:Option Tmp} {r:J} {q:aF×List bu} (h:uM N n s dst r=some q):∃eb bL,cp s eb q.2=some bL/\oD n bL/\ri q.2=true/\gZ N eb dst r=some q.1/\Nat.blt n eZ=true:=by
 unfold uM at h;dsimp only at h;cases af:Nat.blt n eZ&&(zX s&&su n (zW n s).2) with
 |false=>rw[af] at h;cases h
 |true=>
  rw[af,bD] at h;simp only [c7] at af;obtain⟨aA,aw,af⟩:=af;obtain⟨bL,ho,ad,ag⟩:=P6 aw af;split at h
  ·rename_i sl hp
   cases h;exact⟨_,bL,ho,ad,ag,hp,aA⟩
  ·cases h
theorem Ym (M M':Mem) {env:List J} {n:Nat} (av:env.length=n):n5 n (cY M env) (cY M' env):=uJ M M' (dc:=[]) av
theorem uO {M:Mem} {n:Nat} {env:List J} {v:J} (aA:Nat.blt n eZ=true) (av:env.length=n) (ho:gg env) (ad:oZ v=v): @aJ (cY M (v::env)) (ak n)=v:=by
 rw[ml M (env:=v::env) (n:=n+1) ⟨ad,ho⟩ (by simp [av])];show (bif Nat.beq 0 0 then (bif Nat.blt n eZ then look (v::env) (n+1) n else .pointer (some ⟨n-eZ,0,none⟩)) else .complex .f64 n 0)=v;rw[show Nat.beq 0 0=true from rfl,bD,aA,bD];unfold look;rw[show Nat.beq (n+1-1) n=true by rw[Nat.add_sub_cancel];exact Nat.beq_refl n,bD]
omit [Lib P] in
theorem vV (L:List (bs P)) (i:Nat) (r:bs P):db (L.set i r)=(db L).set i r.res:=List.map_set
structure qd (cf:jd) (B:Nat) (W:ax) (az:List cc) (ro:List (jc P)) (post:J->List (bs P)->Prop) (NX:Nat->aF->List bu->Option bZ) (o:Option bY) (n:Nat) (env:List J) (L:List (bs P)) (aU:List (fG P)) (Q:Exit->Act->ax->Prop) (M:Mem):Prop where
 dK:∀M,pE (aG W) az M->hi ro M
 av:env.length=n
 ho:gg env
 bt:bI B (aG W) az M (db L)
 cont:∀{m:Nat} {sl:aF} {aZ:List bu} {k:bZ} {dc:List J} {L':List (bs P)} {M':Mem} {a:Act} {w:ax},NX (n+m) sl aZ=some k->dA B W az ro post (n+m) (dc++env) L' aU k->dc.length=m->gg dc->bI B (aG W) az M' (db L')->mm cf B W M' (dc++env) (b3 sl aZ) a w->wpListIn (Fr none) 0 P (kI o) (dY P (gA o) Q) (kH o) a w
section
variable {NX:Nat->aF->List bu->Option bZ} {n:Nat} {env:List J} {L:List (bs P)} {aU:List (fG P)} {Q:Exit->Act->ax->Prop} {M:Mem} {o:Option bY}
omit [Lib P] in
theorem qd.rest (H:qd cf B W az ro post NX o n env L aU Q M) {m:Nat} {sl:aF} {aZ:List bu} {k:bZ} (h:NX (n+m) sl aZ=some k) {dc:List J} {L':List (bs P)} (hw:dA B W az ro post (n+m) (dc++env) L' aU k) (hm:dc.length=m) (ad:gg dc) {M':Mem} (qH:bI B (aG W) az M' (db L')) {a:Act} {w:ax} (ah:mm cf B W M' (dc++env) (b3 sl aZ) a w):
 wpListIn (Fr none) 0 P (kI o) (dY P (gA o) Q) (kH o) a w:=H.cont h hw hm ad qH ah
omit [Lib P] in
theorem aif (H:qd cf B W az ro post NX o n env L aU Q M) {e:lh} (he:Pu cf n o=some e) {k:bZ} (h:NX (n+e.2.2.2) e.2.1 e.2.2.1=some k) (hw:dA B W az ro post n env L aU (e.1 k)): @fy (cY M env) gm P cf.N B W Q o:=by
 unfold Pu at he;split at he
 ·rename_i t p x c1
  cases af:aM p&&aM x with
  |false=>rw[af] at he;cases he
  |true=>
   rw[af,bD] at he;simp only [c7] at af;obtain⟨hp,aq⟩:=af;obtain⟨q,bb,rfl⟩:=Option.map_eq_some_iff.1 he;obtain⟨eb,bL,dd,ig,jl,eL,_⟩:=xh bb;letI:=gm;have hm:∀M',fP (cY M env) (cY M' env) bL:=λM'=>GI (Ym M M' H.av) ig
   have hB:=λv=>ml M H.ho H.av v
   cases hw with
   |P2 i hL BK BL hj hu ad cr al=>
    refine Wl (bj:=env.reverse) rfl c1 cr dd eL hp aq ((hB p).trans BK) ((hB x).trans BL) hu ad (H.bt.box i (lY hL)) hj hm (λM' lb cv a7 w ah=> ?_) (Nat.zero_le _) (gX jl);refine H.rest (m:=0) (dc:=[]) h al rfl trivial (M':=M') ?_ ah;rw[vV];exact H.bt.lV i (lY hL) (vC lb cv)
   |X8 i hL BK BL hj hu ad cr al=>
    refine Oy (bj:=env.reverse) rfl c1 cr dd eL hp aq ((hB p).trans BK) ((hB x).trans BL) hu ad (H.bt.box i (lY hL)) hj hm (λM' lb cv a7 w ah=> ?_) (Nat.zero_le _) (gX jl);refine H.rest (m:=0) (dc:=[]) h al rfl trivial (M':=M') ?_ ah;rw[vV];exact H.bt.lV i (lY hL) (vC lb cv)
   | @X9 _ _ _ _ _ _ _ _ d K v l i j y u hL BK ai BL hj hu ad bE cr al=>
     refine Wt (bj:=env.reverse) rfl c1 cr K.len hj bE dd eL hp aq ((hB p).trans BK) ((hB x).trans BL) hu ad (H.bt.arr d (lY hL)) ai hm (λM' lb cv a7 w ah=> ?_) (Nat.zero_le _) (gX jl);refine H.rest (m:=0) (dc:=[]) h al rfl trivial (M':=M') ?_ ah;rw[vV];exact H.bt.lV d (lY hL) (Bo lb cv)
   | @ahW _ _ _ _ _ _ _ _ d K v l i y hL BK ai BL cr al=>
     refine afi (bj:=env.reverse) rfl c1 cr K.len K.one dd eL hp aq ((hB p).trans BK) ((hB x).trans BL) (H.bt.arr d (lY hL)) ai hm (λM' lb cv a7 w ah=> ?_) (Nat.zero_le _) (gX jl);refine H.rest (m:=0) (dc:=[]) h al rfl trivial (M':=M') ?_ ah;rw[vV];exact H.bt.lV d (lY hL) (Bo lb cv)
 ·cases he
omit [Lib P] in
theorem xi (H:qd cf B W az ro post NX o n env L aU Q M) {bL:eE} (ig:oD n bL) (M':Mem) (v:J):fP (cY M env) (cY M' (v::env)) bL:=GI (uJ M M' (dc:=[v]) H.av) ig
omit [Lib P] in
theorem aih (H:qd cf B W az ro post NX o n env L aU Q M) {e:lh} (he:Pw P cf n o=some e) {k:bZ} (h:NX (n+e.2.2.2) e.2.1 e.2.2.1=some k) (hw:dA B W az ro post n env L aU (e.1 k)): @fy (cY M env) gm P cf.N B W Q o:=by
 unfold Pw at he;split at he
 ·rename_i vs x tY
  cases hp:aM vs with
  |false=>rw[hp] at he;cases he
  |true=>
   rw[hp,bD] at he;split at he
   ·rename_i c fV
    cases zs:dL c with
    |false=>rw[zs] at he;cases he
    |true=>
     rw[zs,bD] at he;obtain⟨q,bb,rfl⟩:=Option.map_eq_some_iff.1 he;obtain⟨eb,bL,dd,ig,jl,eL,aA⟩:=xh bb;letI:=gm;have hB:=λv=>ml M H.ho H.av v
     have KQ:=λv=>tl M H.ho H.av v
     have cr:∀K:js P,P.underlying (yB o)=some (.slice K.e)->Pv P (yB o)=K.k:=λK aL=>by
      unfold Pv elemOf;rw[aL];simp only;rw[K.size]
     cases hw with
     | @X' _ _ _ _ _ _ _ _ d K v l lx hL aw aq aL iS af al=>
       obtain⟨KR,z,ai,bU,vW,jU,mf⟩:=K.info;refine VX (l':=l++lx) (bj:=λa c=>(.slice a (l++lx).length c::env).reverse) (eO:=ak n) rfl tY aL ai bU vW jU mf K.pos K.len K.one dd eL rfl (eP v)
        (Fw hp ((hB vs).trans aw) (H.bt.arr d (lY hL))) (Dv (by rw[cr K aL] at fV;exact fV) K.len K.pos ((KQ c).trans aq)) iS af (λM' a c=>xi H ig M' _) (λM' a c=>uO aA H.av H.ho rfl)
        (λM' a c lb cv eA aQ a7 w ah=> ?_) (Nat.zero_le _) (gX jl)
       refine H.rest (m:=1) (dc:=[.slice a (l++lx).length c]) h (al a c) rfl ⟨rfl,trivial⟩ (M':=M') ?_ ah;rw[vV];exact H.bt.lV d (lY hL) (Ox lb cv aQ)
     | @ahX _ _ _ _ _ _ _ _ d K v l lx hL aw aq aL iS af al=>
       obtain⟨KR,z,ai,bU,vW,jU,mf⟩:=K.info;refine JX (l':=l++lx) (bj:=λa c=>(.slice a (l++lx).length c::env).reverse) (eO:=ak n) rfl tY aL ai bU vW jU mf K.pos K.len K.one dd eL rfl (eP v)
        (JY hp ((hB vs).trans aw) (H.bt.iT d (lY hL))) (Dv (by rw[cr K aL] at fV;exact fV) K.len K.pos ((KQ c).trans aq)) iS af (λM' a c=>xi H ig M' _) (λM' a c=>uO aA H.av H.ho rfl)
        (λM' a c lb cv aQ a7 w ah=> ?_) (Nat.zero_le _) (gX jl)
       refine H.rest (m:=1) (dc:=[.slice a (l++lx).length c]) h (al a c) rfl ⟨rfl,trivial⟩ (M':=M') ?_ ah;rw[vV];exact H.bt.lV d (lY hL) (FI lb cv aQ)
   ·cases he
 ·cases he
omit [Lib P] in
theorem aii (H:qd cf B W az ro post NX o n env L aU Q M) {e:lh} (he:Px cf n o=some e) {k:bZ} (h:NX (n+e.2.2.2) e.2.1 e.2.2.1=some k) (hw:dA B W az ro post n env L aU (e.1 k)): @fy (cY M env) gm P cf.N B W Q o:=by
 unfold Px at he;split at he
 ·rename_i vs x tY
  cases af:aM vs&&aM x with
  |false=>rw[af] at he;cases he
  |true=>
   rw[af,bD] at he;simp only [c7] at af;obtain⟨hp,lf⟩:=af;obtain⟨q,bb,rfl⟩:=Option.map_eq_some_iff.1 he;obtain⟨eb,bL,dd,ig,jl,eL,aA⟩:=xh bb;letI:=gm;have hB:=λv=>ml M H.ho H.av v
   cases hw with
   | @ahY _ _ _ _ _ _ _ _ d K v l lG lx hL aw aq aL jV iS af al=>
     obtain⟨KR,z,ai,bU,vW,jU,mf⟩:=K.info;refine VX (l':=l++lx) (bj:=λa c=>(.slice a (l++lx).length c::env).reverse) (eO:=ak n) rfl tY aL ai bU vW jU mf K.pos K.len K.one dd eL rfl (eP v)
      (Fw hp ((hB vs).trans aw) (H.bt.arr d (lY hL))) (zE lf ((hB x).trans aq) λw hw=>(jV M H.bt (H.dK M (Gm H.bt))).reads K.len hw) iS af (λM' a c=>xi H ig M' _) (λM' a c=>uO aA H.av H.ho rfl)
      (λM' a c lb cv eA aQ a7 w ah=> ?_) (Nat.zero_le _) (gX jl)
     refine H.rest (m:=1) (dc:=[.slice a (l++lx).length c]) h (al a c) rfl ⟨rfl,trivial⟩ (M':=M') ?_ ah;rw[vV];exact H.bt.lV d (lY hL) (Ox lb cv aQ)
   | @X_ _ _ _ _ _ _ _ _ d K v l lG lx hL aw aq aL jV iS af al=>
     obtain⟨KR,z,ai,bU,vW,jU,mf⟩:=K.info;refine JX (l':=l++lx) (bj:=λa c=>(.slice a (l++lx).length c::env).reverse) (eO:=ak n) rfl tY aL ai bU vW jU mf K.pos K.len K.one dd eL rfl (eP v)
      (JY hp ((hB vs).trans aw) (H.bt.iT d (lY hL))) (zE lf ((hB x).trans aq) λw hw=>(jV M H.bt (H.dK M (Gm H.bt))).reads K.len hw) iS af (λM' a c=>xi H ig M' _) (λM' a c=>uO aA H.av H.ho rfl)
      (λM' a c lb cv aQ a7 w ah=> ?_) (Nat.zero_le _) (gX jl)
     refine H.rest (m:=1) (dc:=[.slice a (l++lx).length c]) h (al a c) rfl ⟨rfl,trivial⟩ (M':=M') ?_ ah;rw[vV];exact H.bt.lV d (lY hL) (FI lb cv aQ)
 ·cases he
omit [Lib P] in
theorem D3 (L:List (bs P)) (r:bs P):db (L++[r])=db L++[r.res]:=List.map_append
omit [Lib P] in
theorem aij (H:qd cf B W az ro post NX o n env L aU Q M) {e:lh} (he:Py cf n o=some e) {k:bZ} (h:NX (n+e.2.2.2) e.2.1 e.2.2.1=some k) (hw:dA B W az ro post n env L aU (e.1 k)): @fy (cY M env) gm P cf.N B W Q o:=by
 unfold Py at he;split at he
 ·rename_i t x c1
  cases lf:aM x with
  |false=>rw[lf] at he;cases he
  |true=>
   rw[lf,bD] at he;obtain⟨q,bb,rfl⟩:=Option.map_eq_some_iff.1 he;obtain⟨eb,bL,dd,ig,jl,eL,aA⟩:=xh bb;letI:=gm;have hB:=λv=>ml M H.ho H.av v
   cases hw with
   | @mk _ _ _ _ _ _ _ K z m aL bU aq iS af ar al=>
     obtain⟨KR,Yn,ai,bU,vW,jU,qu⟩:=bU;refine Wy (l':=List.replicate m z) (bj:=λa c=>(.slice a (List.replicate m z).length c::env).reverse) (eO:=ak n) rfl c1 aL ai bU vW jU qu K.len dd eL rfl lf ((hB x).trans aq) iS af ar (λM' a c=>xi H ig M' _) (λM' a c=>uO aA H.av H.ho rfl)
      (λM' a c lb cv aQ a7 w ah=> ?_) (Nat.zero_le _) (gX jl)
     refine H.rest (m:=1) (dc:=[.slice a (List.replicate m z).length c]) h (al a c) rfl ⟨rfl,trivial⟩ (M':=M') ?_ ah;rw[D3];exact H.bt.new (JT lb cv aQ)
 ·cases he
omit [Lib P] in
theorem aik (H:qd cf B W az ro post NX o n env L aU Q M) {e:lh} (he:Pz cf n o=some e) {k:bZ} (h:NX (n+e.2.2.2) e.2.1 e.2.2.1=some k) (hw:dA B W az ro post n env L aU (e.1 k)): @fy (cY M env) gm P cf.N B W Q o:=by
 unfold Pz at he;split at he
 ·rename_i t x c1
  cases lf:aM x with
  |false=>rw[lf] at he;cases he
  |true=>
   rw[lf,bD] at he;obtain⟨q,bb,rfl⟩:=Option.map_eq_some_iff.1 he;obtain⟨eb,bL,dd,ig,jl,eL,aA⟩:=xh bb;letI:=gm;have hB:=λv=>ml M H.ho H.av v
   cases hw with
   | @lt _ _ _ _ _ _ _ K y u aL bU og aq hu al=>
     obtain⟨Yn,bU⟩:=bU;refine aga (l':=[y]) (bj:=λa c=>(.slice a [y].length c::env).reverse) (eO:=ak n) rfl c1 aL K.size bU K.pos og K.len dd eL rfl lf ((hB x).trans aq) hu (λM' a c=>xi H ig M' _) (λM' a c=>uO aA H.av H.ho rfl)
      (λM' a c lb cv aQ a7 w ah=> ?_) (Nat.zero_le _) (gX jl)
     refine H.rest (m:=1) (dc:=[.slice a [y].length c]) h (al a c) rfl ⟨rfl,trivial⟩ (M':=M') ?_ ah;rw[D3];exact H.bt.new (JT lb cv aQ)
 ·cases he
omit [Lib P] in
theorem ail (H:qd cf B W az ro post NX o n env L aU Q M) {e:lh} (he:PA cf n o=some e) {k:bZ} (h:NX (n+e.2.2.2) e.2.1 e.2.2.1=some k) (hw:dA B W az ro post n env L aU (e.1 k)): @fy (cY M env) gm P cf.N B W Q o:=by
 unfold PA at he;split at he
 ·rename_i t xs c1
  cases lf:dL xs with
  |false=>rw[lf] at he;cases he
  |true=>
   rw[lf,bD] at he;obtain⟨q,bb,rfl⟩:=Option.map_eq_some_iff.1 he;obtain⟨eb,bL,dd,ig,jl,eL,aA⟩:=xh bb;letI:=gm;cases hw with
   | @zU _ _ _ _ _ _ _ K l us aL bU og aq hu al=>
     obtain⟨Yn,bU⟩:=bU;refine ahB (bj:=λa c=>(.slice a l.length c::env).reverse) (eO:=ak n) c1 aL K.size bU K.pos og K.len dd eL rfl lf ((tl M H.ho H.av xs).trans aq) hu (λM' a c=>xi H ig M' _) (λM' a c=>uO aA H.av H.ho rfl)
      (λM' a c lb cv aQ a7 w ah=> ?_) (Nat.zero_le _) (gX jl)
     refine H.rest (m:=1) (dc:=[.slice a l.length c]) h (al a c) rfl ⟨rfl,trivial⟩ (M':=M') ?_ ah;rw[D3];exact H.bt.new (JT lb cv aQ)
 ·cases he
omit [Lib P] in
theorem aim (H:qd cf B W az ro post NX o n env L aU Q M) {e:lh} (he:PB cf n o=some e) {k:bZ} (h:NX (n+e.2.2.2) e.2.1 e.2.2.1=some k) (hw:dA B W az ro post n env L aU (e.1 k)): @fy (cY M env) gm P cf.N B W Q o:=by
 unfold PB at he;split at he
 ·rename_i vs x tY
  cases hp:aM vs with
  |false=>rw[hp] at he;cases he
  |true=>
   rw[hp,bD] at he;split at he
   ·rename_i c fV
    cases zs:dL c with
    |false=>rw[zs] at he;cases he
    |true=>
     rw[zs,bD] at he;obtain⟨q,bb,rfl⟩:=Option.map_eq_some_iff.1 he;obtain⟨eb,bL,dd,ig,jl,eL,_⟩:=xh bb;letI:=gm;have hm:∀M',fP (cY M env) (cY M' env) bL:=λM'=>GI (Ym M M' H.av) ig
     have hB:=λv=>ml M H.ho H.av v
     have KQ:=λv=>tl M H.ho H.av v
     cases hw with
     | @sd _ _ _ _ _ _ _ _ i g ty e cs us j m wM hL aw aq aL bU h0 sN ad hj al=>
       have hlen:us.length=c.length:=by rw[<-aq,XG]
       refine agh (bj:=env.reverse) (n:=us.length) rfl tY aL bU dd (by rw[hlen];exact eL) hp ((hB vs).trans aw) (Dv (enc:=λu:J=>[u]) fV (λ_=>rfl) cB ((KQ c).trans (aq.trans (by simp)))) rfl h0 sN ad (H.bt.box i (lY hL)) hj hm (λM' lb cv a7 w ah=> ?_) (Nat.zero_le _) (gX jl);refine H.rest (m:=0) (dc:=[]) h al rfl trivial (M':=M') ?_ ah;rw[vV];exact H.bt.lV i (lY hL) (vC lb cv)
   ·cases he
 ·cases he
omit [Lib P] in
theorem ain (H:qd cf B W az ro post NX o n env L aU Q M) {e:lh} (he:PC cf n o=some e) {k:bZ} (h:NX (n+e.2.2.2) e.2.1 e.2.2.1=some k) (hw:dA B W az ro post n env L aU (e.1 k)): @fy (cY M env) gm P cf.N B W Q o:=by
 unfold PC at he;split at he
 ·rename_i t x c1
  cases lf:aM x with
  |false=>rw[lf] at he;cases he
  |true=>
   rw[lf,bD] at he;obtain⟨q,bb,rfl⟩:=Option.map_eq_some_iff.1 he;obtain⟨eb,bL,dd,ig,jl,eL,aA⟩:=xh bb;letI:=gm;have hB:=λv=>ml M H.ho H.av v
   cases hw with
   | @tm _ _ _ _ _ _ _ u cs aq hu al=>
     refine w7 (bj:=λg=>(.pointer (some ⟨g,0,none⟩)::env).reverse) (eO:=ak n) c1 lf ((hB x).trans aq) hu dd eL rfl (λM' g=>xi H ig M' _) (λM' g=>uO aA H.av H.ho rfl)
      (λM' g GN lb cv a7 w ah=> ?_) (Nat.zero_le _) (gX jl)
     refine H.rest (m:=1) (dc:=[.pointer (some ⟨g,0,none⟩)]) h (al g) rfl ⟨rfl,trivial⟩ (M':=M') ?_ ah;rw[D3];exact H.bt.new (td lb GN cv)
 ·cases he
omit [Lib P] in
theorem aio (H:qd cf B W az ro post NX o n env L aU Q M) {e:lh} (he:PD cf n o=some e) {k:bZ} (h:NX (n+e.2.2.2) e.2.1 e.2.2.1=some k) (hw:dA B W az ro post n env L aU (e.1 k)): @fy (cY M env) gm P cf.N B W Q o:=by
 unfold PD at he;split at he
 ·rename_i t c1
  obtain⟨q,bb,rfl⟩:=Option.map_eq_some_iff.1 he;obtain⟨eb,bL,dd,ig,jl,eL,aA⟩:=xh bb;letI:=gm;cases hw with
  | @qN _ _ _ _ _ _ z cs bU hu al=>
    refine Oo (bj:=λg=>(.pointer (some ⟨g,0,none⟩)::env).reverse) (eO:=ak n) c1 bU dd eL rfl (λM' g=>xi H ig M' _) (λM' g=>uO aA H.av H.ho rfl)
     (λM' g yi GN aip cv a7 w ah=> ?_) (Nat.zero_le _) (gX jl)
    refine H.rest (m:=1) (dc:=[.pointer (some ⟨g,0,none⟩)]) h (al g) rfl ⟨rfl,trivial⟩ (M':=M') ?_ ah;rw[D3];exact H.bt.new (td (B:=B) (jo.mk' yi (by rw[aip,hu])) GN cv)
 ·cases he
theorem aiq (H:qd cf B W az ro post NX o n env L aU Q M) {e:lh} (he:PE P cf n o=some e) {k:bZ} (h:NX (n+e.2.2.2) e.2.1 e.2.2.1=some k) (hw:dA B W az ro post n env L aU (e.1 k)): @fy (cY M env) gm P cf.N B W Q o:=by
 unfold PE at he;split at he
 ·rename_i f args r m rP
  cases af:aM r&&(o5 n args&&dL args) with
  |false=>rw[af] at he;cases he
  |true=>
   rw[af,bD] at he;simp only [c7] at af;obtain⟨AM,aoZ,Qf⟩:=af;obtain⟨q,bb,rfl⟩:=Option.map_eq_some_iff.1 he;obtain⟨eb,bL,dd,ig,jl,eL,aA⟩:=xh bb;letI:=gm;have zi:∃bC,vx P o=some (f,args,bC):=by
    unfold Po at rP;split at rP
    ·rename_i ij gv bC zi
     cases af:dL gv&&o5 n gv with
     |false=>rw[af] at rP;cases rP
     |true=>
      rw[af,bD] at rP;split at rP
      ·cases rP;exact⟨bC,zi⟩
      ·cases rP
    ·cases rP
   obtain⟨bC,zi⟩:=zi;have JW:sb P o=(f,args,bC):=by unfold sb;rw[zi];rfl
   cases hw with
   | @call _ _ _ _ _ _ _ _ _ Y is ik vs km vU hl hm ad A3 al=>
     refine Wz (bj:=λy=>((vs y).reverse++env).reverse) (r:=λy=>ex ((vs y).reverse++env) (n+m) r) (w8:=λy=>db (km y++vU y)) H.bt is (λy=>db (km y)) (λy=>db (vU y)) (by rw[zi];rfl) (by rw[JW]) (by rw[JW]) dd eL (by rw[List.length_map];exact ik)
      (λM' y=>ml M' (tk (qM (ad y)) H.ho) (by have:=H.av;simp only [List.length_append,List.length_reverse,hm];omega) r) (λy=>List.map_append) (λw hw cT aI=> ?_) (λy M'=>GI (uJ M M' H.av) ig) (λM' y cM a7 w ah=> ?_) (λy=>by rw[List.length_map];exact hl y) Qf AM (Nat.zero_le _) (gX jl)
     ·rw[tl M H.ho H.av args]
      exact A3 w (Yg H.dK H.bt hw) cT aI
     ·refine H.rest (m:=m) (dc:=(vs y).reverse) h (al y) (by rw[List.length_reverse,hm]) (qM (ad y)) (M':=M') ?_ ah
      rw[show db (vT L is (km y)++vU y)=db (vT L is (km y))++db (vU y) from List.map_append,X7];exact cM
 ·cases he
theorem air {G:jD} {cs:List jj} (H:qd cf B W az ro post NX o n env L aU Q M) (fk:pH cf B W az ro post G) (ar:nj cf B W az post cs aU Q env) {op:Oper} {r:List Oper} {os:Array Oper} {s:b6} {ks:List fi} {e:lh} (he:PF n (some (.oper op r os s ks))=some e) {k:bZ} (h:ry P cf G (n+e.2.2.2) cs (.ops (op::r) os ks) e.2.1 e.2.2.1=some k) (hw:dA B W az ro post n env L aU (e.1 k)): @fy (cY M env) gm P cf.N B W Q (some (.oper op r os s ks)):=by
 unfold PF at he;split at he
 ·rename_i t b NL
  split at he
  ·rename_i c m cap Qf
   split at he
   ·rename_i bL ig
    cases af:Pp n bL&&(ri (tp (b7 (some (.oper op r os s ks))).A b 0)&&(dL c&&(Nat.blt n eZ&&(Nat.ble (tp (b7 (some (.oper op r os s ks))).A b 0).length b&&(Nat.blt 0 m&&Nat.ble m cap))))) with
    |false=>rw[af] at he;cases he
    |true=>
     rw[af,bD] at he;simp only [c7] at af;obtain⟨kh,lM,tV,wF,LS,LU,LV⟩:=af;obtain⟨sl,fg,rfl⟩:=Option.map_eq_some_iff.1 he;letI:=gm;cases hw with
     | @uK _ _ _ _ _ _ _ _ K xs aq hm al=>
       refine uD (q:=n) (bj:=λg=>(.slice (some ⟨g,0,none⟩) m cap::env).reverse) Qf K.len hm (Nat.blt_eq.mp LU) (Nat.ble_eq.mp LV) tV ((tl M H.ho H.av c).trans aq) (Nat.ble_eq.mp LS) ig (λM' g=>xi H (ahZ kh) M' _) fg (λg=> ?_) (λM' g lR yi GN cv JS=> ?_) (Nat.zero_le _) (gX lM)
       ·exact(@IQ (cY M (.slice (some ⟨g,0,none⟩) m cap::env)) n).symm.trans (uO wF H.av H.ho rfl)
       ·refine⟨_,rfl,λa w ah=> ?_⟩
        refine uN fk h (al g) (by simp [H.av]) ⟨rfl,H.ho⟩ (ar.ext [_]) (M:=M') ?_ ah;rw[D3];exact H.bt.new (sf lR GN cv JS)
   ·cases he
  ·cases he
 ·cases he
omit [Lib P] in
theorem yE {a b:Option lh} {e:lh} (h:vR a b=some e):a=some e\/b=some e:=by
 unfold vR at h;split at h
 ·exact .inl h
 ·exact .inr h
theorem Yo (H:qd cf B W az ro post NX o n env L aU Q M) {e:lh} (he:KG P cf n o=some e) {k:bZ} (h:NX (n+e.2.2.2) e.2.1 e.2.2.1=some k) (hw:dA B W az ro post n env L aU (e.1 k)): @fy (cY M env) gm P cf.N B W Q o:=by
 unfold KG at he;rcases yE he with he|he
 ·exact aif H he h hw
 rcases yE he with he|he
 ·exact aih H he h hw
 rcases yE he with he|he
 ·exact aii H he h hw
 rcases yE he with he|he
 ·exact aij H he h hw
 rcases yE he with he|he
 ·exact aik H he h hw
 rcases yE he with he|he
 ·exact ail H he h hw
 rcases yE he with he|he
 ·exact aim H he h hw
 rcases yE he with he|he
 ·exact ain H he h hw
 rcases yE he with he|he
 ·exact aio H he h hw
 ·exact aiq H he h hw
end
section
variable {G:jD} {n:Nat} {env:List J} {L:List (bs P)} {aU:List (fG P)} {cs:List jj} {Q:Exit->Act->ax->Prop} {M:Mem}
structure BM (cf:jd) (B:Nat) (W:ax) (az:List cc) (ro:List (jc P)) (post:J->List (bs P)->Prop) (G:jD) (n:Nat) (env:List J) (L:List (bs P)) (aU:List (fG P)) (cs:List jj) (Q:Exit->Act->ax->Prop) (M:Mem):Prop where
 dK:∀M,pE (aG W) az M->hi ro M
 fk:pH cf B W az ro post G
 av:env.length=n
 ho:gg env
 ar:nj cf B W az post cs aU Q env
 bt:bI B (aG W) az M (db L)
theorem BM.sr (H:BM cf B W az ro post G n env L aU cs Q M) (o:Option bY):qd cf B W az ro post (λga sl aZ=>ry P cf G ga cs (XU o) sl aZ) o n env L aU Q M where
 dK:=H.dK
 av:=H.av
 ho:=H.ho
 bt:=H.bt
 cont h hw hm ad qH ah:=uN H.fk h hw (by have:=H.av;simp only [List.length_append];omega) (tk ad H.ho) (H.ar.ext _) qH ah
theorem ais (H:BM cf B W az ro post G n env L aU cs Q M) {o:Option bY} {t:bZ} (h:PT P cf G n cs o=some t) (hw:dA B W az ro post n env L aU t): @fy (cY M env) gm P cf.N B W Q o:=by
 unfold PT at h;split at h
 ·rename_i py sl aZ m he
  obtain⟨k,al,rfl⟩:=Option.map_eq_some_iff.1 h;exact Yo (H.sr o) he al hw
 ·cases h
end
omit [Lib P] in
theorem Qg:∀(a b:bZ),kd a b=true->a=b:=by
 intro a
 induction a<;>intro b h<;>cases b<;>simp only [kd,c7,Bool.false_eq_true,PN,decide_eq_true_eq] at h
 case o.o cz _ _ _ _ _=>rw[MZ h.1,hJ _ _ h.2.1,cH h.2.2.1,h.2.2.2.1,cz _ h.2.2.2.2]
 case s.s sK sL _ _ _ _=>rw[MZ h.1,h.2.1,sK _ h.2.2.1,sL _ h.2.2.2]
 case c.c cz _ _ _ _ _=>rw[cH h.1,q6 _ _ h.2.1,hJ _ _ h.2.2.1,cH h.2.2.2.1,cz _ h.2.2.2.2]
 case cs.cs sK sL _ _ _ _=>rw[cH h.1,q6 _ _ h.2.1,sK _ h.2.2.1,sL _ h.2.2.2]
 case fR.fR sK sL _ _ _=>rw[hJ _ _ h.1,sK _ h.2.1,sL _ h.2.2]
 case vP.vP sK sL ait _ _ _ _ _=>rw[hJ _ _ h.1,sK _ h.2.1,sL _ h.2.2.1,cH h.2.2.2.1,ait _ h.2.2.2.2]
 case no.no=>rfl
 case zU.zU cz _ _ _=>rw[cH h.1,q6 _ _ h.2.1,cz _ h.2.2]
 case alt.alt sK sL _ _=>rw[sK _ h.1,sL _ h.2]
 case tn.tn=>rw[cH h.1,hJ _ _ h.2]
 case sd.sd cz _ _ _ _=>rw[cH h.1,hJ _ _ h.2.1,q6 _ _ h.2.2.1,cz _ h.2.2.2]
 case ret.ret=>rw[hJ _ _ h]
 case back.back=>rw[q6 _ _ h]
 case loop.loop cz _ _ _=>rw[q6 _ _ h.1,cH h.2.1,cz _ h.2.2]
 case gD.gD cz _=>rw[cz _ h]
 case st.st cz _ _ _ _=>rw[cH h.1,hJ _ _ h.2.1,hJ _ _ h.2.2.1,cz _ h.2.2.2]
 case yz.yz cz _ _ _ _=>rw[cH h.1,hJ _ _ h.2.1,q6 _ _ h.2.2.1,cz _ h.2.2.2]
 case xe.xe cz _ _ _ _=>rw[cH h.1,hJ _ _ h.2.1,hJ _ _ h.2.2.1,cz _ h.2.2.2]
 case mk.mk cz _ _ _=>rw[cH h.1,hJ _ _ h.2.1,cz _ h.2.2]
 case uK.uK cz _ _ _ _=>rw[q6 _ _ h.1,cH h.2.1,cH h.2.2.1,cz _ h.2.2.2]
 case lt.lt cz _ _ _=>rw[cH h.1,hJ _ _ h.2.1,cz _ h.2.2]
 case tm.tm cz _ _ _=>rw[cH h.1,hJ _ _ h.2.1,cz _ h.2.2]
 case qN.qN cz _ _=>rw[cH h.1,cz _ h.2]
 case call.call cz _ _ _ _ _=>rw[cH h.1,q6 _ _ h.2.1,hJ _ _ h.2.2.1,cH h.2.2.2.1,cz _ h.2.2.2.2]
omit [Lib P] in
theorem aiu {x:bZ} {n:Nat} {env:List J} {L:List (bs P)} {aU:List (fG P)}:∀(t:bZ),GC x t=true->dA B W az ro post n env L aU t->dA B W az ro post n env L aU x:=by
 intro t
 induction t with
 |alt a b _ cz=>
  intro h hw;cases hw with
  |alt ad ag=>
   have h:(kd x a||GC x b)=true:=h;rw[Bool.or_eq_true] at h;rcases h with h|h
   ·rw[Qg _ _ h];exact ad
   ·exact cz h ag
 |_=>exact λh hw=>by rw[Qg _ _ h];exact hw
omit [Lib P] in
theorem Qh {n:Nat} {env:List J} {L:List (bs P)} {aU:List (fG P)}:∀{l:List (Option bZ)} {t:bZ},KL l=some t->dA B W az ro post n env L aU t->∀x∈l,∃y,x=some y/\dA B W az ro post n env L aU y
 |[],_,h,_=>by cases h
 |[a],t,h,hw=>λx aq=>by
  rw[List.mem_singleton] at aq;rw[aq];exact⟨t,h,hw⟩
 |a::b::r,t,h,hw=>by
  unfold KL at h;split at h
  ·rename_i x y ao
   cases he:GC x y with
   |false=>
    rw[he,eB,cN] at h;subst h;cases hw with
    |alt ad ag=>
     intro z bU;rcases List.mem_cons.1 bU with rfl|bU
     ·exact⟨x,rfl,ad⟩
     ·exact Qh ao ag z bU
   |true=>
    rw[he,bD,cN] at h;subst h;intro z bU;rcases List.mem_cons.1 bU with rfl|bU
    ·exact⟨x,rfl,aiu _ he hw⟩
    ·exact Qh ao hw z bU
  ·cases h
omit [Lib P] in
theorem aiv {os:Array Oper} {K:Act->ax->Prop} {Q:Exit->Act->ax->Prop} {i:Nat} {o:Oper} {a:Act} {w:ax} (ho:os[i]? =some o) (h:wpListIn (Fr none) 0 P os (Exit.then K Q) [o] a w):wpOpIn (Fr none) 0 P os Q i K a w:=by
 unfold wpListIn at h;unfold wpOpIn;rw[ho];simp only;split at h
 ·rename_i jK
  rw[aY jK];unfold Oper.wpIn at h ⊢;refine⟨h.1,?_⟩;have ag:=h.2;generalize (o.semAt (Fr none).round a.eval).run P w=r at ag;cases r with
  |ok x w'=>cases x<;>exact ag
  |halt x w'=>cases x<;>exact ag
 ·rename_i jK
  rw[a' jK];exact h
section
variable {G:jD} {n:Nat} {env:List J} {L:List (bs P)} {aU:List (fG P)} {cs:List jj} {Q:Exit->Act->ax->Prop} {M:Mem}
omit [Lib P] in
theorem Yp (fk:pH cf B W az ro post G) {dT:jn} {F:j5} {T:kc} {sl:aF} {aZ:List bu} {t:bZ} (h:GD G n cs dT F T sl aZ=some t) (hw:dA B W az ro post n env L aU t) (av:env.length=n) (ho:gg env) (ar:nj cf B W az post cs aU Q env) (dh:n7 B W az L env F) (eA:n8 B W az L env T) (bt:bI B (aG W) az M (db L)) {a:Act} {w:ax} (ah:mm cf B W M env (b3 sl aZ) a w):dT.lg P Q a w:=
 KP fk h hw av ho ar dh eA bt λaf=>D2 (GK n _) (Yf af) ah
omit [Lib P] in
theorem Yq (fk:pH cf B W az ro post G) {dT:jn} {F:j5} {T:kc} {s:b6} {t:bZ} (h:KM G n cs dT F T s=some t) (hw:dA B W az ro post n env L aU t) (av:env.length=n) (ho:gg env) (ar:nj cf B W az post cs aU Q env) (dh:n7 B W az L env F) (eA:n8 B W az L env T) (bt:bI B (aG W) az M (db L)) {a:Act} {w:ax} (ah:mm cf B W M env s a w):dT.lg P Q a w:=by
 unfold KM at h;cases aw:zX s with
 |false=>rw[aw] at h;cases h
 |true=>
  rw[aw,bD] at h;exact KP fk h hw av ho ar dh eA bt λaf=>D2 (GK n _) (P6 aw af) ah
omit [Lib P] in
theorem Qi [eh P] {N:Nat} {os:Array Oper} {l:Array Bool} {sl:aF}:∀{r0:List Nat} {i:Nat} {eK:aF},GF P N os l sl r0=some (i,eK)->i∈r0/\KN P N os l sl i=some eK
 |[],i,eK,h=>by cases h
 |j::r,i,eK,h=>by
  unfold GF at h;split at h
  ·rename_i q bb
   cases h;exact⟨List.mem_cons_self,bb⟩
  ·obtain⟨ad,ag⟩:=Qi h
   exact⟨List.mem_cons_of_mem _ ad,ag⟩
omit [Lib P] in
theorem aiw [a1] {φ:b2} {ρ':Operand->J} {o:Oper} {t:Operand} {i:Nat} {x v:J} (aq:aD φ x (ρ' t)) (h:EK x i=some v) (cy:o.op= .extract t i):∃aB,(∀w,(execOp ρ' o).run P w= .ok (.value aB) w)/\aD φ v aB:=by
 cases x with
 |tuple cs=>
  obtain⟨cs⟩:=cs;have h:cs[i]? =some v:=h;cases bb:ρ' t with
  |tuple cs'=>
   rw[bb] at aq;cases aq with
   |tuple _ _ ad ag=>
    obtain⟨ck,_⟩:=List.getElem?_eq_some_iff.1 h;have rS:i<cs'.size:=by rw[<-ad];simpa using ck
    refine⟨cs'[i],λw=> ?_,?_⟩
    ·unfold execOp
     rw[cy];simp [bb,Instr.extract,rS,Sem.run,pure]
    ·have:=ag i (by simpa using ck)
     simp only [fh,List.getElem?_toArray,h,Option.getD_some] at this;simpa [rS] using this
  |_=>rw[bb] at aq;cases aq
 |_=>cases h
omit [Lib P] in
theorem aix [a1] [eh P] (dh:q7 P) {φ:b2} {ρ ρ':Operand->J} {o:Oper} {v:J} (cZ:∀x,aD φ (ρ x) (ρ' x)) (h:PQ P ρ o=some v):(∃aB,(∀w,(execOp ρ' o).run P w= .ok (.value aB) w)/\aD φ v aB)/\D0 o=true:=by
 unfold PQ at h;unfold D0;split at h
 ·rename_i c x y cy
  split at h
  ·rename_i b ar
   cases h;have af:=cZ c;rw[ar] at af;have ef:ρ' c= .bool b:=by
    generalize ρ' c=u at af;cases af;rfl
   refine⟨⟨bif b then ρ' x else ρ' y,λw=> ?_,?_⟩,by rw[cy]⟩
   ·unfold execOp
    rw[cy];simp only [ef];cases b<;>rfl
   ·cases b
    ·exact cZ y
    ·exact cZ x
  ·cases h
 ·rename_i t i cy
  refine⟨aiw (cZ t) h cy,by rw[cy]⟩
 case h_9 c cy=>
  split at h
  ·rename_i b af
   split at h
   ·rename_i f aQ
    cases hp:CU f with
    |false=>rw[hp] at h;cases h
    |true=>
     rw[hp,bD] at h;exact⟨CX dh cZ h λij om=>by rw[aQ] at om;cases om;exact hp,by rw[cy];dsimp only;rw[af]⟩
   ·cases h
  ·cases h
 case h_10 cy=>exact⟨CX dh cZ h λf aQ=>by unfold qy at aQ;rw[cy] at aQ;cases aQ;rfl,by rw[cy]⟩
 all_goals first
  |(rename_i cy;refine⟨E4 dh cZ h,by rw[cy]⟩)
  |cases h
omit [Lib P] in
theorem Yr [a1] {N:Nat} {ds:List Deferred} {os:Array Oper} {φ:b2} {sl:aF} {a:Act} {o:Oper} {b:Bool} (aw:fD N ds φ sl a) (h:PO N os sl o=some b):Region.wanted o (yielded os a.tmps)=b:=by
 unfold PO at h;unfold Region.wanted;split at h
 ·rename_i aA
  rw[aA];cases h;rfl
 ·rename_i j want aA
  rw[aA];dsimp only;split at h
  ·rename_i t aL
   cases ck:Nat.blt t N with
   |false=>rw[ck] at h;cases h
   |true=>
    rw[ck,bD] at h;split at h
    ·rename_i b' ef
     cases h;have aC:=aw.get t _ ef;have af:a.tmps.getD t undef= .bool b':=by
      generalize a.tmps.getD t undef=u at aC;cases aC;rfl
     have zS:t<a.tmps.size:=by rw[aw.size];exact Nat.blt_eq.mp ck
     have bE:yielded os a.tmps j=some b':=by
      unfold yielded;have bc:((os[j]?).bind (·.dst)).bind (a.tmps[·]?)=some (.bool b'):=by
       have:(os[j]?).bind (·.dst)=some t:=aL;rw[this];simp only [Option.bind_some];rw[fh,Array.getElem?_eq_getElem zS] at af;rw[Array.getElem?_eq_getElem zS];exact congrArg some af
      rw[bc]
     rw[bE];cases b'<;>cases want<;>rfl
    ·cases h
  ·cases h
omit [Lib P] in
theorem Ys [a1] [eh P] (dh:q7 P) {N:Nat} {ds:List Deferred} {os:Array Oper} {Q:Exit->Act->ax->Prop} (ou:Region.noSelect os=true) (qB:∀c a w,¬Q (.panic c) a w) {φ:b2} {w:ax} {bn:Nat} {l:Array Bool} {sl eK:aF} {i:Nat} {a:Act} (aw:fD N ds φ sl a) (ai:i∈Region.ready .any os l) (h:KN P N os l sl i=some eK)
  (al:∀a7,fD N ds φ eK a7->wpAnyIn (Fr none) 0 P .any os Q bn (l.setIfInBounds i true) a7 w):wpAnyIn (Fr none) 0 P .any os Q (bn+1) l a w:=by
 have about:∀{o:Oper},D0 o=true->∀w,o.about P w a.eval=none:=by
  intro o ho w;unfold Oper.about;unfold D0 at ho;split at ho
  ·rename_i c ar
   split at ho
   ·rename_i b af
    unfold resolve;simp only [ar,af];rfl
   ·cases ho
  ·rename_i av
   split
   ·rename_i c ar
    exact absurd ar (av c)
   ·rfl
 unfold KN at h;split at h
 ·rename_i o ho
  split at h
  ·rename_i aA
   have wV:=Yr aw aA;split at h
   ·rename_i v qx
    cases AT:Region.free .any os l i with
    |false=>rw[AT] at h;cases h
    |true=>
     rw[AT,bD] at h;obtain⟨⟨aB,fw,aC⟩,iz⟩:=aix dh (gV (iG φ) aw.get) qx;exact wpAnyIn_take (F:=Fr none) rfl ho ou AT (List.contains_iff_mem.2 ai) (λc a w h=>absurd h (qB c _ w)) ⟨.inl ⟨wV,fw⟩,about iz⟩ (al _ (aw.put aC h))
   ·cases h
  ·rename_i aA
   have wV:=Yr aw aA;cases af:D0 o&&Region.free .any os l i with
   |false=>rw[af] at h;cases h
   |true=>
    rw[af,bD] at h;rw[c7] at af;exact wpAnyIn_take (F:=Fr none) rfl ho ou af.2 (List.contains_iff_mem.2 ai) (λc a w h=>absurd h (qB c _ w)) ⟨.inr ⟨wV,rfl⟩,about af.1⟩ (al _ (aw.put (aD.y' φ) h))
  ·cases h
 ·cases h
omit [Lib P] in
theorem Yt [a1] [eh P] (dh:q7 P) {N:Nat} {ds:List Deferred} {os:Array Oper} {Q:Exit->Act->ax->Prop} (ou:Region.noSelect os=true) (qB:∀c a w,¬Q (.panic c) a w) {φ:b2} {w:ax}:∀(bn:Nat) (l:Array Bool) (sl:aF) (a:Act),fD N ds φ sl a->
  (∀a7,fD N ds φ (D1 P N os bn l sl).2.2 a7->wpAnyIn (Fr none) 0 P .any os Q (D1 P N os bn l sl).1 (D1 P N os bn l sl).2.1 a7 w)->wpAnyIn (Fr none) 0 P .any os Q bn l a w
 |0,l,sl,a,aw,al=>al a aw
 |bn+1,l,sl,a,aw,al=>by
  unfold D1 at al;split at al
  ·rename_i i eK ai
   obtain⟨ad,ag⟩:=Qi ai;exact Ys dh ou qB aw ad ag λa7 pT=>Yt dh ou qB bn _ eK a7 pT al
  ·exact al a aw
theorem aiy (cQ:P.follows .mixedOrders=true) (H:BM cf B W az ro post G n env L aU cs Q M) {bn:Nat} {os:Array Oper} {listed:Array Bool} {ks:List fi} {s:b6} {F:j5} {T:kc} {i:Nat} {t:bZ} (h:anyOp P cf G n cs bn os listed ks s F T i=some t) (hw:dA B W az ro post n env L aU t) (dh:n7 B W az L env F) (eA:n8 B W az L env T) {a:Act} {w:ax} (ah:mm cf B W M env s a w):
  wpOpIn (Fr none) 0 P os (dY P ks Q) i (wpAnyIn (Fr none) 0 P .any os (dY P ks Q) bn (listed.setIfInBounds i true)) a w:=by
 unfold anyOp at h;split at h
 ·cases h
 ·rename_i o ho
  refine aiv ho ?_;letI:=cY M env;letI:=gm;split at h
  ·rename_i eK bC c1
   letI:eh P:=⟨F⟩;letI:s3 P:=⟨T⟩;have cX:=zv (gl:= .nil) (bn:=1000) cQ (dh M H.bt []) (λp hp=>(eA M H.bt [] p hp).NP) cf.d;exact Vx (l1:=[o]) (s:=s) cX [] (by simp only [wQ,c1]) ah λa7 w' x_=>Yq (dT:= .any bn os (listed.setIfInBounds i true) ks) H.fk h hw H.av H.ho H.ar dh eA H.bt x_
  ·split at h
   ·rename_i py dN X4 m he
    obtain⟨k,al,rfl⟩:=Option.map_eq_some_iff.1 h;have aiz:qd cf B W az ro post (λga sl aZ=>GD G ga cs (.any bn os (listed.setIfInBounds i true) ks) (Gr cf.marks) [] sl aZ) (some (.oper o [] os s [])) n env L aU (Exit.then (wpAnyIn (Fr none) 0 P .any os (dY P ks Q) bn (listed.setIfInBounds i true)) (dY P ks Q)) M:=
     {dK:=H.dK,av:=H.av,ho:=H.ho,bt:=H.bt
      cont:=λh hw hm ad qH ah=>Yp (dT:= .any bn os (listed.setIfInBounds i true) ks) H.fk h hw (by have:=H.av;simp only [List.length_append];omega) (tk ad H.ho) (H.ar.ext _) (n7.marks _ _ _) (n8.nil _ _) qH ah}
    obtain⟨st,c1,hI⟩:=Yo aiz he al hw;cases c1;exact hI a w ah
   ·cases h
theorem aiA (cQ:P.follows .mixedOrders=true) (H:BM cf B W az ro post G n env L aU cs Q M) {bn:Nat} {os:Array Oper} {listed:Array Bool} {ks:List fi} {sl:aF} {aZ:List bu} {F:j5} {T:kc} {t:bZ} (h:PR P cf G n cs bn os listed ks sl aZ F T=some t) (hw:dA B W az ro post n env L aU t) (dh:n7 B W az L env F) (eA:n8 B W az L env T) {a:Act} {w:ax} (ah:mm cf B W M env (b3 sl aZ) a w):
  wpAnyIn (Fr none) 0 P .any os (dY P ks Q) bn listed a w:=by
 unfold PR at h;split at h
 ·rename_i ao
  exact wpAnyIn_done ao (uN (dT:= .k .normal ks) H.fk h hw H.av H.ho H.ar H.bt ah) bn
 ·rename_i r0 cW
  split at h
  ·cases h
  ·rename_i bn
   split at h
   ·rename_i i eK vW
    cases ou:Region.noSelect os with
    |false=>rw[ou] at h;cases h
    |true=>
     rw[ou,bD] at h;obtain⟨ad,ag⟩:= @Qi P ⟨F⟩ _ _ _ _ _ _ _ vW;obtain⟨⟨φ,ds,q1,aH,bW,et,gN⟩,j_,nB⟩:=ah;letI:=cY M env;letI:=gm;have Yu:ov (dY P ks Q):=H.ar.calm.vw ks;refine @Ys P (cY M env) ⟨F⟩ (dh M H.bt []) _ _ _ _ ou Yu _ _ _ _ _ _ _ _ aH ad ag λa7 pT=> ?_
     refine @Yt P (cY M env) ⟨F⟩ (dh M H.bt []) _ _ _ _ ou Yu _ _ bn _ _ a7 pT λa2 aiB=> ?_
     exact Yp (dT:= .any _ os _ ks) H.fk h hw H.av H.ho H.ar dh eA H.bt ⟨⟨φ,ds,q1,aiB,bW,et,gN⟩,j_,nB⟩
   ·refine wpAnyIn_all rfl cW λi ai=> ?_
    obtain⟨y,e,bE⟩:=Qh h hw _ (List.mem_map.2 ⟨i,ai,rfl⟩);exact aiy cQ H e bE dh eA ah
end
theorem aiC (cQ:P.follows .mixedOrders=true) {G:jD} {n:Nat} {env:List J} {L:List (bs P)} {aU:List (fG P)} {cs:List jj} {Q:Exit->Act->ax->Prop} {M:Mem} (H:BM cf B W az ro post G n env L aU cs Q M) {PV:Option J} {F:j5} {T:kc} {o:Option bY} {t:bZ} (h:PU P cf G n cs PV F T o=some t) (hw:dA B W az ro post n env L aU t) (dh:n7 B W az L env F) (eA:n8 B W az L env T): @fy (cY M env) gm P cf.N B W Q o:=by
 letI:=gm;unfold PU at h;split at h
 ·rename_i id os s ks
  split at h
  ·rename_i v
   refine⟨_,rfl,λa w ah=> ?_⟩;obtain⟨b,af,al⟩:=Qe H.fk h hw H.av H.ho H.ar H.bt ah;cases b with
   |true=>exact al
   |false=>exact al
  ·refine⟨_,rfl,λa w ah=>wpIn_region_any cQ ?_⟩
   have bb:mm cf B W M env s a {w with drawn:=w.drawn+1}:= @Here.quiet (cY M env) gm _ _ _ _ _ _ _ ah ⟨⟨rfl,rfl,rfl,cj _,λ_ _=>rfl⟩,cj _⟩;exact Yq (dT:= .any os.size os (Array.replicate os.size false) ks) H.fk h hw H.av H.ho H.ar dh eA H.bt bb
 ·exact⟨_,rfl,λa w ah=>aia H.fk h hw H.av H.ho H.ar H.bt ah⟩
 ·exact⟨_,rfl,λa w ah=>aic H.fk h hw H.av H.ho H.ar H.bt ah⟩
 ·rename_i c x y s ks
  cases hp:aM (dH .nil s.sl c) with
  |false=>rw[hp] at h;cases h
  |true=>
   rw[hp,bD] at h;refine⟨_,rfl,λa w ah=> ?_⟩;split at h
   ·obtain⟨b,af,al⟩:=aie H.fk h hw H.av H.ho H.ar H.bt ah
    exact wpIn_cond (t:=b) ((Yl hp ah).trans af) al
   obtain⟨b,af,al⟩:=Qe H.fk h hw H.av H.ho H.ar H.bt ah;refine wpIn_cond (t:=b) ((Yl hp ah).trans af) ?_;cases b with
   |true=>exact al
   |false=>exact al
 ·rename_i op r os s ks
  split at h
  ·rename_i v aC
   refine⟨_,rfl,λa w ah=> ?_⟩;obtain⟨b,af,al⟩:=Qe H.fk h hw H.av H.ho H.ar H.bt ah;cases b with
   |true=>exact al
   |false=>exact al
  ·split at h
   ·rename_i py sl aZ m he
    obtain⟨k,al,rfl⟩:=Option.map_eq_some_iff.1 h;exact air (H.sr (some (.oper op r os s ks))) H.fk H.ar he al hw
   ·exact ais H h hw
 ·cases h
theorem aiD (cQ:P.follows .mixedOrders=true) (dK:∀M,pE (aG W) az M->hi ro M) {G:jD} (fk:pH cf B W az ro post G):pH cf B W az ro post (PY P cf G):=by
 intro n cs dT eu sl aZ F T o t h nC hV dc L aU Q hw av e_ ho ar dh eA M bt a w ah;unfold PY at h;split at h
 ·exact P_ dK fk h nC hw av e_ ho ar dh eA M bt a w ah
 ·exact Qa dK fk h nC hw av e_ ho ar dh eA M bt a w ah
 ·split at h
  ·exact P_ dK fk h nC hw av e_ ho ar dh eA M bt a w ah
  ·exact Qa dK fk h nC hw av e_ ho ar dh eA M bt a w ah
  ·have H:BM cf B W az ro post G n (dc++hV) L aU cs Q M:=⟨dK,fk,av,ho,ar.ext dc,bt⟩
   letI:=cY M (dc++hV);letI:=gm;exact jn.ah' ar.calm cQ (dh M bt []) (λp hp=>(eA M bt [] p hp).NP) dT (aiC cQ H h hw dh eA) (D2 (e1:=hV) (e2:=dc++hV) (uJ M M e_) nC ah)
theorem aiE (cQ:P.follows .mixedOrders=true) (dK:∀M,pE (aG W) az M->hi ro M) {G:jD} (fk:pH cf B W az ro post G):pH cf B W az ro post (P1 P cf G):=by
 intro n cs dT eu sl aZ F T o t h nC hV dc L aU Q hw av e_ ho ar dh eA M bt a w ah;unfold P1 at h;split at h
 ·rename_i bn os listed ks
  split at h
  ·exact P_ dK fk h nC hw av e_ ho ar dh eA M bt a w ah
  ·exact Qa dK fk h nC hw av e_ ho ar dh eA M bt a w ah
  ·exact aiA cQ ⟨dK,fk,av,ho,ar.ext dc,bt⟩ h hw dh eA (D2 (e1:=hV) (e2:=dc++hV) (uJ M M e_) nC ah)
 ·exact aiD cQ dK fk n cs dT eu sl aZ F T o t h nC hV dc L aU Q hw av e_ ho ar dh eA M bt a w ah
theorem Qj (cQ:P.follows .mixedOrders=true) (dK:∀M,pE (aG W) az M->hi ro M):∀bn,pH cf B W az ro post (gen P cf bn)
 |0=>λ_ _ _ _ _ _ _ _ _ _ h=>by cases h
 |bn+1=>aiE cQ dK (Qj cQ dK bn)
def Yv (a:Option bZ) (t:bZ):Bool:=match a with
 |some x=>kd x t
 |none=>false
theorem oE {a:Option bZ} {t:bZ} (h:Yv a t=true):a=some t:=by
 unfold Yv at h;split at h
 ·rw[Qg _ _ h]
 ·cases h
theorem aiF (cQ:P.follows .mixedOrders=true) {f:FuncId} {h:DV} {args vs:List J} {n:Nat} {t:bZ} (aA:l0 P f h args n=some t) (dK:∀M,pE (aG W) [] M->hi ro M) (av:vs.length=n) (ho:gg vs)
  (hw:dA W.heap.size W [] ro post n vs.reverse [] [] t):Calls P f ⟨h9 vs.reverse n args⟩ W λe w=>KO W [] post e w/\cg W.heap.size W w:=by
 unfold l0 at aA;split at aA
 ·rename_i fn mV
  split at aA
  ·rename_i c Qk
   split at aA
   ·rename_i sl gI
    dsimp only at aA;cases hp:dL args with
    |false=>rw[hp] at aA;cases aA
    |true=>
     rw[hp,bD] at aA;have hl:vs.reverse.length=n:=by simpa using av
     have l9:=qM ho;letI:=cY (aG W) vs.reverse;rw[<-tl (aG W) l9 hl args];refine VM mV Qk gI hp rfl (λi o h=>h) λa ah=> ?_
     letI:=gm;exact uN (cf:=⟨h,args.length+(fn.ntmps-args.length),fn⟩) (dT:= .k .normal [.mW c]) (Qj cQ dK 10000) aA hw hl l9 (.nil _) (bI.o1 W) ah
   ·cases aA
  ·cases aA
 ·cases aA
theorem aiG (cQ:P.follows .mixedOrders=true) {f:FuncId} {h:DV} {args vs:List J} {n:Nat} {t:bZ} (aA:l0 P f h args n=some t) (L:List (bs P)) (aI:cG (aG W) (db L)) (dK:∀M,pE (aG W) (db L) M->hi ro M) (av:vs.length=n) (ho:gg vs)
  (hw:dA 0 W (db L) ro post n vs.reverse L [] t):Calls P f ⟨h9 vs.reverse n args⟩ W λe w=>KO W (db L) post e w/\cg 0 W w:=by
 unfold l0 at aA;split at aA
 ·rename_i fn mV
  split at aA
  ·rename_i c Qk
   split at aA
   ·rename_i sl gI
    dsimp only at aA;cases hp:dL args with
    |false=>rw[hp] at aA;cases aA
    |true=>
     rw[hp,bD] at aA;have hl:vs.reverse.length=n:=by simpa using av
     have l9:=qM ho;letI:=cY (aG W) vs.reverse;rw[<-tl (aG W) l9 hl args];refine VV mV Qk gI hp rfl (λi o h=>h) λa ah=> ?_
     letI:=gm;exact uN (cf:=⟨h,args.length+(fn.ntmps-args.length),fn⟩) (dT:= .k .normal [.mW c]) (Qj cQ dK 10000) aA hw hl l9 (.nil _) (bI.start W _ aI) ah
   ·cases aA
  ·cases aA
 ·cases aA
end AE
namespace AE
variable {P:aR} {B:Nat} {W:ax} {az:List cc} {ro:List (jc P)} {post:J->List (bs P)->Prop}
structure X (B:Nat) (W:ax) (az:List cc) (ro:List (jc P)) (post:J->List (bs P)->Prop) (n:Nat) (env:List J) (L:List (bs P)) (aU:List (fG P)) (t:bZ):Prop where
 go:env.length=n->gg env->dA B W az ro post n env L aU t
instance ao0 {n:Nat} {env:List J} {L:List (bs P)} {aU:List (fG P)} {t:bZ}:CoeFun (X B W az ro post n env L aU t) λ_=>env.length=n->gg env->dA B W az ro post n env L aU t:=⟨X.go⟩
inductive mJ.{u} {α:Type u}:List α->α->Prop
 |z {a:α} {r:List α}:mJ (a::r) a
 |s {x a:α} {r:List α} (h:mJ r a):mJ (x::r) a
inductive pI.{u} {α:Type u}:List α->Nat->α->α->List α->Prop
 |z {a b:α} {r:List α}:pI (a::r) 0 a b (b::r)
 |s {d:Nat} {x a b:α} {r ek:List α} (h:pI r d a b ek):pI (x::r) (d+1) a b (x::ek)
inductive xj.{u} {α:Type u}:List α->Nat->α->List α->Prop
 |z {a b:α} {r:List α}:xj (a::r) 0 b (b::r)
 |s {x b:α} {i:Nat} {r ek:List α} (h:xj r i b ek):xj (x::r) (i+1) b (x::ek)
inductive uP.{u} {α:Type u}:List α->α->List α->Prop
 |z {a:α}:uP [] a [a]
 |s {x a:α} {r ek:List α} (h:uP r a ek):uP (x::r) a (x::ek)
theorem mJ.get.{u} {α:Type u} {l:List α} {a:α} (h:mJ l a):∃i:Nat,l[i]? =some a:=by
 induction h with
 |z=>exact⟨0,rfl⟩
 |s _ cz=>obtain⟨i,ai⟩:=cz;exact⟨i+1,by simpa using ai⟩
theorem pI.get.{u} {α:Type u} {l l':List α} {d:Nat} {a b:α} (h:pI l d a b l'):l[d]? =some a/\l'=l.set d b:=by
 induction h with
 |z=>exact⟨rfl,rfl⟩
 |s _ cz=>exact⟨by simpa using cz.1,by rw[cz.2];rfl⟩
theorem xj.eq.{u} {α:Type u} {l l':List α} {i:Nat} {b:α} (h:xj l i b l'):l'=l.set i b/\i<l.length:=by
 induction h with
 |z=>exact⟨rfl,by simp⟩
 |s _ cz=>exact⟨by rw[cz.1];rfl,by simp;exact cz.2⟩
theorem uP.eq.{u} {α:Type u} {l l':List α} {a:α} (h:uP l a l'):l'=l++[a]:=by
 induction h with
 |z=>rfl
 |s _ cz=>rw[cz];rfl
inductive nk (ro:List (jc P)) (L:List (bs P)) (K:js P) (v:J) (l:List K.α):Prop
 |ro (h:mJ ro ⟨K,v,l⟩)
 |arr (h:mJ L (.arr K v l))
 |iT (h:mJ L (.iT K v l))
 |red (h:mJ L (.red K v l))
theorem nk.sc {ro:List (jc P)} {L:List (bs P)} {K:js P} {v:J} {l:List K.α} (h:nk ro L K v l) {M:Mem} (bt:bI B (aG W) az M (db L)) (dK:hi ro M):cF M K.k K.enc v l:=by
 cases h with
 |ro h=>obtain⟨i,ai⟩:=h.get;exact dK i _ ai
 |arr h=>obtain⟨i,ai⟩:=h.get;exact Pk bt ai rfl
 |iT h=>obtain⟨i,ai⟩:=h.get;exact Pk bt ai rfl
 |red h=>obtain⟨i,ai⟩:=h.get;exact Pk bt ai rfl
theorem nk.at {ro:List (jc P)} {L:List (bs P)} {K:js P} {v:J} {l:List K.α} (h:nk ro L K v l) {w:ax} (hw:rz W az ro L w):cF (aG w) K.k K.enc v l:=by
 cases h with
 |ro h=>obtain⟨i,ai⟩:=h.get;exact hw.ro i _ ai
 |arr h=>obtain⟨i,ai⟩:=h.get;exact Pl hw.own ai rfl
 |iT h=>obtain⟨i,ai⟩:=h.get;exact Pl hw.own ai rfl
 |red h=>obtain⟨i,ai⟩:=h.get;exact Pl hw.own ai rfl
theorem D4 {ro:List (jc P)} {L:List (bs P)} {K:js P} {v:J} {l:List K.α} (h:nk ro L K v l:=by first|(apply nk.ro;(repeat (first|exact mJ.z|apply mJ.s));done)|(apply nk.arr;(repeat (first|exact mJ.z|apply mJ.s));done)|(apply nk.iT;(repeat (first|exact mJ.z|apply mJ.s));done)|(apply nk.red;(repeat (first|exact mJ.z|apply mJ.s));done)):nk ro L K v l:=h
theorem has {α:Type 1} {l:List α} {a:α} (h:mJ l a:=by repeat (first|exact mJ.z|apply mJ.s)):mJ l a:=h
section
variable {n q:Nat} {ah:List Nat} {env:List J} {L:List (bs P)} {aU:List (fG P)} {k dg k2:bZ}
theorem GO {gn:a1} {f:gd} {r ek:J} (h: @aT gn P (f,r)) (he: @aJ gn ek= @aJ gn r) (ao:aM ek=true:=by rfl): @aT gn P (f,ek):=by
 obtain⟨ad,ag,ay⟩:=h;refine⟨ad,ao,?_⟩;simp only at ay ⊢;rw[he];exact ay
theorem Ql:∀(m q:Nat),aM (.agg ⟨lZ m q⟩)=true
 |0,_=>rfl
 |m+1,q=>by
  have:=Ql m (q+1);unfold aM at this ⊢;unfold lZ dL;rw[this];rfl
theorem Yw {env:List J} {n:Nat}:∀(m i:Nat) (c:List J),(∀j,j<m->ex env n (ak (i+j))=c.getD j undef)->c.length=m->h9 env n (lZ m i)=c
 |0,i,c,_,ar=>by rw[List.length_eq_zero_iff.1 ar];rfl
 |m+1,i,[],_,ar=>by simp at ar
 |m+1,i,u::c,h,ar=>by
  unfold lZ h9;have h0:=h 0 aj;rw[Nat.add_zero] at h0;rw[h0,Yw m (i+1) c (λj hj=>by have:=h (j+1) aj;rw[show i+(j+1)=i+1+j by omega] at this;simpa using this) (by simpa using ar)];rfl
theorem aiH {env c:List J} {n m:Nat} (av:env.length=n) (ar:c.length=m) (aA:n+m<eZ):h9 (c.reverse++env) (n+m) (lZ m n)=c:=by
 refine Yw m n c (λj hj=> ?_) ar;show (bif Nat.beq 0 0 then (bif Nat.blt (n+j) eZ then look (c.reverse++env) (n+m) (n+j) else .pointer (some ⟨n+j-eZ,0,none⟩)) else .complex .f64 (n+j) 0)=_;rw[show Nat.beq 0 0=true from rfl,bD,show Nat.blt (n+j) eZ=true from Nat.blt_eq.mpr aj,bD,Kz _ _ _ (by simp [av,ar];omega),List.reverse_append,List.reverse_reverse,dp,List.getElem?_append_right (by simp [av]),show n+j-env.reverse.length=j by simp [av],dp,f_ aj];rfl
theorem nN {f:gd} (v:J) (aQ:∀M,bI B (aG W) az M (db L)->hi ro M->(∀x,@aJ (cY M (v::env)) x=ex (v::env) (q+1) x)-> @aJ (cY M (v::env)) (ak q)=v-> @aT (cY M (v::env)) P (f,ak q)) (h:X B W az ro post (q+1) (v::env) L aU k) (ad:oZ v=v) (aA:Nat.blt q eZ=true) (bb:n=q):X B W az ro post n env L aU (.o f (ak q) 1 ah k):=by
 subst bb;refine⟨λav ho=> ?_⟩;have l9:gg (v::env):=⟨ad,ho⟩;have fL:(v::env).length=n+1:=by simp [av]
 exact .o [v] rfl ⟨ad,trivial⟩ (λM bt ao=>aQ M bt ao (λx=>ml M l9 fL x) (uO aA av ho ad)) (h fL l9)
section
variable {t:aK} {x y:J} {hD:IntKind} {a b:Int}
theorem yF {op:BinOp} {v:J} (cy:zB op=true) (aC:ye op hD a b=v) (ad:oZ v=v) (aq:ex (v::env) (q+1) x= .int hD a) (bE:ex (v::env) (q+1) y= .int hD b) (h:X B W az ro post (q+1) (v::env) L aU k) (fl:aM x=true) (j6:aM y=true) (aA:Nat.blt q eZ=true) (bb:n=q):X B W az ro post n env L aU (.o (.bin op t x y) (ak q) 1 ah k):=
 nN v (λM _ _ ai aw=> @aT.bi (cY M (v::env)) P op t x y (ak q) hD a b fl j6 rfl cy ((ai x).trans aq) ((ai y).trans bE) (aw.trans aC.symm)) h ad aA bb
theorem Yx (aq:ex (.bool (decide (a<b))::env) (q+1) x= .int hD a) (bE:ex (.bool (decide (a<b))::env) (q+1) y= .int hD b) (h:X B W az ro post (q+1) (.bool (decide (a<b))::env) L aU k) (fl:aM x=true:=by rfl) (j6:aM y=true:=by rfl) (aA:Nat.blt q eZ=true:=by rfl) (bb:n=q:=by rfl):X B W az ro post n env L aU (.o (.bin .lss t x y) (ak q) 1 ah k):=yF U U U aq bE h fl j6 aA bb
theorem aiI (aq:ex (.bool (decide (a<=b))::env) (q+1) x= .int hD a) (bE:ex (.bool (decide (a<=b))::env) (q+1) y= .int hD b) (h:X B W az ro post (q+1) (.bool (decide (a<=b))::env) L aU k) (fl:aM x=true:=by rfl) (j6:aM y=true:=by rfl) (aA:Nat.blt q eZ=true:=by rfl) (bb:n=q:=by rfl):X B W az ro post n env L aU (.o (.bin .leq t x y) (ak q) 1 ah k):=yF U U U aq bE h fl j6 aA bb
theorem Qm (aq:ex (.bool (decide (b<a))::env) (q+1) x= .int hD a) (bE:ex (.bool (decide (b<a))::env) (q+1) y= .int hD b) (h:X B W az ro post (q+1) (.bool (decide (b<a))::env) L aU k) (fl:aM x=true:=by rfl) (j6:aM y=true:=by rfl) (aA:Nat.blt q eZ=true:=by rfl) (bb:n=q:=by rfl):X B W az ro post n env L aU (.o (.bin .gtr t x y) (ak q) 1 ah k):=yF U U U aq bE h fl j6 aA bb
theorem Yy (aq:ex (.bool (decide (b<=a))::env) (q+1) x= .int hD a) (bE:ex (.bool (decide (b<=a))::env) (q+1) y= .int hD b) (h:X B W az ro post (q+1) (.bool (decide (b<=a))::env) L aU k) (fl:aM x=true:=by rfl) (j6:aM y=true:=by rfl) (aA:Nat.blt q eZ=true:=by rfl) (bb:n=q:=by rfl):X B W az ro post n env L aU (.o (.bin .geq t x y) (ak q) 1 ah k):=yF U U U aq bE h fl j6 aA bb
theorem D5 (aq:ex (.bool (decide (a=b))::env) (q+1) x= .int hD a) (bE:ex (.bool (decide (a=b))::env) (q+1) y= .int hD b) (h:X B W az ro post (q+1) (.bool (decide (a=b))::env) L aU k) (fl:aM x=true:=by rfl) (j6:aM y=true:=by rfl) (aA:Nat.blt q eZ=true:=by rfl) (bb:n=q:=by rfl):X B W az ro post n env L aU (.o (.bin .eql t x y) (ak q) 1 ah k):=yF U U U aq bE h fl j6 aA bb
theorem Qn (aq:ex (.bool (decide (a≠b))::env) (q+1) x= .int hD a) (bE:ex (.bool (decide (a≠b))::env) (q+1) y= .int hD b) (h:X B W az ro post (q+1) (.bool (decide (a≠b))::env) L aU k) (fl:aM x=true:=by rfl) (j6:aM y=true:=by rfl) (aA:Nat.blt q eZ=true:=by rfl) (bb:n=q:=by rfl):X B W az ro post n env L aU (.o (.bin .neq t x y) (ak q) 1 ah k):=yF (op:= .neq) rfl (congrArg Value.bool (by by_cases h:a=b<;>simp [h])) rfl aq bE h fl j6 aA bb
theorem aiJ (aq:ex (.int .i64 (a+b)::env) (q+1) x= .int .i64 a) (bE:ex (.int .i64 (a+b)::env) (q+1) y= .int .i64 b) (h:X B W az ro post (q+1) (.int .i64 (a+b)::env) L aU k) (sv: -9223372036854775808<=a+b:=by omega) (GQ:a+b<=9223372036854775807:=by omega) (fl:aM x=true:=by rfl) (j6:aM y=true:=by rfl) (aA:Nat.blt q eZ=true:=by rfl) (bb:n=q:=by rfl):X B W az ro post n env L aU (.o (.bin .add t x y) (ak q) 1 ah k):=yF rfl (congrArg (Value.int .i64) (wrap64 sv GQ)) rfl aq bE h fl j6 aA bb
theorem aiK (aq:ex (.int .i64 (a-b)::env) (q+1) x= .int .i64 a) (bE:ex (.int .i64 (a-b)::env) (q+1) y= .int .i64 b) (h:X B W az ro post (q+1) (.int .i64 (a-b)::env) L aU k) (sv: -9223372036854775808<=a-b:=by omega) (GQ:a-b<=9223372036854775807:=by omega) (fl:aM x=true:=by rfl) (j6:aM y=true:=by rfl) (aA:Nat.blt q eZ=true:=by rfl) (bb:n=q:=by rfl):X B W az ro post n env L aU (.o (.bin .sub t x y) (ak q) 1 ah k):=yF rfl (congrArg (Value.int .i64) (wrap64 sv GQ)) rfl aq bE h fl j6 aA bb
theorem aiL (aq:ex (.int .i64 (a*b)::env) (q+1) x= .int .i64 a) (bE:ex (.int .i64 (a*b)::env) (q+1) y= .int .i64 b) (h:X B W az ro post (q+1) (.int .i64 (a*b)::env) L aU k) (sv: -9223372036854775808<=a*b:=by omega) (GQ:a*b<=9223372036854775807:=by omega) (fl:aM x=true:=by rfl) (j6:aM y=true:=by rfl) (aA:Nat.blt q eZ=true:=by rfl) (bb:n=q:=by rfl):X B W az ro post n env L aU (.o (.bin .mul t x y) (ak q) 1 ah k):=yF rfl (congrArg (Value.int .i64) (wrap64 sv GQ)) rfl aq bE h fl j6 aA bb
theorem aiM (aq:ex (.int .i64 (a/b)::env) (q+1) x= .int .i64 a) (bE:ex (.int .i64 (a/b)::env) (q+1) y= .int .i64 b) (h:X B W az ro post (q+1) (.int .i64 (a/b)::env) L aU k) (h0:0<=a/\a<=9223372036854775807:=by omega) (af:1<=b:=by omega) (fl:aM x=true:=by rfl) (j6:aM y=true:=by rfl) (aA:Nat.blt q eZ=true:=by rfl) (bb:n=q:=by rfl):X B W az ro post n env L aU (.o (.bin .quo t x y) (ak q) 1 ah k):=
 nN _ (λM _ _ ai aw=> @aT.quo (cY M (_::env)) P t x y (ak q) a b h0 af fl j6 rfl ((ai x).trans aq) ((ai y).trans bE) aw) h rfl aA bb
theorem aiN (aq:ex (.int .i64 (a%b)::env) (q+1) x= .int .i64 a) (bE:ex (.int .i64 (a%b)::env) (q+1) y= .int .i64 b) (h:X B W az ro post (q+1) (.int .i64 (a%b)::env) L aU k) (h0:0<=a/\a<=9223372036854775807:=by omega) (af:1<=b:=by omega) (fl:aM x=true:=by rfl) (j6:aM y=true:=by rfl) (aA:Nat.blt q eZ=true:=by rfl) (bb:n=q:=by rfl):X B W az ro post n env L aU (.o (.bin .rem t x y) (ak q) 1 ah k):=
 nN _ (λM _ _ ai aw=> @aT.rem (cY M (_::env)) P t x y (ak q) a b h0 af fl j6 rfl ((ai x).trans aq) ((ai y).trans bE) aw) h rfl aA bb
theorem aiO {c0:Array aK} (aq:ex (.int hD (max a b)::env) (q+1) x= .int hD a) (bE:ex (.int hD (max a b)::env) (q+1) y= .int hD b) (h:X B W az ro post (q+1) (.int hD (max a b)::env) L aU k) (fl:aM x=true:=by rfl) (j6:aM y=true:=by rfl) (aA:Nat.blt q eZ=true:=by rfl) (bb:n=q:=by rfl):X B W az ro post n env L aU (.o (.eY c0 t x y) (ak q) 1 ah k):=
 nN _ (λM _ _ ai aw=> @aT.pY (cY M (_::env)) P c0 t x y (ak q) hD a b fl j6 rfl ((ai x).trans aq) ((ai y).trans bE) aw) h rfl aA bb
theorem aiP {c0:Array aK} (aq:ex (.int hD (min a b)::env) (q+1) x= .int hD a) (bE:ex (.int hD (min a b)::env) (q+1) y= .int hD b) (h:X B W az ro post (q+1) (.int hD (min a b)::env) L aU k) (fl:aM x=true:=by rfl) (j6:aM y=true:=by rfl) (aA:Nat.blt q eZ=true:=by rfl) (bb:n=q:=by rfl):X B W az ro post n env L aU (.o (.lO c0 t x y) (ak q) 1 ah k):=
 nN _ (λM _ _ ai aw=> @aT.s9 (cY M (_::env)) P c0 t x y (ak q) hD a b fl j6 rfl ((ai x).trans aq) ((ai y).trans bE) aw) h rfl aA bb
end
theorem KS {x:J} {b:Bool} (aq:ex (.bool (!b)::env) (q+1) x= .bool b) (h:X B W az ro post (q+1) (.bool (!b)::env) L aU k) (fl:aM x=true:=by rfl) (aA:Nat.blt q eZ=true:=by rfl) (bb:n=q:=by rfl):X B W az ro post n env L aU (.o (.un .not x) (ak q) 1 ah k):=
 nN _ (λM _ _ ai aw=>by
  have:= @aT.N_ (cY M (_::env)) P x b (!b) fl ((ai x).trans aq) rfl
  exact GO this (by rw[aw];rfl)) h rfl aA bb
theorem aiQ {t:aK} {x y:J} {a b:Bool} (aq:ex (.bool (a==b)::env) (q+1) x= .bool a) (bE:ex (.bool (a==b)::env) (q+1) y= .bool b) (h:X B W az ro post (q+1) (.bool (a==b)::env) L aU k) (aL:P.underlying t=some .bool:=by kernel_rfl) (fl:aM x=true:=by rfl) (j6:aM y=true:=by rfl) (aA:Nat.blt q eZ=true:=by rfl) (bb:n=q:=by rfl):X B W az ro post n env L aU (.o (.bin .eql t x y) (ak q) 1 ah k):=
 nN _ (λM _ _ ai aw=>GO (@aT.Fy (cY M (_::env)) P t x y a b _ aL fl j6 ((ai x).trans aq) ((ai y).trans bE) rfl) (by rw[aw];rfl)) h rfl aA bb
theorem aiR {t:aK} {x y:J} {a b:Bool} (aq:ex (.bool (!(a==b))::env) (q+1) x= .bool a) (bE:ex (.bool (!(a==b))::env) (q+1) y= .bool b) (h:X B W az ro post (q+1) (.bool (!(a==b))::env) L aU k) (aL:P.underlying t=some .bool:=by kernel_rfl) (fl:aM x=true:=by rfl) (j6:aM y=true:=by rfl) (aA:Nat.blt q eZ=true:=by rfl) (bb:n=q:=by rfl):X B W az ro post n env L aU (.o (.bin .neq t x y) (ak q) 1 ah k):=
 nN _ (λM _ _ ai aw=>GO (@aT.afk (cY M (_::env)) P t x y a b _ aL fl j6 ((ai x).trans aq) ((ai y).trans bE) rfl) (by rw[aw];rfl)) h rfl aA bb
def oF (v:J) (j k o:Nat):J:=hb v (j*k+o)
def lH (c:List J):Nat->List J->List J
 |0,e=>e
 |m+1,e=>c.getD m undef::lH c m e
theorem zZ:∀(m:Nat) (c e:List J),lH c m e=((List.range m).map λi=>c.getD i undef).reverse++e
 |0,c,e=>rfl
 |m+1,c,e=>by
  unfold lH;rw[zZ m c e,List.range_succ];simp
theorem BN (c:List J) (m:Nat) (h:c.length=m):(List.range m).map (λi=>c.getD i undef)=c:=by
 apply List.ext_getElem
 ·simp [h]
 ·intro i ad ag
  simp only [List.getElem_map,List.getElem_range];rw[dp,f_ ag];rfl
theorem Yz {α:Type} {l:List α} {j:Nat} (d:α) (h:j<l.length):l[j]? =some (l.getD j d):=by
 rw[dp,f_ h];rfl
section
variable {t:aK} {x y i:J} {hD:IntKind} {K:js P} {v:J} {l:List K.α}
theorem YA {a:Option Addr} {m c e:Nat} {ty:aK} (aq:ex (.int .i64 (m:Nat)::env) (q+1) x= .slice a m c) (h:X B W az ro post (q+1) (.int .i64 (m:Nat)::env) L aU k) (aL:P.underlying t=some (.slice e):=by kernel_rfl) (fl:aM x=true:=by rfl) (aA:Nat.blt q eZ=true:=by rfl) (bb:n=q:=by rfl):X B W az ro post n env L aU (.o (.len #[t] ty x) (ak q) 1 [0,e] k):=
 nN _ (λM _ _ ai aw=> @aT.len (cY M (_::env)) P t ty e x (ak q) a m c fl rfl aL ((ai x).trans aq) aw) h rfl aA bb
theorem YB {j e a_:Nat} (aq:ex (oF v j K.k 0::env) (q+1) x=v) (ai:ex (oF v j K.k 0::env) (q+1) i= .int hD (j:Nat)) (h:X B W az ro post (q+1) (oF v j K.k 0::env) L aU k) (aw:nk ro L K v l:=by exact D4) (hj:j<l.length:=by omega) (aL:P.underlying t=some (.slice K.e):=by kernel_rfl) (fl:aM x=true:=by rfl) (pi:aM i=true:=by rfl) (aA:Nat.blt q eZ=true:=by rfl) (bb:n=q:=by rfl):
  X B W az ro post n env L aU (.o (.dG t x i) (ak q) 1 [0,e,a_] k):=
 nN _ (λM bt ao qR tr=> @aT.Ft (cY M (_::env)) P K.α K.k K.enc v l (aw.sc bt ao) t K.e x i (ak q) j hD hj fl pi rfl aL K.size ((qR x).trans aq) ((qR i).trans ai) tr) h rfl aA bb
theorem KT {a:Int} {e a_:Nat} (aq:ex (oF v a.toNat K.k 0::env) (q+1) x=v) (ai:ex (oF v a.toNat K.k 0::env) (q+1) i= .int hD a) (h:X B W az ro post (q+1) (oF v a.toNat K.k 0::env) L aU k) (aw:nk ro L K v l:=by exact D4) (h0:0<=a:=by omega) (hj:a.toNat<l.length:=by omega) (aL:P.underlying t=some (.slice K.e):=by kernel_rfl) (fl:aM x=true:=by rfl) (pi:aM i=true:=by rfl) (aA:Nat.blt q eZ=true:=by rfl) (bb:n=q:=by rfl):
  X B W az ro post n env L aU (.o (.dG t x i) (ak q) 1 [0,e,a_] k):=
 YB aq (by rw[ai,Int.toNat_of_nonneg h0]) h aw hj aL fl pi aA bb
theorem aiS {j o off ty a_ f:Nat} (aq:ex (oF v j K.k (o+off)::env) (q+1) x=oF v j K.k o) (h:X B W az ro post (q+1) (oF v j K.k (o+off)::env) L aU k) (aw:nk ro L K v l:=by exact D4) (hj:j<l.length:=by omega) (aQ:((P.fieldsOf t)[f]?).map (λf=>(f.type,f.offset))=some (ty,off):=by kernel_rfl) (aL:bg P (underlying t)=some (.struct (P.fieldsOf t)):=by kernel_rfl) (hm:bg P (sizeOf ty)=some a_:=by kernel_rfl) (h0:a_≠0:=by decide) (fl:aM x=true:=by rfl) (aA:Nat.blt q eZ=true:=by rfl) (bb:n=q:=by rfl):
  X B W az ro post n env L aU (.o (.cn t x f) (ak q) 1 [off,ty,a_] k):=
 nN _ (λM bt ao qR tr=>by
  obtain⟨iv,yj,aiT⟩:=Option.map_eq_some_iff.1 aQ;cases aiT
  exact @aT.VH (cY M (oF v j K.k (o+iv.offset)::env)) P t x (ak q) v f (j*K.k+o) (j*K.k+(o+iv.offset)) (P.fieldsOf t) iv a_ fl rfl aL yj hm h0 (@Oc (cY M (oF v j K.k (o+iv.offset)::env)) _ _ _ _ _ (aw.sc bt ao) j hj) aj ((qR x).trans aq) tr) h rfl aA bb
theorem aiU {j o c m e a_:Nat} (aq:ex (oF v j K.k (o+c*a_)::env) (q+1) x=oF v j K.k o) (ai:ex (oF v j K.k (o+c*a_)::env) (q+1) i= .int hD (c:Nat)) (h:X B W az ro post (q+1) (oF v j K.k (o+c*a_)::env) L aU k) (aw:nk ro L K v l:=by exact D4) (hj:j<l.length:=by omega) (ar:c<m:=by omega) (aL:P.underlying t=some (.array m e):=by kernel_rfl) (bU:bg P (sizeOf e)=some a_:=by kernel_rfl) (fl:aM x=true:=by rfl) (pi:aM i=true:=by rfl) (aA:Nat.blt q eZ=true:=by rfl) (bb:n=q:=by rfl):
  X B W az ro post n env L aU (.o (.dG t x i) (ak q) 1 [1,m,e,a_] k):=
 nN _ (λM bt ao qR tr=> @aT.afm (cY M (oF v j K.k (o+c*a_)::env)) P t e x i (ak q) v m a_ c (j*K.k+o) (j*K.k+(o+c*a_)) hD fl pi rfl aL bU (@Oc (cY M (oF v j K.k (o+c*a_)::env)) _ _ _ _ _ (aw.sc bt ao) j hj) ar aj ((qR x).trans aq) ((qR i).trans ai) tr) h rfl aA bb
theorem BO {j o a_:Nat} {u:J} (aq:ex (u::env) (q+1) x=oF v j K.k o) (hu:(K.enc (l.getD j K.KA))[o]? =some u) (h:X B W az ro post (q+1) (u::env) L aU k) (aw:nk ro L K v l:=by exact D4) (hj:j<l.length:=by omega) (ad:oZ u=u:=by rfl) (ha:bg P (isAgg t)=some false:=by kernel_rfl) (fl:aM x=true:=by rfl) (aA:Nat.blt q eZ=true:=by rfl) (bb:n=q:=by rfl):
  X B W az ro post n env L aU (.o (.bA t x) (ak q) 1 [a_] k):=
 nN _ (λM bt ao qR tr=> @aT.VI (cY M (_::env)) P K.α K.k K.enc v l (aw.sc bt ao) t x (ak q) j (j*K.k+o) o (l.getD j K.KA) u (Yz _ hj) fl rfl ha rfl hu ((qR x).trans aq) tr) h ad aA bb
theorem YC {f:gd} {m:Nat} (c:List J) (ar:c.length=m) (ad:gg c) (aQ:∀M,bI B (aG W) az M (db L)->hi ro M->(∀x,@aJ (cY M (lH c m env)) x=ex (lH c m env) (q+m) x)-> @aJ (cY M (lH c m env)) (.agg ⟨lZ m q⟩)= .agg ⟨c⟩-> @aT (cY M (lH c m env)) P (f,.agg ⟨lZ m q⟩)) (h:X B W az ro post (q+m) (lH c m env) L aU k) (aA:Nat.blt (q+m) eZ=true) (bb:n=q):
  X B W az ro post n env L aU (.o f (.agg ⟨lZ m q⟩) m ah k):=by
 subst bb;refine⟨λav ho=> ?_⟩;have e:lH c m env=c.reverse++env:=by rw[zZ,BN c m ar]
 have l9:gg (c.reverse++env):=tk (qM ad) ho;have fL:(c.reverse++env).length=n+m:=by simp [av,ar];omega
 have al:=h;rw[e] at al;refine .o c ar ad (λM bt ao=> ?_) (al fL l9);have:=aQ M bt ao;rw[e] at this;refine this (λx=>ml M l9 fL x) ?_;rw[ml M l9 fL];show Value.agg ⟨h9 (c.reverse++env) (n+m) (lZ m n)⟩= .agg ⟨c⟩;rw[aiH av ar (Nat.blt_eq.mp aA)]
theorem KU {j o a_:Nat} {c:List J} (aq:ex env n x=oF v j K.k o) (hu:c=((K.enc (l.getD j K.KA)).drop o).take a_) (ar:c.length=a_) (ad:gg c) (h:X B W az ro post (q+a_) (lH c a_ env) L aU k) (aw:nk ro L K v l:=by exact D4) (hj:j<l.length:=by omega) (ha:bg P (isAgg t)=some true:=by kernel_rfl) (bU:bg P (sizeOf t)=some a_:=by kernel_rfl) (fl:aM x=true:=by rfl) (Qo:kN n x=true:=by rfl) (aA:Nat.blt (q+a_) eZ=true:=by rfl) (bb:n=q:=by rfl):
  X B W az ro post n env L aU (.o (.bA t x) (.agg ⟨lZ a_ q⟩) a_ [a_] k):=⟨λav ho=>
 YC c ar ad (λM bt ao qR tr=> @aT.afl (cY M (lH c a_ env)) P K.α K.k K.enc v l (aw.sc bt ao) t x _ j (j*K.k+o) o a_ (l.getD j K.KA) c (Yz _ hj) fl (Ql a_ q) ha bU rfl ar (λi u ai=>by
  rw[hu,List.getElem?_take] at ai;split at ai
  ·rw[List.getElem?_drop] at ai;exact ai
  ·cases ai) (by
   have e:lH c a_ env=c.reverse++env:=by rw[zZ,BN c a_ ar]
   rw[e,<-kO (uJ M M av) x Qo,ml M ho av,aq];rfl) tr) h aA bb av ho⟩
end
section
variable {t:aK} {x y i:J} {g ty:Nat} {cs:List J}
theorem aiV {a:Addr} (aq:ex (.pointer (some a)::env) (q+1) x= .pointer (some a)) (h:X B W az ro post (q+1) (.pointer (some a)::env) L aU k) (fl:aM x=true:=by rfl) (aA:Nat.blt q eZ=true:=by rfl) (bb:n=q:=by rfl):X B W az ro post n env L aU (.o (.dM x) (ak q) 1 ah k):=
 nN _ (λM _ _ ai aw=> @aT.Wj (cY M (_::env)) P x (ak q) a fl rfl ((ai x).trans aq) aw) h rfl aA bb
theorem aiW {o off f:Nat} {KV a_:Nat} (aq:ex (.pointer (some ⟨g,o+off,none⟩)::env) (q+1) x= .pointer (some ⟨g,o,none⟩)) (h:X B W az ro post (q+1) (.pointer (some ⟨g,o+off,none⟩)::env) L aU k) (aQ:((P.fieldsOf t)[f]?).map (λf=>(f.type,f.offset))=some (KV,off):=by kernel_rfl) (aL:bg P (underlying t)=some (.struct (P.fieldsOf t)):=by kernel_rfl) (hm:bg P (sizeOf KV)=some a_:=by kernel_rfl) (h0:a_≠0:=by decide) (fl:aM x=true:=by rfl) (aA:Nat.blt q eZ=true:=by rfl) (bb:n=q:=by rfl):
  X B W az ro post n env L aU (.o (.cn t x f) (ak q) 1 [off,KV,a_] k):=
 nN _ (λM _ _ ai aw=> @aT.Wk (cY M (_::env)) P t x (ak q) f g o KV off a_ aQ aL hm h0 fl rfl ((ai x).trans aq) aw) h rfl aA bb
theorem YD {o j m e a_:Nat} {hD:IntKind} (aq:ex (.pointer (some ⟨g,o+j*a_,none⟩)::env) (q+1) x= .pointer (some ⟨g,o,none⟩)) (ai:ex (.pointer (some ⟨g,o+j*a_,none⟩)::env) (q+1) i= .int hD (j:Nat)) (h:X B W az ro post (q+1) (.pointer (some ⟨g,o+j*a_,none⟩)::env) L aU k) (hj:j<m:=by omega) (aL:P.underlying t=some (.array m e):=by kernel_rfl) (bU:bg P (sizeOf e)=some a_:=by kernel_rfl) (fl:aM x=true:=by rfl) (pi:aM i=true:=by rfl) (aA:Nat.blt q eZ=true:=by rfl) (bb:n=q:=by rfl):
  X B W az ro post n env L aU (.o (.dG t x i) (ak q) 1 [1,m,e,a_] k):=
 nN _ (λM _ _ qR aw=> @aT.V0 (cY M (_::env)) P t e x i (ak q) g o m a_ j hD fl pi rfl aL bU ((qR x).trans aq) ((qR i).trans ai) hj aw) h rfl aA bb
theorem BP {o a_:Nat} {u:J} (aq:ex (u::env) (q+1) x= .pointer (some ⟨g,o,none⟩)) (hL:mJ L (.box g ty cs)) (hu:cs[o]? =some u) (h:X B W az ro post (q+1) (u::env) L aU k) (ad:oZ u=u:=by rfl) (ha:bg P (isAgg t)=some false:=by kernel_rfl) (fl:aM x=true:=by rfl) (aA:Nat.blt q eZ=true:=by rfl) (bb:n=q:=by rfl):
  X B W az ro post n env L aU (.o (.bA t x) (ak q) 1 [a_] k):=
 nN _ (λM bt _ qR tr=> @aT.Wi (cY M (_::env)) P B g o ty t cs x (ak q) u (hL.get.elim λd bc=>bt.box d (lY bc)) hu fl rfl ha ((qR x).trans aq) tr) h ad aA bb
theorem yG {o a_:Nat} {c:List J} (aq:ex env n x= .pointer (some ⟨g,o,none⟩)) (hL:mJ L (.box g ty cs)) (hu:c=(cs.drop o).take a_) (ar:c.length=a_) (ad:gg c) (h:X B W az ro post (q+a_) (lH c a_ env) L aU k) (ha:bg P (isAgg t)=some true:=by kernel_rfl) (bU:bg P (sizeOf t)=some a_:=by kernel_rfl) (fl:aM x=true:=by rfl) (Qo:kN n x=true:=by rfl) (aA:Nat.blt (q+a_) eZ=true:=by rfl) (bb:n=q:=by rfl):
  X B W az ro post n env L aU (.o (.bA t x) (.agg ⟨lZ a_ q⟩) a_ [a_] k):=⟨λav ho=>
 YC c ar ad (λM bt ao qR tr=> @aT.JV (cY M (lH c a_ env)) P B g o a_ ty t cs c x _ (hL.get.elim λd bc=>bt.box d (lY bc)) hu fl (Ql a_ q) ha bU ar (by
   have e:lH c a_ env=c.reverse++env:=by rw[zZ,BN c a_ ar]
   rw[e,<-kO (uJ M M av) x Qo,ml M ho av,aq]) tr) h aA bb av ho⟩
end
theorem oG {x:J} {p:Prop} [Decidable p] (aq:ex env n x= .bool (decide p)) (ad:p->X B W az ro post n env L aU dg) (ag:¬p->X B W az ro post n env L aU k2):X B W az ro post n env L aU (.fR x dg k2):=⟨λav ho=>
 .fR _ aq (λh=>ad (of_decide_eq_true h) av ho) (λh=>ag (of_decide_eq_false h) av ho)⟩
theorem D6 {x:J} {p:Prop} [Decidable p] (aq:ex env n x= .bool (!decide p)) (ad:¬p->X B W az ro post n env L aU dg) (ag:p->X B W az ro post n env L aU k2):X B W az ro post n env L aU (.fR x dg k2):=⟨λav ho=>
 .fR _ aq (λh=>ad (by simpa using h) av ho) (λh=>ag (by simpa using h) av ho)⟩
theorem z1 {x:J} (aq:ex env n x= .bool true) (h:X B W az ro post n env L aU dg):X B W az ro post n env L aU (.fR x dg k2):=⟨λav ho=> .fR _ aq (λ_=>h av ho) (λh=>by cases h)⟩
theorem YE {x:J} (aq:ex env n x= .bool false) (h:X B W az ro post n env L aU k2):X B W az ro post n env L aU (.fR x dg k2):=⟨λav ho=> .fR _ aq (λh=>by cases h) (λ_=>h av ho)⟩
theorem aiX {t:aK} {x:J} {a:Addr} (aq:ex (.bool false::env) (q+1) x= .pointer (some a)) (h:X B W az ro post (q+1) (.bool false::env) L aU k) (aL:P.underlying t=some (.pointer (P.pointee t)):=by kernel_rfl) (fl:aM x=true:=by rfl) (aA:Nat.blt q eZ=true:=by rfl) (bb:n=q:=by rfl):X B W az ro post n env L aU (.o (.bin .eql t x (.pointer none)) (ak q) 1 ah k):=
 nN _ (λM _ _ ai aw=>GO (@aT.Xz (cY M (_::env)) P t x a fl aL ((ai x).trans aq)) (by rw[aw];rfl)) h rfl aA bb
theorem GR {x:J} {b:Bool} (aq:ex env n x= .bool b) (ad:b=true->X B W az ro post n env L aU dg) (ag:b=false->X B W az ro post n env L aU k2):X B W az ro post n env L aU (.fR x dg k2):=⟨λav ho=>
 .fR _ aq (λh=>ad h av ho) (λh=>ag h av ho)⟩
theorem qe {x:J} (h:post (ex env n x) L):X B W az ro post n env L aU (.ret x):=⟨λ_ _=> .ret L (pG.refl L) h⟩
theorem aiY {xg:fG P} (h:X B W az ro post n env L aU k):X B W az ro post n env L (xg::aU) (.gD k):=⟨λav ho=> .gD (h av ho)⟩
end
end AE
namespace AE
variable {P:aR} {B:Nat} {W:ax} {az:List cc} {ro:List (jc P)} {post:J->List (bs P)->Prop}
theorem lI.{u} {α:Type u} {l l':List α} {d:Nat} {a b:α} (h:pI l d a b l':=by repeat (first|exact pI.z|apply pI.s)):pI l d a b l':=h
theorem GU.{u} {α:Type u} {l l':List α} {i:Nat} {b:α} (h:xj l i b l':=by repeat (first|exact xj.z|apply xj.s)):xj l i b l':=h
theorem vX.{u} {α:Type u} {l l':List α} {a:α} (h:uP l a l':=by repeat (first|exact uP.z|apply uP.s)):uP l a l':=h
theorem o7 {l:List J} (h:gg l:=by repeat (first|exact trivial|refine⟨rfl,?_⟩)):gg l:=h
section
variable {n q:Nat} {env:List J} {L L':List (bs P)} {aU:List (fG P)} {k dg k2:bZ}
section
variable {t:aK} {p x:J}
theorem GV {d g ty j:Nat} {cs cs':List J} {u:J} (hp:ex env n p= .pointer (some ⟨g,j,none⟩)) (aq:ex env n x=u) (fo:pI L d (.box g ty cs) (.box g ty cs') L') (aw:xj cs j u cs') (h:X B W az ro post n env L' aU k) (hu:u.cells= #[u]:=by rfl) (ad:u.oneCell'=true:=by rfl) (bU:bg P (sizeOf t)=some 1:=by kernel_rfl):
  X B W az ro post n env L aU (.st t p x k):=⟨λav ho=>by
 obtain⟨ai,rfl⟩:=fo.get;obtain⟨rfl,hj⟩:=aw.eq
 exact .P2 d ai hp aq hj hu ad bU (h av ho)⟩
theorem YF {d g ty j:Nat} {cs cs':List J} {u:J} (hp:ex env n p= .pointer (some ⟨g,j,none⟩)) (aq:ex env n x=u) (fo:pI L d (.box g ty cs) (.box g ty cs') L') (aw:cs'=cs.set j u) (h:X B W az ro post n env L' aU k) (hj:j<cs.length) (hu:u.cells= #[u]:=by rfl) (ad:u.oneCell'=true:=by rfl) (bU:bg P (sizeOf t)=some 1:=by kernel_rfl):
  X B W az ro post n env L aU (.st t p x k):=⟨λav ho=>by
 obtain⟨ai,rfl⟩:=fo.get;subst aw
 exact .P2 d ai hp aq hj hu ad bU (h av ho)⟩
theorem BQ {K:js P} {v:J} {l ly:List K.α} {d j o:Nat} {u:J} (y:K.α) (hp:ex env n p=oF v j K.k o) (aq:ex env n x=u) (fo:pI L d (.arr K v l) (.arr K v ly) L') (hl:ly=l.set j y) (bE:∀z,l[j]? =some z->K.enc y=(K.enc z).set o u) (h:X B W az ro post n env L' aU k) (hj:j<l.length:=by omega) (ho:o<K.k:=by decide) (hu:u.cells= #[u]:=by rfl) (ad:u.oneCell'=true:=by rfl) (bU:bg P (sizeOf t)=some 1:=by kernel_rfl):
  X B W az ro post n env L aU (.st t p x k):=⟨λav l9=>by
 obtain⟨ai,rfl⟩:=fo.get;subst hl
 exact .X9 d j o y ai hp hj aq ho hu ad bE bU (h av l9)⟩
theorem GX {d g ty j m:Nat} {cs cs' us:List J} (hp:ex env n p= .pointer (some ⟨g,j,none⟩)) (aq:ex env n x= .agg ⟨us⟩) (fo:pI L d (.box g ty cs) (.box g ty cs') L') (aw:cs'=cs.take j++us++cs.drop (j+m)) (h:X B W az ro post n env L' aU k) (hj:j+m<=cs.length:=by exact gG rfl) (hu:us.length=m:=by rfl) (ad:∀u∈us,u.oneCell'=true:=by repeat (first|exact FO|refine p6 rfl ?_)) (bU:bg P (sizeOf t)=some m:=by kernel_rfl):
  X B W az ro post n env L aU (.st t p x k):=⟨λav ho=>by
 obtain⟨ai,rfl⟩:=fo.get;subst aw
 exact .X8 d ai hp aq hj hu ad bU (h av ho)⟩
end
theorem aiZ {t:aK} {s:J} {c us cs cs':List J} {d g ty j m wM e:Nat} (aw:ex env n s= .slice (some ⟨g,j,none⟩) m wM) (aq:h9 env n c=us) (fo:pI L d (.box g ty cs) (.box g ty cs') L') (he:cs'=cs.take j++us++cs.drop (j+us.length)) (h:X B W az ro post n env L' aU k)
  (h0:0<us.length:=by exact gG rfl) (hm:us.length<=m:=by exact gG rfl) (hj:j+us.length<=cs.length:=by exact gG rfl) (ad:∀u∈us,u.oneCell'=true:=by repeat (first|exact FO|refine p6 rfl ?_)) (aL:P.underlying t=some (.slice e):=by kernel_rfl) (bU:(P.info? e).map (·.size)=some 1:=by kernel_rfl):
  X B W az ro post n env L aU (.sd t s c k):=⟨λav ho=>by
 obtain⟨ai,rfl⟩:=fo.get;subst he
 exact .sd d ai aw aq aL bU h0 hm ad hj (h av ho)⟩
theorem Qp {t:aK} {x:J} {g ty:Nat} {cs:List J} {L':List (bs P)} (aq:ex env n x= .pointer (some ⟨g,0,none⟩)) (hL:mJ L (.box g ty cs)) (eA:∀M,bI B (aG W) az M (db L)->bI B (aG W) az M (db L')) (h:post (.agg ⟨cs⟩) L') (ha:bg P (isAgg t)=some true:=by kernel_rfl) (aw:bg P (sizeOf t)=some cs.length:=by kernel_rfl) (aC:aM (.agg ⟨cs⟩)=true:=by rfl) (ai:∀gn,@aJ gn (.agg ⟨cs⟩)= .agg ⟨cs⟩:=by exact λ_=>rfl):
 X B W az ro post n env L aU (.tn t x):=⟨λ_ _=>hL.get.elim λi aA=> .tn i aA aq ha aw aC ai L' eA h⟩
section
variable {t:aK} {s x:J} {c:List J} {K:js P} {v:J} {l:List K.α}
theorem ai0 {d:Nat} {L':Option Addr->Nat->List (bs P)} (lx:List K.α) (aw:ex env n s=v) (fo:∀a c,pI L d (.arr K v l) (.arr K (.slice a (l++lx).length c) (l++lx)) (L' a c)) (aq:h9 env n c=lx.flatMap K.enc) (h:∀a c,X B W az ro post (n+1) (.slice a (l++lx).length c::env) (L' a c) aU k) (iS:l.length+lx.length<=maxLen) (af:(l.length+lx.length)*K.bytes<=140737488355328) (aL:P.underlying t=some (.slice K.e):=by kernel_rfl):
  X B W az ro post n env L aU (.yz t s c k):=⟨λav ho=>
 .X' d lx (fo none 0).get.1 aw aq aL iS af λa c=>(fo a c).get.2▸h a c (by simp [av]) ⟨rfl,ho⟩⟩
theorem YG {d:Nat} {L':Option Addr->Nat->List (bs P)} {lG:J} {lx:List K.α} (aw:ex env n s=v) (aq:ex env n x=lG) (fo:∀a c,pI L d (.iT K v l) (.iT K (.slice a (l++lx).length c) (l++lx)) (L' a c)) (jV:nk ro L K lG lx) (h:∀a c,X B W az ro post (n+1) (.slice a (l++lx).length c::env) (L' a c) aU k) (iS:l.length+lx.length<=maxLen) (af:(l.length+lx.length)*K.bytes<=140737488355328) (aL:P.underlying t=some (.slice K.e):=by kernel_rfl):
  X B W az ro post n env L aU (.xe t s x k):=⟨λav ho=>
 .X_ d lG lx (fo none 0).get.1 aw aq aL (λ_ bt ao=>jV.sc bt ao) iS af λa c=>(fo a c).get.2▸h a c (by simp [av]) ⟨rfl,ho⟩⟩
theorem YH {m cap:Nat} {L':Nat->List (bs P)} (K:js P) (xs:List K.α) (aq:h9 env n c=xs.flatMap K.enc) (fo:∀g,uP L (.red K (.slice (some ⟨g,0,none⟩) m cap) xs) (L' g)) (h:∀g,X B W az ro post (n+1) (.slice (some ⟨g,0,none⟩) m cap::env) (L' g) aU k) (hm:xs.length=m:=by rfl):X B W az ro post n env L aU (.uK c m cap k):=⟨λav ho=>
 .uK K xs aq hm λg=>(fo g).eq▸h g (by simp [av]) ⟨rfl,ho⟩⟩
theorem Qq {L':Nat->List (bs P)} {u:J} {cs:List J} (aq:ex env n x=u) (hu:u.cells=⟨cs⟩) (fo:∀g,uP L (.box g t cs) (L' g)) (h:∀g,X B W az ro post (n+1) (.pointer (some ⟨g,0,none⟩)::env) (L' g) aU k):X B W az ro post n env L aU (.tm t x k):=⟨λav ho=>
 .tm aq hu λg=>(fo g).eq▸h g (by simp [av]) ⟨rfl,ho⟩⟩
theorem D7 {L':Nat->List (bs P)} {z:J} (cs:List J) (bU:bg P (zeroValue t)=some z) (hu:z.cells=⟨cs⟩) (fo:∀g,uP L (.box g t cs) (L' g)) (h:∀g,X B W az ro post (n+1) (.pointer (some ⟨g,0,none⟩)::env) (L' g) aU k):X B W az ro post n env L aU (.qN t k):=⟨λav ho=>
 .qN bU hu λg=>(fo g).eq▸h g (by simp [av]) ⟨rfl,ho⟩⟩
end
section
variable {f:FuncId} {args:List J} {r:J} {m:Nat}
theorem o8 {v:J} (ar:∀w,rz W az ro L w->Calls P f ⟨h9 env n args⟩ w λe w'=>e= .returned v/\cg w.heap.size w w') (h:X B W az ro post (q+1) (v::env) L aU k) (ad:oZ v=v:=by rfl) (aA:Nat.blt q eZ=true:=by rfl) (bb:n=q:=by rfl):X B W az ro post n env L aU (.c f args (ak q) 1 k):=by
 subst bb;refine⟨λav ho=> ?_⟩;have fL:(v::env).length=n+1:=by simp [av]
 refine .c [v] rfl ⟨ad,trivial⟩ (λw hw=> ?_) (h fL ⟨ad,ho⟩);have:=uO (M:=λ_=>none) aA av ho ad;rw[ml (λ_=>none) (env:=v::env) (n:=n+1) ⟨ad,ho⟩ fL] at this;show Calls P f _ w λe w'=>e= .returned (ex (v::env) (n+1) (ak n))/\_
 rw[this];exact ar w hw
theorem Qr (vs:List J) {rv:J} (ar:∀w,rz W az ro L w->Calls P f ⟨h9 env n args⟩ w λe w'=>e= .returned rv/\cg w.heap.size w w') (ao:ex (lH vs m env) (n+m) r=rv) (h:X B W az ro post (n+m) (lH vs m env) L aU k) (ad:gg vs:=by exact o7) (hm:vs.length=m:=by rfl):X B W az ro post n env L aU (.c f args r m k):=by
 refine⟨λav ho=> ?_⟩;have e:lH vs m env=vs.reverse++env:=by rw[zZ,BN vs m hm]
 rw[e] at h ao;refine .c vs hm ad (λw hw=> ?_) (h (by simp [av,hm];omega) (tk (qM ad) ho));rw[ao];exact ar w hw
theorem qS (Y:Type) (is:List Nat) (vs:Y->List J) (km vU:Y->List (bs P)) {L':Y->List (bs P)} (ar:∀w,rz W az ro L w->cG (aG w) (pick (db L) is)->Calls P f ⟨h9 env n args⟩ w λe w'=>(∃y,e= .returned (ex (lH (vs y) m env) (n+m) r)/\cV (aG w) (pick (db L) is) (aG w') (db (km y++vU y)))/\cg 0 w w')
  (hL:∀y,vT L is (km y)++vU y=L' y) (h:∀y,X B W az ro post (n+m) (lH (vs y) m env) (L' y) aU k) (ik:kl L.length is=true:=by rfl) (hl:∀y,(km y).length=is.length:=by exact λ_=>rfl) (hm:∀y,(vs y).length=m:=by exact λ_=>rfl) (ad:∀y,gg (vs y):=by exact λ_=>o7):X B W az ro post n env L aU (.call f args r m k):=by
 refine⟨λav ho=> ?_⟩;have e:∀y,lH (vs y) m env=(vs y).reverse++env:=λy=>by rw[zZ,BN _ m (hm y)]
 refine .call Y is ik vs km vU hl hm ad (λw hw _ aI=> ?_) (λy=> ?_)
 ·refine(ar w hw aI).mono λe' w' h=> ?_
  obtain⟨⟨y,bE,aw⟩,hl⟩:=h;exact⟨⟨y,by rw[<-e y];exact bE,aw⟩,hl⟩
 ·have:=h y (by rw[e y];simp [av,hm y];omega) (by rw[e y];exact tk (qM (ad y)) ho)
  rw[e y,<-hL y] at this;exact this
end
theorem BR {vs:List J} {m:Nat} (da:Type) (bp:da->List J) (b9:da->List (bs P)) (gw:da->Prop) (iR:da->Nat) (mc:da) (h0:h9 env n vs=bp mc) (hL:L=b9 mc) (bf:gw mc)
  (h:∀u,gw u->X B W az ro post (n+m) (lH (bp u) m env) (b9 u) ((λcL L'=>∃u',gw u'/\iR u'<iR u/\cL=bp u'/\pG B W az L' (b9 u'))::aU) k) (hm:∀u,(bp u).length=m:=by exact λ_=>rfl) (ad:∀u,gg (bp u):=by exact λ_=>o7):X B W az ro post n env L aU (.loop vs m k):=⟨λav ho=>by
 refine .loop da bp b9 gw iR mc hm ad h0 (hL▸pG.refl L) bf λu hu=> ?_
 have e:lH (bp u) m env=(bp u).reverse++env:=by rw[zZ,BN _ m (hm u)]
 have:=h u hu (by rw[e];simp [av,hm u];omega) (by rw[e];exact tk (qM (ad u)) ho);rw[e] at this
 exact this⟩
theorem sw {da:Type} {bp:da->List J} {b9:da->List (bs P)} {gw:da->Prop} {iR:da->Nat} {u:da} {vs:List J} (u':da) (aC:h9 env n vs=bp u') (hL:L=b9 u') (bf:gw u') (Bs:iR u'<iR u):
 X B W az ro post n env L ((λcL L'=>∃u',gw u'/\iR u'<iR u/\cL=bp u'/\pG B W az L' (b9 u'))::aU) (.back vs):=⟨λ_ _=> .back ⟨u',bf,Bs,aC,hL▸pG.refl L⟩⟩
end
theorem ai1 {n:Nat} {env:List J} {L:List (bs P)} {aU:List (fG P)} {k dg k2:bZ} {x:J} {m:Nat} {p:Prop} [Decidable p] (da:Type) (bp:da->List J) (b9:da->List (bs P)) (gw:da->Prop) (aq:ex env n x= .bool (decide p))
  (ad:p->X B W az ro post n env L ((λcL L'=>∃u',gw u'/\cL=bp u'/\pG B W az L' (b9 u'))::aU) dg) (ag:¬p->X B W az ro post n env L ((λcL L'=>∃u',gw u'/\cL=bp u'/\pG B W az L' (b9 u'))::aU) k2)
  (h:∀u,gw u->X B W az ro post (n+m) (lH (bp u) m env) (b9 u) aU k) (hm:∀u,(bp u).length=m:=by exact λ_=>rfl) (ho:∀u,gg (bp u):=by exact λ_=>o7):X B W az ro post n env L aU (.vP x dg k2 m k):=⟨λav l9=>by
 refine .vP _ aq da bp b9 gw hm ho (λaf=>ad (of_decide_eq_true af) av l9) (λaf=>ag (of_decide_eq_false af) av l9) λu hu=> ?_
 have e:lH (bp u) m env=(bp u).reverse++env:=by rw[zZ,BN _ m (hm u)]
 have:=h u hu (by rw[e];simp [av,hm u];omega) (by rw[e];exact tk (qM (ho u)) l9);rw[e] at this
 exact this⟩
theorem Qs {n:Nat} {env:List J} {L:List (bs P)} {aU:List (fG P)} {da:Type} {bp:da->List J} {b9:da->List (bs P)} {gw:da->Prop} {vs:List J} (u':da) (aC:h9 env n vs=bp u') (hL:L=b9 u') (bf:gw u'):
 X B W az ro post n env L ((λcL L'=>∃u',gw u'/\cL=bp u'/\pG B W az L' (b9 u'))::aU) (.back vs):=⟨λ_ _=> .back ⟨u',bf,aC,hL▸pG.refl L⟩⟩
structure ai2 (q:Prop):Prop where
 go:q
theorem dn {p q:Prop} (k:q) (h:ai2 q->p:=by
 intro od
 repeat (first
  |refine Yx U U ?_|refine aiI U U ?_|refine Qm U U ?_|refine Yy U U ?_|refine D5 U U ?_|refine Qn U U ?_
  |refine aiJ U U ?_|refine aiK U U ?_|refine aiL U U ?_|refine aiO U U ?_|refine aiP U U ?_|refine aiM U U ?_|refine aiN U U ?_
  |refine KS rfl ?_|refine YA rfl ?_|refine aiV rfl ?_|refine aiW rfl ?_|refine BP rfl has rfl ?_|refine YB U U ?_|refine KT U U ?_|refine aiS rfl ?_|refine aiU U U ?_|refine BO U U ?_|refine YD U U ?_
  |refine aiQ U U ?_|refine aiR U U ?_|refine GV U U lI GU ?_|refine aiY ?_)
 exact od.go):p:=h ⟨k⟩
end AE
namespace AE
variable {P:aR} {B:Nat} {W:ax} {az:List cc} {ro:List (jc P)} {post:J->List (bs P)->Prop}
def yH.{u} {α:Type u}:List α->List Nat->List α->List α
 |L,i::is,R::jq=>yH (L.set i R) is jq
 |L,[],jq=>L++jq
 |L,_::_,[]=>L
theorem YI.{u} {α:Type u}:∀(is:List Nat) (L jq:List α),is.length<=jq.length->vT L is (jq.take is.length)++jq.drop is.length=yH L is jq
 |[],L,jq,_=>by simp [vT,yH]
 |i::is,L,[],h=>by simp at h
 |i::is,L,R::jq,h=>by
  simp only [List.length_cons,List.take_succ_cons,List.drop_succ_cons];exact YI is (L.set i R) jq (by simpa using h)
def nm (P:aR) (f:FuncId) (args:List J) (W:ax) (L:List (bs P)) (Y:Type) (v:Y->J) (N:Y->List (bs P)):Prop:=
 Calls P f ⟨args⟩ W λx w'=>(∃y,x= .returned (v y)/\cV (aG W) (db L) (aG w') (db (N y)))/\cg 0 W w'
section
variable {n:Nat} {env:List J} {L:List (bs P)} {aU:List (fG P)} {k:bZ} {f:FuncId} {args:List J} {r:J} {m:Nat}
theorem n9 {lF:List (bs P)} {Y:Type} {v:Y->J} {N L':Y->List (bs P)} {a7:List J} (is:List Nat) (vs:Y->List J) (ar:∀w,rz W az ro L w->cG (aG w) (db lF)->nm P f a7 w lF Y v N)
  (h:∀y,X B W az ro post (n+m) (lH (vs y) m env) (L' y) aU k) (ao:∀y,ex (lH (vs y) m env) (n+m) r=v y:=by exact λ_=>rfl) (hL:∀y,yH L is (N y)=L' y:=by exact λ_=>rfl) (hp:pick (db L) is=db lF:=by rfl) (ik:kl L.length is=true:=by rfl)
  (hl:∀y,is.length<=(N y).length:=by exact λ_=>gG rfl) (hm:∀y,(vs y).length=m:=by exact λ_=>rfl) (ad:∀y,gg (vs y):=by exact λ_=>o7) (ha:h9 env n args=a7:=by rfl):X B W az ro post n env L aU (.call f args r m k):=
 qS Y is vs (λy=>(N y).take is.length) (λy=>(N y).drop is.length) (λw hw aI=>by
  rw[hp] at aI ⊢;rw[ha];refine(ar w hw aI).mono λe w' aq=> ?_
  obtain⟨⟨y,bE,aL⟩,hl⟩:=aq
  exact⟨⟨y,by rw[bE,ao y],by rw[List.take_append_drop];exact aL⟩,hl⟩) (λy=>(YI is L (N y) (hl y)).trans (hL y)) h ik (λy=>by rw[List.length_take];exact Nat.min_eq_left (hl y)) hm ad
end
theorem hi.nil (M:Mem):hi ([]:List (jc P)) M:=λi r h=>by simp at h
theorem hi.cons {r:jc P} {l:List (jc P)} {M:Mem} (h:r.ok M) (hl:hi l M):hi (r::l) M:=λi q bb=>by
 cases i with
 |zero=>simp only [List.getElem?_cons_zero,cN] at bb;subst bb;exact h
 |succ i=>exact hl i q (by simpa using bb)
theorem hi.ext {l:List (jc P)} (h:hi l (aG W)):∀M,pE (aG W) [] M->hi l M:=λ_ bt i r ao=>cF.mono (h i r ao) λi o ai=>bt i o ai (Bn i)
theorem hi.none {az:List cc}:∀M,pE (aG W) az M->hi ([]:List (jc P)) M:=λM _=> .nil M
section
variable [Lib P] {f:FuncId} {h:DV} {args a7:List J} {n:Nat} {t:bZ}
theorem qf {L:List (bs P)} {Y:Type} {v:Y->J} {N:Y->List (bs P)} (cQ:P.follows .mixedOrders=true) (aA:l0 P f h args n=some t) (vs:List J) (aI:cG (aG W) (db L)) (dK:∀M,pE (aG W) (db L) M->hi ro M)
  (aq:X 0 W (db L) ro (λx L'=>∃y,x=v y/\L'=N y) n vs.reverse L [] t) (ha:h9 vs.reverse n args=a7:=by rfl) (av:vs.length=n:=by rfl) (ho:gg vs:=by exact o7):nm P f a7 W L Y v N:=by
 subst ha;refine(aiG cQ aA L aI dK av ho (aq (by simp [av]) (qM ho))).mono λe w q=> ?_
 obtain⟨⟨x,L',rfl,⟨y,rfl,rfl⟩,eA⟩,ag⟩:=q;exact⟨⟨y,rfl,eA⟩,ag⟩
end
end AE
namespace AE
variable {P:aR} {B:Nat} {W:ax} {az:List cc} {ro:List (jc P)} {post:J->List (bs P)->Prop}
theorem ai3 {t e:aK} {n j:Nat} {cs:List J} {k:IntKind} {u:J} (aL:P.underlying t=some (.array n e)) (cr:bg P (sizeOf e)=some 1) (ha:bg P (isAgg e)=some false) (hj:j<n) (hu:cs[j]? =some u) (w:ax):(Instr.index t (.agg ⟨cs⟩) (.int k (j:Nat))).run P w= .ok u w:=by
 have ad:(asIntOf (.int k (j:Nat))).run P w= .ok (k,((j:Nat):Int)) w:=rfl;have ah:(0:Int)<=((j:Nat):Int)/\((j:Nat):Int)<((n:Nat):Int):=⟨aj,aj⟩;unfold Instr.index;simp only [Sem.run_bind,ad,Result.andThen_ok,run_underlying aL];rw[aY ah];simp only [Sem.run_bind,jz cr w,Result.andThen_ok];unfold part;simp only [Sem.run_bind,jz ha w,Result.andThen_ok];simp [hu]
theorem aT.ai4 [a1] {t e:aK} {x i r:J} {n j:Nat} {cs:List J} {k:IntKind} {u:J} (aq:aM x=true) (ai:aM i=true) (ao:aM r=true) (aL:P.underlying t=some (.array n e)) (cr:bg P (sizeOf e)=some 1) (ha:bg P (isAgg e)=some false) (hj:j<n) (hu:cs[j]? =some u)
  (ex:aJ x= .agg ⟨cs⟩) (hB:aJ i= .int k (j:Nat)) (b9:aJ r=u):aT P (.fX t x i,r):=by
 refine Dw (by simp [oq,aq,ai]) ao rfl λd_ ea w _=> ?_
 show (gk d_ ea (.fX t (aJ x) (aJ i))).run P w=_;rw[ex,hB,b9];unfold gk;simp only [Sem.run_bind,ai3 aL cr ha hj hu w,Result.andThen_ok];rfl
section
variable {n q:Nat} {ah:List Nat} {env:List J} {L:List (bs P)} {aU:List (fG P)} {k:bZ} {t:aK} {x y i:J}
theorem YJ {m e j:Nat} {hD:IntKind} {cs:List J} {u:J} (aq:ex (u::env) (q+1) x= .agg ⟨cs⟩) (ai:ex (u::env) (q+1) i= .int hD (j:Nat)) (hu:cs[j]? =some u) (h:X B W az ro post (q+1) (u::env) L aU k) (hj:j<m:=by omega) (ad:oZ u=u:=by rfl) (aL:P.underlying t=some (.array m e):=by kernel_rfl) (cr:bg P (sizeOf e)=some 1:=by kernel_rfl) (ha:bg P (isAgg e)=some false:=by kernel_rfl) (fl:aM x=true:=by rfl) (pi:aM i=true:=by rfl) (aA:Nat.blt q eZ=true:=by rfl) (bb:n=q:=by rfl):
  X B W az ro post n env L aU (.o (.fX t x i) (ak q) 1 [1,m,e,1] k):=
 nN _ (λM _ _ lL aw=> @aT.ai4 P (cY M (_::env)) t e x i (ak q) m j cs hD u fl pi rfl aL cr ha hj hu ((lL x).trans aq) ((lL i).trans ai) aw) h ad aA bb
theorem Qt {a:Option Addr} {m c j e a_ m':Nat} (hm:m-j=m') (aq:ex (.slice (la a c j a_) m' (c-j)::env) (q+1) x= .slice a m c) (ai:ex (.slice (la a c j a_) m' (c-j)::env) (q+1) i= .int .i64 (j:Nat)) (h:X B W az ro post (q+1) (.slice (la a c j a_) m' (c-j)::env) L aU k) (hj:j<=m:=by omega) (aL:P.underlying t=some (.slice e):=by kernel_rfl) (cr:bg P (sizeOf e)=some a_:=by kernel_rfl) (fl:aM x=true:=by rfl) (pi:aM i=true:=by rfl) (aA:Nat.blt q eZ=true:=by rfl) (bb:n=q:=by rfl):
  X B W az ro post n env L aU (.o (.mb t x (some i) none none) (ak q) 1 [0,e,a_] k):=
 nN _ (λM _ _ lL aw=> @aT.VU (cY M (_::env)) P t e a_ x i (ak q) a m c j fl pi rfl aL cr ((lL x).trans aq) ((lL i).trans ai) hj (by rw[aw,hm])) h rfl aA bb
theorem ai5 {g o m e a_:Nat} (aq:ex (.slice (some ⟨g,o,none⟩) m m::env) (q+1) x= .pointer (some ⟨g,o,none⟩)) (h:X B W az ro post (q+1) (.slice (some ⟨g,o,none⟩) m m::env) L aU k) (h0:0<m:=by decide) (aL:P.underlying t=some (.array m e):=by kernel_rfl) (cr:bg P (sizeOf e)=some a_:=by kernel_rfl) (fl:aM x=true:=by rfl) (aA:Nat.blt q eZ=true:=by rfl) (bb:n=q:=by rfl):
  X B W az ro post n env L aU (.o (.mb t x none none none) (ak q) 1 [1,m,e,a_] k):=
 nN _ (λM _ _ lL aw=> @aT.afn (cY M (_::env)) P t e x (ak q) g o m a_ fl rfl aL cr ((lL x).trans aq) h0 aw) h rfl aA bb
theorem ai6 {xs ys:List J} {b:Bool} (aq:ex (.bool (!b)::env) (q+1) x= .agg ⟨xs⟩) (bE:ex (.bool (!b)::env) (q+1) y= .agg ⟨ys⟩) (he:r' P 10000 t (.agg ⟨xs⟩) (.agg ⟨ys⟩)=some b) (h:X B W az ro post (q+1) (.bool (!b)::env) L aU k) (ai7:P.eqGuardType P.depth t=false:=by kernel_rfl) (fl:aM x=true:=by rfl) (j6:aM y=true:=by rfl) (aA:Nat.blt q eZ=true:=by rfl) (bb:n=q:=by rfl):
  X B W az ro post n env L aU (.o (.bin .neq t x y) (ak q) 1 ah k):=
 nN _ (λM _ _ ai aw=>GO (@aT.JB (cY M (_::env)) P t x y ⟨xs⟩ ⟨ys⟩ b ai7 fl j6 ((ai x).trans aq) ((ai y).trans bE) he) (by rw[aw];rfl)) h rfl aA bb
end
section
variable {n:Nat} {env:List J} {L:List (bs P)} {aU:List (fG P)}
theorem ts {x:J} {L':List (bs P)} (eA:∀M,bI B (aG W) az M (db L)->bI B (aG W) az M (db L')) (h:post (ex env n x) L'):X B W az ro post n env L aU (.ret x):=⟨λ_ _=> .ret L' eA h⟩
end
theorem YK.{u} {α:Type u}:∀(L R pre:List α),L.length=R.length->yH (pre++L) (List.range' pre.length L.length) R=pre++R
 |[],[],pre,_=>by simp [yH]
 |a::L,r::R,pre,h=>by
  have:=YK L R (pre++[r]) (by simpa using h);rw[List.length_cons,List.range'_succ];show yH ((pre++a::L).set pre.length r) _ R=_;rw[List.set_append_right _ _ (cj _),Nat.sub_self,List.set_cons_zero];simpa using this
theorem KW.{u} {α:Type u} {n:Nat} {L R:List α} (hL:L.length=n) (jA:R.length=n):yH L (List.range' 0 n) R=R:=by
 subst hL;have:=YK L R [] jA.symm;simpa using this
theorem Qu {M:Mem} {L L':List (bs P)} (d:Nat) {K:js P} {a:Option Addr} {m c j m':Nat} {l ly:List K.α} (fo:pI L d (.iT K (.slice a m c) l) (.iT K (.slice (la a c j K.k) m' (c-j)) ly) L') (hl:ly=l.drop j) (hm:m-j=m') (hj:j<=m) (h:bI B (aG W) az M (db L)):bI B (aG W) az M (db L'):=by
 obtain⟨ai,rfl⟩:=fo.get;subst hl hm;rw[vV];exact h.lV d (lY ai) (FI ((h.iT d (lY ai)).drop K.len hj) (λ_ _ h _=>h) λi ai=> .inl (agf ai))
end AE
section
noncomputable section
namespace AE
def yI (P:aR) (e k bytes:Nat):Bool:=match P.info? e with
 |some i=>(match i.zero with|some z=>Nat.beq z.cells.size k|none=>false)&&(Nat.beq i.size k&&(Nat.beq i.bytes bytes&&(match bg P (sizeOf e) with|some m=>Nat.beq m k|none=>false)))
 |none=>false
theorem YL {P:aR} {e k bytes:Nat} (h:yI P e k bytes=true):(∃i z,P.info? e=some i/\i.zero=some z/\i.size=k/\i.bytes=bytes/\z.cells.size=k)/\bg P (sizeOf e)=some k:=by
 unfold yI at h;split at h
 ·rename_i i ai
  simp only [c7] at h;obtain⟨ad,ag,ay,bG⟩:=h;split at ad
  ·rename_i z bU
   split at bG
   ·rename_i m hm
    exact⟨⟨i,z,ai,bU,cH ag,cH ay,cH ad⟩,by rw[hm,cH bG]⟩
   ·cases bG
  ·cases ad
 ·cases h
@[reducible] def BS {P:aR} {α:Type} (d:α) (e k bytes:Nat) (enc:α->List J) (h:yI P e k bytes=true) (al:0<k:=by decide) (hl:∀x,(enc x).length=k:=by exact λ_=>rfl) (ho:∀x,∀u∈enc x,u.oneCell'=true:=by intro x;repeat (first|exact FO|refine p6 rfl ?_)):js P:=
  ⟨α,d,e,k,bytes,enc,hl,ho,al,(YL h).2,(YL h).1⟩
end AE
end
end
section
noncomputable section
namespace AE
abbrev bd:=List (gd×J)
abbrev dX:=List (FuncId×List J×J)
abbrev at' (N:Nat) (F:bd) (C:dX) (c:Code) (s:b6):Option bY:=VK Tryd.prog F C N 1000 10 c s
abbrev nO (N:Nat) (F:bd) (C:dX) (ks:List fi) (o:Option bY):Option bY:=VL Tryd.prog F C N 1000 10 ks o
abbrev tt (N:Nat) (F:bd) (C:dX) (m:Nat) (o:Option bY):Option bY:=N1 Tryd.prog F C N 1000 10 m o
abbrev D8 (N:Nat) (F:bd) (C:dX) (r:List Oper) (ops:Array Oper) (ks:List fi) (s:b6):Option bY:=A8 Tryd.prog F C N 1000 10 r ops ks s
abbrev dU:=Code×List Nat×Nat
def ow (p:dU):Array Oper:=af3 p.1 p.2.1
def YM (p:dU):List fi:=oA p.1 p.2.1 []
def YN (p:dU):List Oper:=(ow p).toList.drop p.2.2
def Qv (o:Option bY):List Oper×Array Oper×List fi:=(kH o,kI o,gA o)
def Qw (p:dU):List Oper×Array Oper×List fi:=(YN p,ow p,YM p)
abbrev cI (N:Nat) (F:bd) (C:dX) (p:dU) (s:b6):Option bY:=A8 Tryd.prog F C N 1000 10 (YN p) (ow p) (YM p) s
def e6 (N:Nat) (sl:aF) (dst:Nat) (v:J):aF:=match gZ N sl (some dst) v with|some s=>s|none=> .nil
section
variable [a1] [cS] {N B:Nat} {w0 w:ax} {a:Act} {Q:Exit->Act->ax->Prop} [mX Q]
theorem bx (F:bd) (T:dX) {c:Code} {s:b6} (dh:s' Tryd.prog F) (eA:r8 Tryd.prog T) (h:fy Tryd.prog N B w0 Q (at' N F T c s)) (ah:Here N s B w0 a w):c.wpIn (Fr none) 0 Tryd.prog Q a w:=ae7 mixed dh eA h ah
theorem dO {o:Option bY} {p:dU} {s:b6} (e:Qv o=Qw p) (F:bd) (T:dX) (dh:s' Tryd.prog F) (eA:r8 Tryd.prog T) (h:fy Tryd.prog N B w0 Q (cI N F T p s)) (ah:Here N s B w0 a w):wpListIn (Fr none) 0 Tryd.prog (kI o) (dY Tryd.prog (gA o) Q) (kH o) a w:=
 af4 (congrArg Prod.fst e) (congrArg (λx=>x.2.1) e) (congrArg (λx=>x.2.2) e) mixed dh eA h ah
theorem n' {ks:List fi} {o:Option bY} {R:Act->ax->Prop} (F:bd) (T:dX) (dh:s' Tryd.prog F) (eA:r8 Tryd.prog T) (h:fy Tryd.prog N B w0 Q (nO N F T ks o)):fy Tryd.prog N B w0 (Exit.then R (dY Tryd.prog ks Q)) o:=ae8 mixed dh eA h
end
theorem fq {s1 s2:a1} {l:eE} (h:fP s1 s2 l:=by repeat (first|exact zC|refine ae9 (by first|exact agk U U U U|rfl|exact ae_ U U aj|exact ae' aj|exact age rfl bK) ?_)):fP s1 s2 l:=h
theorem tu {s1:a1} [cS] {P:aR} {N B:Nat} {w0:ax} {X:Type} {gn:X->a1} {gw:X->Prop} {iR:X->Nat} {m:Nat} {head:aF} {aZ:List bu} {o:Option bY} (x':X) {bL:eE} {Q:Exit->Act->ax->Prop} (af:qE head aZ o=some bL) (hm:fP s1 (gn x') bL)
 (bf:gw x') (Bs:iR x'<m:=by (try dsimp only);omega) (qD:∀i o,(gn x').dq i=some o->s1.dq i=some o:=by exact λ_ _ h=>h) (av:cS.eu<=aZ.length:=by first|exact Nat.zero_le _|exact gG rfl) (ar:iy (b7 o).A aZ 0:=by exact gX rfl):
 @fy s1 _ P N B w0 (Exit.then (OF gn gw iR m N head aZ B w0) Q) o:=agj x' af hm qD bf Bs av ar
section
variable [a1] {P:aR}
theorem a8 {op:BinOp} {t:aK} {x y r:J} {k:IntKind} {a b:Int} (ex:aJ x= .int k a:=by exact rfl) (hK:aJ y= .int k b:=by exact rfl)
 (aq:aM x=true:=by exact rfl) (bE:aM y=true:=by exact rfl) (ao:aM r=true:=by exact rfl) (cy:zB op=true:=by exact rfl) (b9:aJ r=ye op k a b:=by exact afp aj):aT P (.bin op t x y,r):=aT.bi aq bE ao cy ex hK b9
theorem aS {op:BinOp} {t:aK} {x y r:J} {k:IntKind} {a b:Int} (ex:aJ x= .int k a:=by exact rfl) (hK:aJ y= .int k b:=by exact rfl)
 (aq:aM x=true:=by exact rfl) (bE:aM y=true:=by exact rfl) (ao:aM r=true:=by exact rfl) (cy:zB op=true:=by exact rfl) (b9:aJ r=ye op k a b:=by exact afq aj):aT P (.bin op t x y,r):=aT.bi aq bE ao cy ex hK b9
theorem tv {op:BinOp} {t:aK} {x y r:J} {k:IntKind} {a b:Int} (ex:aJ x= .int k a:=by exact rfl) (hK:aJ y= .int k b:=by exact rfl)
 (aq:aM x=true:=by exact rfl) (bE:aM y=true:=by exact rfl) (ao:aM r=true:=by exact rfl) (cy:zB op=true:=by exact rfl) (b9:aJ r=ye op k a b:=by exact afr aj):aT P (.bin op t x y,r):=aT.bi aq bE ao cy ex hK b9
theorem sx {op:BinOp} {t:aK} {x y r:J} {k:IntKind} {a b:Int} (ex:aJ x= .int k a:=by exact rfl) (hK:aJ y= .int k b:=by exact rfl)
 (aq:aM x=true:=by exact rfl) (bE:aM y=true:=by exact rfl) (ao:aM r=true:=by exact rfl) (cy:zB op=true:=by exact rfl) (b9:aJ r=ye op k a b:=by exact afs aj):aT P (.bin op t x y,r):=aT.bi aq bE ao cy ex hK b9
theorem ko {op:BinOp} {t:aK} {x y r:J} {k:IntKind} {a b:Int} (ex:aJ x= .int k a:=by exact rfl) (hK:aJ y= .int k b:=by exact rfl)
 (aq:aM x=true:=by exact rfl) (bE:aM y=true:=by exact rfl) (ao:aM r=true:=by exact rfl) (cy:zB op=true:=by exact rfl) (b9:aJ r=ye op k a b:=by exact mh aj aj aj):aT P (.bin op t x y,r):=aT.bi aq bE ao cy ex hK b9
theorem jf {x r:J} {a:Addr} (ex:aJ x= .pointer (some a):=by exact rfl) (b9:aJ r= .pointer (some a):=by exact rfl) (aq:aM x=true:=by exact rfl) (ao:aM r=true:=by exact rfl):aT P (.dM x,r):=aT.Wj aq ao ex b9
theorem fa {s:aK} {x r:J} {f g o:Nat} (ty off m:Nat) (ex:aJ x= .pointer (some ⟨g,o,none⟩):=by exact rfl) (b9:aJ r= .pointer (some ⟨g,o+off,none⟩):=by exact rfl) (aq:aM x=true:=by exact rfl) (ao:aM r=true:=by exact rfl)
 (aQ:((P.fieldsOf s)[f]?).map (λf=>(f.type,f.offset))=some (ty,off):=by kernel_rfl) (aw:bg P (underlying s)=some (.struct (P.fieldsOf s)):=by kernel_rfl) (hm:bg P (sizeOf ty)=some m:=by kernel_rfl) (h0:m≠0:=by decide):aT P (.cn s x f,r):=aT.Wk aQ aw hm h0 aq ao ex b9
section
variable {B g:Nat} {dE:Mem} {ca L:List cc}
theorem iV {ty t:aK} {cs:List J} {p r u:J} (j i:Nat) (c5:bI B dE ca a1.dq L) (ai:L[i]? =some (dW g ty cs):=by exact rfl) (mg:aJ p= .pointer (some ⟨g,j,none⟩):=by exact rfl) (hj:cs[j]? =some u:=by exact rfl) (b9:aJ r=u:=by exact rfl)
 (hp:aM p=true:=by exact rfl) (ao:aM r=true:=by exact rfl) (ha:bg P (isAgg t)=some false:=by kernel_rfl):aT P (.bA t p,r):=aT.Wi (c5.box i ai) hj hp ao ha mg b9
theorem vY {ty t:aK} {cs us:List J} {p r:J} (o n i:Nat) (c5:bI B dE ca a1.dq L) (ai:L[i]? =some (dW g ty cs):=by exact rfl) (mg:aJ p= .pointer (some ⟨g,o,none⟩):=by exact rfl) (hu:us=(cs.drop o).take n:=by exact rfl) (b9:aJ r= .agg ⟨us⟩:=by exact rfl)
 (hp:aM p=true:=by exact rfl) (ao:aM r=true:=by exact rfl) (ha:bg P (isAgg t)=some true:=by kernel_rfl) (av:bg P (sizeOf t)=some n:=by kernel_rfl) (hl:us.length=n:=by exact rfl):aT P (.bA t p,r):=aT.JV (c5.box i ai) hu hp ao ha av hl mg b9
end
section
variable {α:Type} {k:Nat} {enc:α->List J} {v:J} {l:List α}
theorem z6 {t e:aK} {x i r:J} {j:Nat} {hD:IntKind} (h:cF a1.dq k enc v l) (hj:j<l.length) (aL:P.underlying t=some (.slice e)) (cr:bg P (sizeOf e)=some k) (ex:aJ x=v:=by exact rfl) (hB:aJ i= .int hD j:=by exact rfl) (b9:aJ r=hb v (j*k):=by exact rfl)
 (aq:aM x=true:=by exact rfl) (ai:aM i=true:=by exact rfl) (ao:aM r=true:=by exact rfl):aT P (.dG t x i,r):=aT.Ft h hj aq ai ao aL cr ex hB b9
theorem nn {t e:aK} {x i r:J} {j:Nat} {hD:IntKind} (h:cF a1.dq k enc v l) (aL:P.underlying t=some (.slice e)) (cr:bg P (sizeOf e)=some k) (ex:aJ x=v:=by exact rfl) (hB:aJ i= .int hD j:=by exact rfl) (b9:aJ r=hb v (j*k):=by exact rfl) (hj:j<l.length:=by omega)
 (aq:aM x=true:=by exact rfl) (ai:aM i=true:=by exact rfl) (ao:aM r=true:=by exact rfl):aT P (.dG t x i,r):=aT.Ft h hj aq ai ao aL cr ex hB b9
theorem qg {t:aK} {p r:J} {i o:Nat} {x:α} {u:J} (j:Nat) (h:cF a1.dq k enc v l) (ai:l[i]? =some x) (ha:bg P (isAgg t)=some false) (hu:(enc x)[j]? =some u:=by exact rfl) (ho:o=i*k+j:=by exact rfl) (ex:aJ p=hb v o:=by exact rfl) (b9:aJ r=u:=by exact rfl)
 (hp:aM p=true:=by exact rfl) (ao:aM r=true:=by exact rfl):aT P (.bA t p,r):=aT.VI h ai hp ao ha ho hu ex b9
theorem eM {t ty e:aK} {x r:J} (h:cF a1.dq k enc v l) (aL:P.underlying t=some (.slice e)) (ex:aJ x=v:=by exact rfl) (b9:aJ r= .int .i64 l.length:=by exact rfl) (aq:aM x=true:=by exact rfl) (ao:aM r=true:=by exact rfl):aT P (.len #[t] ty x,r):=aT.aeX h aq ao aL ex b9
end
end
abbrev _root_.List.ev {α:Type} [Inhabited α] (l:List α) (i:Nat):α:=l.getD i default
abbrev br {α:Type} (a:Option Addr) (l:List α) (c:Nat):J:= .slice a l.length c
abbrev df (g o:Nat):J:= .pointer (some ⟨g,o,none⟩)
abbrev KX {α:Type} (e:aK) (k:Nat) (enc:α->List J) (a:Option Addr) (l:List α) (c:Nat):cc:=ht e k enc (.slice a l.length c) l
abbrev xk {α:Type} (e:aK) (k:Nat) (enc:α->List J) (a:Option Addr) (l:List α) (c:Nat):cc:=nI e k enc (.slice a l.length c) l
abbrev xl {α:Type} (e:aK) (k:Nat) (enc:α->List J) (a:Option Addr) (n c:Nat) (l:List α):cc:=ht e k enc (.slice a n c) l
abbrev z7 (a:Option Addr) (l:List bO) (c:Nat):cc:=KX qa 4 dJ a l c
abbrev Qx (a:Option Addr) (n c:Nat) (l:List bO):cc:=xl qa 4 dJ a n c l
abbrev tw (a:Option Addr) (l:List Bool) (c:Nat):cc:=KX n3 1 iL a l c
abbrev oH (a:Option Addr) (n c:Nat) (l:List Bool):cc:=xl n3 1 iL a n c l
abbrev qh (a:Option Addr) (l:List Int) (c:Nat):cc:=KX kJ 1 gf a l c
abbrev np (a:Option Addr) (n c:Nat) (l:List Int):cc:=xl kJ 1 gf a n c l
abbrev KY (a:Option Addr) (l:List cU) (c:Nat):cc:=KX ox 8 jB a l c
abbrev ai8 (a:Option Addr) (n c:Nat) (l:List cU):cc:=xl ox 8 jB a n c l
abbrev yJ (a:Option Addr) (l:List Nat) (c:Nat):cc:=xk tj 1 p_ a l c
abbrev Qy (a:Option Addr) (l:List az) (c:Nat):cc:=xk zQ 5 j4 a l c
abbrev tz (a:Option Addr) (l:List gx) (c:Nat):cc:=xk rr 3 nc a l c
instance instSymN (n:Nat):OfNat J n:=⟨ak n⟩
abbrev I (x:Int):J:= .int .i64 x
theorem h1 {α:Type} (a:α):∃x,x=a:=⟨a,rfl⟩
abbrev bI.Ij {B:Nat} {dE:Mem} {ca:List cc} {M:Mem} {L:List cc} (_:bI B dE ca M L):List cc:=ca
def g_ (o:Option bY):Option (FuncId×List J):=match vx Tryd.prog o with|some x=>some (x.1,x.2.1)|none=>none
theorem Qz {o:Option bY} {f:FuncId} {args:List J} (h:g_ o=some (f,args)):(vx Tryd.prog o).isSome=true/\(sb Tryd.prog o).1=f/\(sb Tryd.prog o).2.1=args:=by
 unfold g_ at h;unfold sb;cases e:vx Tryd.prog o with
 |none=>rw[e] at h;cases h
 |some x=>rw[e] at h;cases h;exact⟨rfl,rfl,rfl⟩
theorem hF [cS] {N B:Nat} {w0:ax} {Q:Exit->Act->ax->Prop} {M:Mem} {bq:List J} {o:Option bY} {f:FuncId} {args:List J} {eO:J} {Y:Type} {bj:Y->List J} {eb dI:aF} {aZ:List bu} {bL:eE} {dE:Mem} {az n0:List cc} {w8:Y->List cc}
  (aI:bI B dE az M n0) (is:List Nat) (km DF:Y->List cc) (he:g_ o=some (f,args)) (dd:cp (kL Tryd.prog o) eb aZ=some bL) (eL:gZ N eb (ka o) eO=some dI)
  (ik:kl n0.length is=true:=by exact rfl) (hL:∀y,w8 y=km y++DF y:=by exact λ_=>rfl)
  (fA:∀w,(∀i o,M i=some o->w.heap[i]? =some o)->B<=w.heap.size->cG (aG w) (AE.pick n0 is)->Calls Tryd.prog f ⟨@eo (aW M bq) args⟩ w λe w'=>(∃y,e= .returned (@aJ (aW M (bj y)) eO)/\cV (aG w) (AE.pick n0 is) (aG w') (w8 y))/\cg 0 w w')
  (rest:∀M' y,bI B dE az M' (lD n0 is (km y)++DF y)->∀a7 w,@Here (aW M' (bj y)) _ N {sl:=dI,ms:=[],A:=c6 aZ} B w0 a7 w->wpListIn (Fr none) 0 Tryd.prog (kI o) (dY Tryd.prog (gA o) Q) (kH o) a7 w)
  (ao:∀M' y,@aJ (aW M' (bj y)) eO= @aJ (aW M (bj y)) eO:=by exact λ_ _=>rfl)
  (hm:∀y M',fP (aW M bq) (aW M' (bj y)) bL:=by exact λ_ _=>fq)
  (hlen:∀y,(km y).length=is.length:=by exact λ_=>rfl) (hp:dL args=true:=by rfl) (fB:aM eO=true:=by rfl)
  (av:cS.eu<=aZ.length:=by first|exact Nat.zero_le _|exact gG rfl) (ar:iy (kL Tryd.prog o).A aZ 0:=by exact gX rfl): @fy (aW M bq) _ Tryd.prog N B w0 Q o:=
 Wz aI is km DF (Qz he).1 (Qz he).2.1 (Qz he).2.2 dd eL ik ao hL fA hm rest hlen hp fB av ar
section
variable [a1] {f:FuncId} {fn:Func} {args:List J} {W:ax} {R:Ending->ax->Prop}
theorem YO (c:Code) (aN:b6) (N:Nat) (args:List J) (pA:ot W) (mV:Tryd.prog.funcs[f]? =some fn) (rf:∀a,@Here _ gm N aN W.heap.size W a W->c.wpIn (Fr none) 0 Tryd.prog (@rh gm Tryd.prog fn N W.heap.size W R) a W)
  (ar:fn.body=some c:=by kernel_rfl) (gI:(match setArgs 0 args .nil with|some sl=>some ({sl,ms:=[],A:=start}:b6)|none=>none)=some aN:=by kernel_rfl) (hp:dL args=true:=by kernel_rfl) (kj:args.length+(fn.ntmps-args.length)=N:=by kernel_rfl):Calls Tryd.prog f ⟨eo args⟩ W R:=by
 cases e:setArgs 0 args .nil with
 |none=>rw[e] at gI;cases gI
 |some sl=>rw[e] at gI;cases gI;exact VM mV ar e hp kj pA rf
theorem ai9 (c:Code) (aN:b6) (N:Nat) (args:List J) (pA:ot W) (mV:Tryd.prog.funcs[f]? =some fn) (rf:∀a,@Here _ gm N aN 0 W a W->c.wpIn (Fr none) 0 Tryd.prog (@rh gm Tryd.prog fn N 0 W R) a W)
  (ar:fn.body=some c:=by kernel_rfl) (gI:(match setArgs 0 args .nil with|some sl=>some ({sl,ms:=[],A:=start}:b6)|none=>none)=some aN:=by kernel_rfl) (hp:dL args=true:=by kernel_rfl) (kj:args.length+(fn.ntmps-args.length)=N:=by kernel_rfl):Calls Tryd.prog f ⟨eo args⟩ W R:=by
 cases e:setArgs 0 args .nil with
 |none=>rw[e] at gI;cases gI
 |some sl=>rw[e] at gI;cases gI;exact VV mV ar e hp kj pA rf
end
section
variable [cS] {N B:Nat} {w0:ax} {X:Type}
end
section
variable [a1] [cS] {N B:Nat} {w0 w:ax} {a:Act} {Q:Exit->Act->ax->Prop} [mX Q]
end
abbrev b4 {s:a1} {o:cS} {N:Nat} {st:b6} {B:Nat} {w0:ax} {a:Act} {w:ax} (_: @Here s o N st B w0 a w):a1:=s
section
variable {B:Nat} {dE:Mem} {ca:List cc} {M:Mem}
theorem bI.KZ {fO:cc} (h:bI B dE ca M [fO]):bI B dE ca M [fO]:=h
theorem bI.GY {fO eI:cc} (h:bI B dE ca M [fO,eI]):bI B dE ca M [fO,eI]:=h
theorem bI.vZ {fO eI gQ:cc} (h:bI B dE ca M [fO,eI,gQ]):bI B dE ca M [fO,eI,gQ]:=h
theorem bI.BU {fO eI gQ hf:cc} (h:bI B dE ca M [fO,eI,gQ,hf]):bI B dE ca M [fO,eI,gQ,hf]:=h
theorem bI.BV {fO eI gQ hf hW:cc} (h:bI B dE ca M [fO,eI,gQ,hf,hW]):bI B dE ca M [fO,eI,gQ,hf,hW]:=h
theorem bI.z8 {fO eI gQ hf hW il:cc} (h:bI B dE ca M [fO,eI,gQ,hf,hW,il]):bI B dE ca M [fO,eI,gQ,hf,hW,il]:=h
theorem bI.QA {fO eI gQ hf hW il iW:cc} (h:bI B dE ca M [fO,eI,gQ,hf,hW,il,iW]):bI B dE ca M [fO,eI,gQ,hf,hW,il,iW]:=h
theorem bI.ai' {fO eI gQ hf hW il iW jL:cc} (h:bI B dE ca M [fO,eI,gQ,hf,hW,il,iW,jL]):bI B dE ca M [fO,eI,gQ,hf,hW,il,iW,jL]:=h
theorem bI.ai_ {fO eI gQ hf hW il iW jL ke:cc} (h:bI B dE ca M [fO,eI,gQ,hf,hW,il,iW,jL,ke]):bI B dE ca M [fO,eI,gQ,hf,hW,il,iW,jL,ke]:=h
theorem bI.YP {fO eI gQ hf hW il iW jL ke kP:cc} (h:bI B dE ca M [fO,eI,gQ,hf,hW,il,iW,jL,ke,kP]):bI B dE ca M [fO,eI,gQ,hf,hW,il,iW,jL,ke,kP]:=h
theorem bI.QB {fO eI gQ hf hW il iW jL ke kP l2:cc} (h:bI B dE ca M [fO,eI,gQ,hf,hW,il,iW,jL,ke,kP,l2]):bI B dE ca M [fO,eI,gQ,hf,hW,il,iW,jL,ke,kP,l2]:=h
theorem bI.BW {fO eI gQ hf hW il iW jL ke kP l2 nq:cc} (h:bI B dE ca M [fO,eI,gQ,hf,hW,il,iW,jL,ke,kP,l2,nq]):bI B dE ca M [fO,eI,gQ,hf,hW,il,iW,jL,ke,kP,l2,nq]:=h
theorem bI.D9 {fO eI gQ hf hW il iW jL ke kP l2 nq oI:cc} (h:bI B dE ca M [fO,eI,gQ,hf,hW,il,iW,jL,ke,kP,l2,nq,oI]):bI B dE ca M [fO,eI,gQ,hf,hW,il,iW,jL,ke,kP,l2,nq,oI]:=h
theorem bI.QC {fO eI gQ hf hW il iW jL ke kP l2 nq oI qi:cc} (h:bI B dE ca M [fO,eI,gQ,hf,hW,il,iW,jL,ke,kP,l2,nq,oI,qi]):bI B dE ca M [fO,eI,gQ,hf,hW,il,iW,jL,ke,kP,l2,nq,oI,qi]:=h
theorem bI.aja {fO eI gQ hf hW il iW jL ke kP l2 nq oI qi sy:cc} (h:bI B dE ca M [fO,eI,gQ,hf,hW,il,iW,jL,ke,kP,l2,nq,oI,qi,sy]):bI B dE ca M [fO,eI,gQ,hf,hW,il,iW,jL,ke,kP,l2,nq,oI,qi,sy]:=h
theorem bI.ajb {fO eI gQ hf hW il iW jL ke kP l2 nq oI qi sy v7:cc} (h:bI B dE ca M [fO,eI,gQ,hf,hW,il,iW,jL,ke,kP,l2,nq,oI,qi,sy,v7]):bI B dE ca M [fO,eI,gQ,hf,hW,il,iW,jL,ke,kP,l2,nq,oI,qi,sy,v7]:=h
theorem bI.D' {fO eI gQ hf hW il iW jL ke kP l2 nq oI qi sy v7 z':cc} (h:bI B dE ca M [fO,eI,gQ,hf,hW,il,iW,jL,ke,kP,l2,nq,oI,qi,sy,v7,z']):bI B dE ca M [fO,eI,gQ,hf,hW,il,iW,jL,ke,kP,l2,nq,oI,qi,sy,v7,z']:=h
theorem bI.ajc {fO eI gQ hf hW il iW jL ke kP l2 nq oI qi sy v7 z' GZ:cc} (h:bI B dE ca M [fO,eI,gQ,hf,hW,il,iW,jL,ke,kP,l2,nq,oI,qi,sy,v7,z',GZ]):bI B dE ca M [fO,eI,gQ,hf,hW,il,iW,jL,ke,kP,l2,nq,oI,qi,sy,v7,z',GZ]:=h
theorem bI.ajd {fO eI gQ hf hW il iW jL ke kP l2 nq oI qi sy v7 z' GZ YQ:cc} (h:bI B dE ca M [fO,eI,gQ,hf,hW,il,iW,jL,ke,kP,l2,nq,oI,qi,sy,v7,z',GZ,YQ]):bI B dE ca M [fO,eI,gQ,hf,hW,il,iW,jL,ke,kP,l2,nq,oI,qi,sy,v7,z',GZ,YQ]:=h
end
section
variable {f:FuncId} {fn:Func} {W:ax} {R:Ending->ax->Prop}
theorem jE (bq:List J) (c:Code) (aN:b6) (N:Nat) (args:List J) (mV:Tryd.prog.funcs[f]? =some fn) (rf:∀a,@Here (aW (aG W) bq) gm N aN W.heap.size W a W->c.wpIn (Fr none) 0 Tryd.prog (@rh gm Tryd.prog fn N W.heap.size W R) a W)
  (ar:fn.body=some c:=by kernel_rfl) (gI:(match setArgs 0 args .nil with|some sl=>some ({sl,ms:=[],A:=start}:b6)|none=>none)=some aN:=by kernel_rfl) (hp:dL args=true:=by kernel_rfl) (kj:args.length+(fn.ntmps-args.length)=N:=by kernel_rfl):Calls Tryd.prog f ⟨@eo (aW (aG W) bq) args⟩ W R:=
 @YO (aW (aG W) bq) _ _ _ _ c aN N args (NZ W _) mV rf ar gI hp kj
theorem pJ (bq:List J) (c:Code) (aN:b6) (N:Nat) (args:List J) (mV:Tryd.prog.funcs[f]? =some fn) (rf:∀a,@Here (aW (aG W) bq) gm N aN 0 W a W->c.wpIn (Fr none) 0 Tryd.prog (@rh gm Tryd.prog fn N 0 W R) a W)
  (ar:fn.body=some c:=by kernel_rfl) (gI:(match setArgs 0 args .nil with|some sl=>some ({sl,ms:=[],A:=start}:b6)|none=>none)=some aN:=by kernel_rfl) (hp:dL args=true:=by kernel_rfl) (kj:args.length+(fn.ntmps-args.length)=N:=by kernel_rfl):Calls Tryd.prog f ⟨@eo (aW (aG W) bq) args⟩ W R:=
 @ai9 (aW (aG W) bq) _ _ _ _ c aN N args (NZ W _) mV rf ar gI hp kj
end
theorem ep {N:Nat} {sl:aF} {d:Option Tmp} (h:aF) (v:J) (p:gZ N sl d v=some h:=by kernel_rfl):gZ N sl d v=some h:=p
theorem dP {o:Option bY} (p:dU) (h:Qv o=Qw p:=by kernel_rfl):Qv o=Qw p:=h
theorem lJ {α:Type} [Inhabited α] {l:List α} (i:Nat) (h:i<l.length:=by omega):l[i]? =some (l.getD i default):=FB h
abbrev ch:=Option Addr
theorem bR [a1] [cS] {P:aR} {fn:Func} {N B:Nat} {w0:ax} {A:Ending->ax->Prop} {o:Option bY} {v:J} (h:fj P fn o=some v) (jA:∀w2,ot w2->A (.returned (aJ v)) w2):fy P N B w0 (rh P fn N B w0 λe w=>A e w/\cg B w0 w) o:=jm h λw2 hl ai=>⟨jA w2 ai,hl⟩
theorem aje {α:Type} [Inhabited α] {l:List α} {i:Nat} {z:α} (h:l[i]? =some z):l.ev i=z:=getD_some h
theorem QD [cS] {α:Type} {P:aR} {N B:Nat} {w0:ax} {Q:Exit->Act->ax->Prop} {M:Mem} {bq:List J} {o:Option bY} {t e:aK} {k:Nat} {p x u nJ:J} {enc:α->List J} {l l':List α} {i:Nat} {y:α} {eb dI:aF} {aZ:List bu} {bL:eE} (j:Nat) (bj:List J)
  (fL:l'=l.set i y) (h:nG o=some (t,p,x)) (al:∀x,(enc x).length=k) (dd:cp (b7 o) eb aZ=some bL) (eL:gZ N eb (ka o) undef=some dI) (cM:dw B M e k enc u l) (ai:i<l.length)
  (rest:∀M',dw B M' e k enc u l'->h7 M M' (eP u)->∀a7 w,@Here (aW M' bj) _ N {sl:=dI,ms:=[],A:=c6 aZ} B w0 a7 w->wpListIn (Fr none) 0 P (kI o) (dY P (gA o) Q) (kH o) a7 w)
  (cr:bg P (sizeOf t)=some 1:=by kernel_rfl) (hj:j<k:=by decide) (mg: @aJ (aW M bq) p=hb u (i*k+j):=by exact rfl) (ex: @aJ (aW M bq) x=nJ:=by exact rfl) (hu:nJ.cells= #[nJ]:=by exact rfl) (kb:nJ.oneCell'=true:=by exact rfl)
  (hp:aM p=true:=by exact rfl) (aq:aM x=true:=by exact rfl) (bE:∀z,l[i]? =some z->enc y=(enc z).set j nJ:=by intro z bU;first|rfl|(rw[getD_some bU];rfl)|(rw[aje bU];rfl)) (hm:∀M',fP (aW M bq) (aW M' bj) bL:=by exact λ_=>fq)
  (av:cS.eu<=aZ.length:=by first|exact Nat.zero_le _|exact gG rfl) (ar:iy (b7 o).A aZ 0:=by exact gX rfl): @fy (aW M bq) _ P N B w0 Q o:=
 Wt fL h cr al hj bE dd eL hp aq mg ex hu kb cM ai hm rest av ar
theorem D_ [cS] {P:aR} {N B:Nat} {w0:ax} {Q:Exit->Act->ax->Prop} {M:Mem} {bq:List J} {o:Option bY} {t ty:aK} {g:Nat} {p x u:J} {cs:List J} {eb dI:aF} {aZ:List bu} {bL:eE} (j:Nat) (cs' bj:List J)
  (h:nG o=some (t,p,x)) (dd:cp (b7 o) eb aZ=some bL) (eL:gZ N eb (ka o) undef=some dI) (cM:jo B M (.pointer (some ⟨g,0,none⟩)) ty cs)
  (rest:∀M',jo B M' (.pointer (some ⟨g,0,none⟩)) ty cs'->h7 M M' (some g)->∀a7 w,@Here (aW M' bj) _ N {sl:=dI,ms:=[],A:=c6 aZ} B w0 a7 w->wpListIn (Fr none) 0 P (kI o) (dY P (gA o) Q) (kH o) a7 w)
  (cr:bg P (sizeOf t)=some 1:=by kernel_rfl) (mg: @aJ (aW M bq) p= .pointer (some ⟨g,j,none⟩):=by exact rfl) (ex: @aJ (aW M bq) x=u:=by exact rfl) (fL:cs'=cs.set j u:=by exact rfl) (hu:u.cells= #[u]:=by exact rfl) (kb:u.oneCell'=true:=by exact rfl)
  (hp:aM p=true:=by exact rfl) (aq:aM x=true:=by exact rfl) (hj:j<cs.length:=by exact gG rfl) (hm:∀M',fP (aW M bq) (aW M' bj) bL:=by exact λ_=>fq)
  (av:cS.eu<=aZ.length:=by first|exact Nat.zero_le _|exact gG rfl) (ar:iy (b7 o).A aZ 0:=by exact gX rfl): @fy (aW M bq) _ P N B w0 Q o:=
 Wl fL h cr dd eL hp aq mg ex hu kb cM hj hm rest av ar
end AE
end
end
namespace AE
abbrev ej:=Int×Int×Int
abbrev bT:=Int×Int×Int×Int×Int×Int
def ajf (x:ej):List J:=[.int .i64 x.1,.int .i64 x.2.1,.int .i64 x.2.2]
abbrev P.val (x:ej):J:= .agg ⟨ajf x⟩
def Ea (x:bT):List J:=[.int .i64 x.1,.int .i64 x.2.1,.int .i64 x.2.2.1,.int .i64 x.2.2.2.1,.int .i64 x.2.2.2.2.1,.int .i64 x.2.2.2.2.2]
abbrev X.val (x:bT):J:= .agg ⟨Ea x⟩
theorem G0 {a b c a7 b' c':Int} (ad:a=a7) (ag:b=b') (ay:c=c'):Ending.returned (.agg ⟨[.int .i64 a,.int .i64 b,.int .i64 c]⟩)=Ending.returned (P.val (a7,b',c')):=by rw[ad,ag,ay];rfl
theorem ajg {a b c a7 b' c':Int} {x:Bool} (ad:a=a7) (ag:b=b') (ay:c=c'):Ending.returned (.tuple #[.agg ⟨[.int .i64 a,.int .i64 b,.int .i64 c]⟩,.bool x])=Ending.returned (.tuple #[P.val (a7,b',c'),.bool x]):=by rw[ad,ag,ay];rfl
theorem ajh {v f:Int} {c:Nat} {up:Bool} (h0:up=true) (ad:c=3) (ag:v=15) (ay:f=1):given v f c up=15:=aY ⟨h0,ad,ag,ay⟩
theorem K0 {v f:Int} {c:Nat} {up:Bool} (h:¬(up=true/\c=3/\v=15/\f=1)):given v f c up=max 0 (v-f):=a' h
def bS (p:ej) (b:bT):Prop:=b.1<=p.1/\p.1<b.2.2.2.1/\b.2.1<=p.2.1/\p.2.1<b.2.2.2.2.1/\b.2.2.1<=p.2.2/\p.2.2<b.2.2.2.2.2
instance (p:ej) (b:bT):Decidable (bS p b):=by unfold bS;infer_instance
def okB (b:bT):Prop:= -1048575<=b.1/\b.1<=1048575/\ -1048575<=b.2.1/\b.2.1<=1048575/\ -1048575<=b.2.2.1/\b.2.2.1<=1048575/\ -1048575<=b.2.2.2.1/\b.2.2.2.1<=1048575/\ -1048575<=b.2.2.2.2.1/\b.2.2.2.2.1<=1048575/\ -1048575<=b.2.2.2.2.2/\b.2.2.2.2.2<=1048575
instance (b:bT):Decidable (okB b):=by unfold okB;infer_instance
def iX (b:bT):Prop:=b.1<b.2.2.2.1/\b.2.1<b.2.2.2.2.1/\b.2.2.1<b.2.2.2.2.2
instance (b:bT):Decidable (iX b):=by unfold iX;infer_instance
def bM (b:bT):ej:=if iX b then (b.2.2.2.1-b.1,b.2.2.2.2.1-b.2.1,b.2.2.2.2.2-b.2.2.1) else (0,0,0)
def ft (b:bT):Int:=(bM b).1*(bM b).2.1*(bM b).2.2
def v8 (b:bT) (p:ej):Int:=if bS p b then (((p.2.2+((-1)*b.2.2.1))*(bM b).2.1)+(p.2.1+((-1)*b.2.1)))*(bM b).1+(p.1+((-1)*b.1)) else -1
def fp (b:bT) (i:Int):ej:=if 0<=i/\i<ft b then (b.1+i%(bM b).1,b.2.1+i/(bM b).1%(bM b).2.1,b.2.2.1+i/(bM b).1/(bM b).2.1) else (0,0,0)
theorem K1 {a b:Int} {A B:Nat} (ad:0<=a) (ag:a<=A) (ay:0<=b) (bG:b<=B):0<=a*b/\a*b<=((A*B:Nat):Int):=by
 refine⟨Int.mul_nonneg ad ay,?_⟩;rw[Int.natCast_mul];exact Int.mul_le_mul ag bG ay aj
theorem uQ {b:bT} (h:iX b):bM b=(b.2.2.2.1-b.1,b.2.2.2.2.1-b.2.1,b.2.2.2.2.2-b.2.2.1):=aY h
theorem xm {b:bT} (h:¬iX b):bM b=(0,0,0):=a' h
theorem aji {p:ej} {b:bT} (h:bS p b):iX b:=by
 unfold bS at h;unfold iX;omega
theorem j7 {p:ej} {b:bT} (h:bS p b):b.1<=p.1/\p.1<b.2.2.2.1/\b.2.1<=p.2.1/\p.2.1<b.2.2.2.2.1/\b.2.2.1<=p.2.2/\p.2.2<b.2.2.2.2.2:=h
theorem G1 {p:ej} {b:bT} (h:bS p b):v8 b p=(((p.2.2+((-1)*b.2.2.1))*(bM b).2.1)+(p.2.1+((-1)*b.2.1)))*(bM b).1+(p.1+((-1)*b.1)):=aY h
theorem Eb {p:ej} {b:bT} (h:¬bS p b):v8 b p= -1:=a' h
theorem BX {b:bT} (af:okB b):0<=(bM b).1/\(bM b).1<=2097150/\0<=(bM b).2.1/\(bM b).2.1<=2097150/\0<=(bM b).2.2/\(bM b).2.2<=2097150:=by
 unfold okB at af;unfold bM;split
 ·rename_i h
  unfold iX at h;dsimp only;omega
 ·dsimp only
  omega
theorem QE {b:bT} (af:okB b):0<=(bM b).1*(bM b).2.1/\(bM b).1*(bM b).2.1<=4398038122500/\0<=(bM b).1*(bM b).2.1*(bM b).2.2/\(bM b).1*(bM b).2.1*(bM b).2.2<=9223345648600875000:=by
 obtain⟨ad,ag,ay,bG,cE,cR⟩:=BX af;obtain⟨wJ,QF⟩:=K1 (A:=2097150) (B:=2097150) ad aj ay aj;obtain⟨QG,ajj⟩:=K1 (A:=4398038122500) (B:=2097150) wJ aj cE aj;exact⟨wJ,aj,QG,aj⟩
theorem o9 {p:ej} {b:bT} (af:okB b) (h:bS p b):0<=((p.2.2+((-1)*b.2.2.1))*(bM b).2.1)/\((p.2.2+((-1)*b.2.2.1))*(bM b).2.1)<=4398038122500/\0<=(((p.2.2+((-1)*b.2.2.1))*(bM b).2.1)+(p.2.1+((-1)*b.2.1)))*(bM b).1/\(((p.2.2+((-1)*b.2.2.1))*(bM b).2.1)+(p.2.1+((-1)*b.2.1)))*(bM b).1<=9223345648600875000:=by
 obtain⟨ad,ag,ay,bG,cE,cR⟩:=BX af;have aQ:=aji h;unfold okB at af;unfold bS at h;obtain⟨wJ,QF⟩:=K1 (a:=p.2.2+((-1)*b.2.2.1)) (b:=(bM b).2.1) (A:=2097149) (B:=2097150) aj aj ay aj;have fS:p.2.1+((-1)*b.2.1)+1<=(bM b).2.1:=by
  rw[uQ aQ];dsimp only;omega
 obtain⟨QG,ajj⟩:=K1 (a:=(((p.2.2+((-1)*b.2.2.1))*(bM b).2.1)+(p.2.1+((-1)*b.2.1)))) (b:=(bM b).1) (A:=4398038122500) (B:=2097150) aj aj ad aj;exact⟨wJ,aj,QG,aj⟩
theorem YR {b:bT} {i:Int} (h0:0<=i) (ad:¬((bM b).1*(bM b).2.1)*(bM b).2.2<=i):iX b:=by
 by_cases h:iX b
 ·exact h
 ·rw[xm h] at ad
  simp at ad;omega
theorem rA {b:bT} {i:Int} (af:okB b) (h0:0<=i) (ad:¬((bM b).1*(bM b).2.1)*(bM b).2.2<=i):
  1<=(bM b).1/\1<=(bM b).2.1/\0<=i/(bM b).1/\i/(bM b).1<=i/\0<=i%(bM b).1/\i%(bM b).1<(bM b).1/\0<=i/(bM b).1%(bM b).2.1/\i/(bM b).1%(bM b).2.1<(bM b).2.1/\0<=i/(bM b).1/(bM b).2.1/\i/(bM b).1/(bM b).2.1<(bM b).2.2/\i<=9223345648600875000:=by
 have aQ:=YR h0 ad;have aC:=QE af;have aw:=BX af;have aq:1<=(bM b).1:=by
  rw[uQ aQ];unfold iX at aQ;dsimp only;omega
 have bE:1<=(bM b).2.1:=by
  rw[uQ aQ];unfold iX at aQ;dsimp only;omega
 have ag:0<=i/(bM b).1:=Int.ediv_nonneg h0 aj;refine⟨aq,bE,ag,Int.ediv_le_self _ h0,Int.emod_nonneg _ aj,Int.emod_lt_of_pos _ aj,Int.emod_nonneg _ aj,Int.emod_lt_of_pos _ aj,Int.ediv_nonneg ag aj,?_,aj⟩;refine Int.ediv_lt_of_lt_mul aj (Int.ediv_lt_of_lt_mul aj ?_);rw[show (bM b).2.2*(bM b).2.1*(bM b).1=(bM b).1*(bM b).2.1*(bM b).2.2 by rw[Int.mul_comm (bM b).2.2,Int.mul_assoc,Int.mul_comm (bM b).2.2,<-Int.mul_assoc,Int.mul_comm (bM b).2.1]];omega
theorem YS {b:bT} {i:Int} (h0:0<=i) (ad:¬((bM b).1*(bM b).2.1)*(bM b).2.2<=i):fp b i=(b.1+i%(bM b).1,b.2.1+i/(bM b).1%(bM b).2.1,b.2.2.1+i/(bM b).1/(bM b).2.1):=aY ⟨h0,by unfold ft;omega⟩
theorem QH {b:bT} {i:Int} (h:¬(0<=i/\i<ft b)):fp b i=(0,0,0):=a' h
end AE
namespace AE
theorem YT (p q:bO):r' Tryd.prog 10000 qa (L.val p) (L.val q)=some (p.1==q.1&&(p.2.1==q.2.1&&(p.2.2.1==q.2.2.1&&(p.2.2.2==q.2.2.2&&true)))):=au
theorem ajk:Tryd.prog.eqGuardType Tryd.prog.depth qa=false:=au
theorem YU (p q:bO):(p.1==q.1&&(p.2.1==q.2.1&&(p.2.2.1==q.2.2.1&&(p.2.2.2==q.2.2.2&&true))))=decide (p=q):=by
 obtain⟨a,b,c,d⟩:=p;obtain⟨a7,b',c',oi⟩:=q;rw[Bool.eq_iff_iff];simp
section
variable [a1]
theorem YV {x y:J} {p q:bO} (aq:aM x=true) (bE:aM y=true) (ex:aJ x=L.val p) (hK:aJ y=L.val q) {d:Bool} (bc:d= !decide (p=q)):aT Tryd.prog (.bin .neq qa x y,.bool d):=by
 subst bc;exact aT.JB ajk aq bE ex hK ((YT p q).trans (by rw[YU]))
end
def Ec (F:Int) (old x:bO) (fH:Int) (c:Nat):Int:=if 0<cl old c/\0<cl x c/\cl x c=given (cl old c) F c (decide (fH<0)) then cl x c else 0
def z_ (F:Int) (old x:bO) (fH:Int):bO:=rq (Ec F old x fH)
def BY (l:List az) (n:Nat) (eJ:bO):List az:=if eJ=z4 then l else l++[(n,eJ)]
def yK (l:List Nat) (n:Nat) (eJ:bO):List Nat:=if eJ=z4 then l else l++[n]
def Aa (l:List bO) (n:Nat) (eJ:bO):List bO:=if eJ=z4 then l else l.set n (vI eJ (l.getD n default))
theorem ajl {l:List az} {g:List Nat} {li:List bO} {n:Nat} {eJ:bO} (h:eJ=z4):BY l n eJ=l/\yK g n eJ=g/\Aa li n eJ=li:=⟨aY h,aY h,aY h⟩
theorem ajm {l:List az} {g:List Nat} {li:List bO} {n:Nat} {eJ:bO} (h:¬eJ=z4):BY l n eJ=l++[(n,eJ)]/\yK g n eJ=g++[n]/\Aa li n eJ=li.set n (vI eJ (li.getD n default)):=⟨a' h,a' h,a' h⟩
theorem ajn {F fH:Int} {old x:bO} {c:Nat} (ad:0<cl old c) (ag:0<cl x c) (ay:cl x c=given (cl old c) F c (decide (fH<0))):Ec F old x fH c=cl x c:=aY ⟨ad,ag,ay⟩
theorem QI {F fH:Int} {old x:bO} {c:Nat} (h:¬(0<cl old c/\0<cl x c/\cl x c=given (cl old c) F c (decide (fH<0)))):Ec F old x fH c=0:=a' h
def YW (F:Int) (out x:bO) (fH:Int) (c:Nat):Int:=max (cl out c) (given (cl x c) F c (decide (0<fH)))
def BZ (F:Int) (out x:bO) (fH:Int):bO:=rq (YW F out x fH)
end AE
namespace AE
def b_ (b:bT) (p:ej):Nat:=(v8 b p).toNat
def xn (b:bT) (k j:Nat):List (Nat×Int):=w_ (bM b).1.toNat (bM b).2.1.toNat (bM b).2.2.toNat k j
def er (b:bT) (sh:List Bool) (k j:Nat):List (Nat×Int):=(xn b k j).filter λp=>sh.getD p.1 default
def iM (b:bT) (k:Nat):Nat->ej
 |0=>((fp b ((k:Nat):Int)).1+(-1),(fp b ((k:Nat):Int)).2.1,(fp b ((k:Nat):Int)).2.2)
 |1=>((fp b ((k:Nat):Int)).1+1,(fp b ((k:Nat):Int)).2.1,(fp b ((k:Nat):Int)).2.2)
 |2=>((fp b ((k:Nat):Int)).1,(fp b ((k:Nat):Int)).2.1+(-1),(fp b ((k:Nat):Int)).2.2)
 |3=>((fp b ((k:Nat):Int)).1,(fp b ((k:Nat):Int)).2.1+1,(fp b ((k:Nat):Int)).2.2)
 |4=>((fp b ((k:Nat):Int)).1,(fp b ((k:Nat):Int)).2.1,(fp b ((k:Nat):Int)).2.2+(-1))
 |_=>((fp b ((k:Nat):Int)).1,(fp b ((k:Nat):Int)).2.1,(fp b ((k:Nat):Int)).2.2+1)
def p7:Nat->Int
 |4=> -1
 |5=>1
 |_=>0
theorem YX {b:bT} {k:Nat} (al:k<(ft b).toNat):∃bF bX a_:Nat,(bM b)=(((bF:Nat):Int),((bX:Nat):Int),((a_:Nat):Int))/\k<bF*bX*a_/\b.2.2.2.1=b.1+bF/\b.2.2.2.2.1=b.2.1+bX/\b.2.2.2.2.2=b.2.2.1+a_:=by
 by_cases aQ:iX b
 ·have aw:=uQ aQ
  unfold iX at aQ;refine⟨(b.2.2.2.1-b.1).toNat,(b.2.2.2.2.1-b.2.1).toNat,(b.2.2.2.2.2-b.2.2.1).toNat,?_,?_,aj,aj,aj⟩
  ·rw[aw,Int.toNat_of_nonneg aj,Int.toNat_of_nonneg aj,Int.toNat_of_nonneg aj]
  ·unfold ft at al
   rw[aw] at al;dsimp only at al;rw[Int.toNat_mul (Int.mul_nonneg aj aj) aj,Int.toNat_mul aj aj] at al;exact al
 ·unfold ft at al
  rw[xm aQ] at al;simp at al
theorem YY {b:bT} {k:Nat} {sh:List Bool} (al:k<sh.length) (hl:sh.length=(ft b).toNat):0<=((k:Nat):Int)/\((k:Nat):Int)<ft b:=by omega
theorem QJ {b:bT} {bF bX a_ x y z:Nat} (aw:bM b=(((bF:Nat):Int),((bX:Nat):Int),((a_:Nat):Int))) (ad:b.2.2.2.1=b.1+bF) (ag:b.2.2.2.2.1=b.2.1+bX) (ay:b.2.2.2.2.2=b.2.2.1+a_) (aq:x<bF) (bE:y<bX) (bU:z<a_):
  bS (b.1+x,b.2.1+y,b.2.2.1+z) b/\b_ b (b.1+x,b.2.1+y,b.2.2.1+z)=nb bF bX x y z:=by
 have lv:bS (b.1+((x:Nat):Int),b.2.1+((y:Nat):Int),b.2.2.1+((z:Nat):Int)) b:=by
  unfold bS;dsimp only;omega
 refine⟨lv,?_⟩;unfold b_;rw[G1 lv,aw];dsimp only;unfold nb;rw[show b.2.2.1+((z:Nat):Int)+ -1*b.2.2.1=((z:Nat):Int) by omega,show b.2.1+((y:Nat):Int)+ -1*b.2.1=((y:Nat):Int) by omega,show b.1+((x:Nat):Int)+ -1*b.1=((x:Nat):Int) by omega];rw[show (((z:Nat):Int)*((bX:Nat):Int)+((y:Nat):Int))*((bF:Nat):Int)+((x:Nat):Int)=(((z*bX+y)*bF+x:Nat):Int) by simp];exact Int.toNat_natCast _
theorem G2 {b:bT} {k:Nat} {sh:List Bool} (al:k<sh.length) (hl:sh.length=(ft b).toNat) (q:ej):b_ b q<sh.length:=by
 by_cases bb:bS q b
 ·obtain⟨bF,bX,a_,aw,BB,ad,ag,ay⟩:=YX (b:=b) (k:=k) aj
  have h:=j7 bb;obtain⟨x,aq⟩:∃x:Nat,q.1=b.1+x:=⟨(q.1-b.1).toNat,aj⟩;obtain⟨y,bE⟩:∃x:Nat,q.2.1=b.2.1+x:=⟨(q.2.1-b.2.1).toNat,aj⟩;obtain⟨z,bU⟩:∃x:Nat,q.2.2=b.2.2.1+x:=⟨(q.2.2-b.2.2.1).toNat,aj⟩;have ajo:q=(b.1+((x:Nat):Int),b.2.1+((y:Nat):Int),b.2.2.1+((z:Nat):Int)):=by
   obtain⟨q1,aH,bW⟩:=q;dsimp only at aq bE bU;rw[aq,bE,bU]
  have ai:=(QJ aw ad ag ay (x:=x) (y:=y) (z:=z) aj aj aj).2;rw[ajo,ai,hl];have aC:(ft b).toNat=bF*bX*a_:=by
   unfold ft;rw[aw];dsimp only;rw[<-Int.natCast_mul,<-Int.natCast_mul,Int.toNat_natCast]
  rw[aC];exact W9 aj aj aj
 ·unfold b_
  rw[Eb bb];show 0<_;omega
theorem YZ {b:bT} {k bF bX a_:Nat} (aw:bM b=(((bF:Nat):Int),((bX:Nat):Int),((a_:Nat):Int))) (al:k<bF*bX*a_):fp b ((k:Nat):Int)=(b.1+((iJ bF k:Nat):Int),b.2.1+((iK bF bX k:Nat):Int),b.2.2.1+((hU bF bX k:Nat):Int)):=by
 unfold fp ft;rw[aw];dsimp only;rw[aY ⟨aj,by rw[<-Int.natCast_mul,<-Int.natCast_mul];omega⟩];rfl
theorem Y0 {b:bT} (af:okB b) (i:Int): -1048575<=(fp b i).1/\(fp b i).1<=1048575/\ -1048575<=(fp b i).2.1/\(fp b i).2.1<=1048575/\ -1048575<=(fp b i).2.2/\(fp b i).2.2<=1048575:=by
 by_cases h:0<=i/\i<ft b
 ·have aC:¬((bM b).1*(bM b).2.1)*(bM b).2.2<=i:=by
   have:=h.2;unfold ft at this;omega
  have aQ:=YR h.1 aC;have:=rA af h.1 aC;rw[YS h.1 aC,uQ aQ] at*
  unfold okB at af;dsimp only at*
  omega
 ·rw[QH h]
  decide
theorem QK {b:bT} {k:Nat} {sh:List Bool} (al:k<sh.length) (hl:sh.length=(ft b).toNat) {j:Nat} (hj:j<6):
  (bS (iM b k j) b->xn b k (j+1)=xn b k j++[(b_ b (iM b k j),p7 j)])/\(¬bS (iM b k j) b->xn b k (j+1)=xn b k j):=by
 obtain⟨bF,bX,a_,aw,BB,ad,ag,ay⟩:=YX (b:=b) (k:=k) aj;obtain⟨hq,c2,c3⟩:=Kg BB;have ha:=YZ aw BB;have wU:xn b k (j+1)=xn b k j++uH bF bX a_ k j:=by
  unfold xn;rw[aw];rfl
 rw[wU];have key:∀(d:Int) (x y z:Nat) (v':Prop),(v'↔(x<bF/\y<bX/\z<a_))->∀q:ej,q=(b.1+((x:Nat):Int),b.2.1+((y:Nat):Int),b.2.2.1+((z:Nat):Int))->∀[Decidable v'],∀l:List (Nat×Int),
   (bS q b->l++(if v' then [(nb bF bX x y z,d)] else [])=l++[(b_ b q,d)])/\(¬bS q b->l++(if v' then [(nb bF bX x y z,d)] else [])=l):=by
  intro d x y z v' ar q bb _ l;subst bb;constructor
  ·intro lv
   have h:=j7 lv;dsimp only at h;have ah:x<bF/\y<bX/\z<a_:=by omega
   rw[aY (ar.2 ah),(QJ aw ad ag ay ah.1 ah.2.1 ah.2.2).2]
  ·intro lv
   rw[a' (λh=>lv (QJ aw ad ag ay (ar.1 h).1 (ar.1 h).2.1 (ar.1 h).2.2).1),List.append_nil]
 have out:∀q:ej,¬bS q b->∀(v':Prop) [Decidable v'] (n:Nat) (d:Int),¬v'->∀l:List (Nat×Int),(bS q b->l++(if v' then [(n,d)] else [])=l++[(b_ b q,d)])/\(¬bS q b->l++(if v' then [(n,d)] else [])=l):=by
  intro q bb v' _ n d ar l;exact⟨λh=>absurd h bb,λ_=>by rw[a' ar,List.append_nil]⟩
 have QL:∀q:ej,(q.1<b.1\/q.2.1<b.2.1\/q.2.2<b.2.2.1)->¬bS q b:=λq bb h=>by
  have:=j7 h;omega
 match j,hj with
 |0,_=>
  by_cases h0:0<iJ bF k
  ·exact key 0 (iJ bF k-1) (iK bF bX k) (hU bF bX k) (0<iJ bF k) ⟨λ_=>⟨aj,c2,c3⟩,λ_=>h0⟩ (iM b k 0) (by
    show ((fp b ((k:Nat):Int)).1+(-1),(fp b ((k:Nat):Int)).2.1,(fp b ((k:Nat):Int)).2.2)=_;rw[ha];dsimp only
    rw[show b.1+((iJ bF k:Nat):Int)+ -1=b.1+((iJ bF k-1:Nat):Int) by omega]) _
  ·exact out (iM b k 0) (QL _ (.inl (by
    show (fp b ((k:Nat):Int)).1+(-1)<_;rw[ha];dsimp only
    omega))) (0<iJ bF k) _ 0 h0 _
 |1,_=>
  exact key 0 (iJ bF k+1) (iK bF bX k) (hU bF bX k) (iJ bF k+1<bF) ⟨λh=>⟨h,c2,c3⟩,λh=>h.1⟩ (iM b k 1) (by
    show ((fp b ((k:Nat):Int)).1+1,(fp b ((k:Nat):Int)).2.1,(fp b ((k:Nat):Int)).2.2)=_;rw[ha];dsimp only
    rw[show b.1+((iJ bF k:Nat):Int)+1=b.1+((iJ bF k+1:Nat):Int) by omega]) _
 |2,_=>
  by_cases h0:0<iK bF bX k
  ·exact key 0 (iJ bF k) (iK bF bX k-1) (hU bF bX k) (0<iK bF bX k) ⟨λ_=>⟨hq,aj,c3⟩,λ_=>h0⟩ (iM b k 2) (by
    show ((fp b ((k:Nat):Int)).1,(fp b ((k:Nat):Int)).2.1+(-1),(fp b ((k:Nat):Int)).2.2)=_;rw[ha];dsimp only
    rw[show b.2.1+((iK bF bX k:Nat):Int)+ -1=b.2.1+((iK bF bX k-1:Nat):Int) by omega]) _
  ·exact out (iM b k 2) (QL _ (.inr (.inl (by
    show (fp b ((k:Nat):Int)).2.1+(-1)<_;rw[ha];dsimp only
    omega)))) (0<iK bF bX k) _ 0 h0 _
 |3,_=>
  exact key 0 (iJ bF k) (iK bF bX k+1) (hU bF bX k) (iK bF bX k+1<bX) ⟨λh=>⟨hq,h,c3⟩,λh=>h.2.1⟩ (iM b k 3) (by
    show ((fp b ((k:Nat):Int)).1,(fp b ((k:Nat):Int)).2.1+1,(fp b ((k:Nat):Int)).2.2)=_;rw[ha];dsimp only
    rw[show b.2.1+((iK bF bX k:Nat):Int)+1=b.2.1+((iK bF bX k+1:Nat):Int) by omega]) _
 |4,_=>
  by_cases h0:0<hU bF bX k
  ·exact key (-1) (iJ bF k) (iK bF bX k) (hU bF bX k-1) (0<hU bF bX k) ⟨λ_=>⟨hq,c2,aj⟩,λ_=>h0⟩ (iM b k 4) (by
    show ((fp b ((k:Nat):Int)).1,(fp b ((k:Nat):Int)).2.1,(fp b ((k:Nat):Int)).2.2+(-1))=_;rw[ha];dsimp only
    rw[show b.2.2.1+((hU bF bX k:Nat):Int)+ -1=b.2.2.1+((hU bF bX k-1:Nat):Int) by omega]) _
  ·exact out (iM b k 4) (QL _ (.inr (.inr (by
    show (fp b ((k:Nat):Int)).2.2+(-1)<_;rw[ha];dsimp only
    omega)))) (0<hU bF bX k) _ (-1) h0 _
 |5,_=>
  exact key 1 (iJ bF k) (iK bF bX k) (hU bF bX k+1) (hU bF bX k+1<a_) ⟨λh=>⟨hq,c2,h⟩,λh=>h.2.2⟩ (iM b k 5) (by
    show ((fp b ((k:Nat):Int)).1,(fp b ((k:Nat):Int)).2.1,(fp b ((k:Nat):Int)).2.2+1)=_;rw[ha];dsimp only
    rw[show b.2.2.1+((hU bF bX k:Nat):Int)+1=b.2.2.1+((hU bF bX k+1:Nat):Int) by omega]) _
theorem ajp {b:bT} {k:Nat} {sh:List Bool} (al:k<sh.length) (hl:sh.length=(ft b).toNat) {j:Nat} (hj:j<6) (h:bS (iM b k j) b) (aw:sh.getD (b_ b (iM b k j)) default=true):er b sh k (j+1)=er b sh k j++[(b_ b (iM b k j),p7 j)]:=by
 unfold er;rw[(QK al hl hj).1 h,List.filter_append,List.filter_cons_of_pos (by exact aw),List.filter_nil]
theorem ajq {b:bT} {k:Nat} {sh:List Bool} (al:k<sh.length) (hl:sh.length=(ft b).toNat) {j:Nat} (hj:j<6) (h:bS (iM b k j) b) (aw:¬sh.getD (b_ b (iM b k j)) default=true):er b sh k (j+1)=er b sh k j:=by
 unfold er;rw[(QK al hl hj).1 h,List.filter_append,List.filter_cons_of_neg (by exact aw),List.filter_nil,List.append_nil]
theorem ajr {b:bT} {k:Nat} {sh:List Bool} (al:k<sh.length) (hl:sh.length=(ft b).toNat) {j:Nat} (hj:j<6) (h:¬bS (iM b k j) b):er b sh k (j+1)=er b sh k j:=by
 unfold er;rw[(QK al hl hj).2 h]
def sz (l:List (Nat×Int)) (s:List Nat×List Bool):List Nat×List Bool:=l.foldl (λs p=>(mI s.1 s.2 p.1,nL s.2 p.1)) s
def o_ (table:List cU) (lit:List Int) (old:bO) (s:List az×List Nat×List bO) (p:Nat×Int):List az×List Nat×List bO:=
 (BY s.1 p.1 (z_ (eG table (lit.getD p.1 default)).2.2.2.2.1 old (s.2.2.getD p.1 default) p.2),yK s.2.1 p.1 (z_ (eG table (lit.getD p.1 default)).2.2.2.2.1 old (s.2.2.getD p.1 default) p.2),Aa s.2.2 p.1 (z_ (eG table (lit.getD p.1 default)).2.2.2.2.1 old (s.2.2.getD p.1 default) p.2))
def mn (table:List cU) (lit:List Int) (old:bO) (l:List (Nat×Int)) (s:List az×List Nat×List bO):List az×List Nat×List bO:=l.foldl (o_ table lit old) s
theorem Y1 (a:List az) (n:Nat) (eJ:bO):(BY a n eJ).length<=a.length+1:=by
 unfold BY;split<;>simp
theorem ajs (a:List Nat) (n:Nat) (eJ:bO):(yK a n eJ).length<=a.length+1:=by
 unfold yK;split<;>simp
theorem ajt (a:List bO) (n:Nat) (eJ:bO):(Aa a n eJ).length=a.length:=by
 unfold Aa;split<;>simp
def sA (F:Int) (aE:List bO) (l:List (Nat×Int)) (out:bO):bO:=l.foldl (λo p=>BZ F o (aE.getD p.1 default) p.2) out
end AE
namespace AE
def gF (m:cU):Nat->Int
 |0=>m.2.2.2.2.2.1
 |1=>m.2.2.2.2.2.2.1
 |_=>m.2.2.2.2.2.2.2
def K2 (m:cU) (top:Prop) [Decidable top]:bO:=(gF m 0,gF m 1,gF m 2,if top then given 15 m.2.2.2.2.1 3 true else 0)
def yL (b:bT) (k:Nat):Prop:=(fp b ((k:Nat):Int)).2.2=b.2.2.2.2.2-1
instance (b:bT) (k:Nat):Decidable (yL b k):=by unfold yL;infer_instance
def v_ (table:List cU) (lit:List Int) (aE:List bO) (b8:List Bool) (b:bT) (k:Nat):bO:=
 if b8.getD k default=true then sA (eG table (lit.getD k default)).2.2.2.2.1 aE (er b b8 k 6) (K2 (eG table (lit.getD k default)) (yL b k)) else z4
theorem aju {table:List cU} {lit:List Int} {aE:List bO} {b8:List Bool} {b:bT} {k:Nat} (h:¬b8.getD k default=true):v_ table lit aE b8 b k=z4:=a' h
theorem ajv {table:List cU} {lit:List Int} {aE:List bO} {b8:List Bool} {b:bT} {k:Nat} (h:b8.getD k default=true) (aL:yL b k):v_ table lit aE b8 b k=sA (eG table (lit.getD k default)).2.2.2.2.1 aE (er b b8 k 6) (gF (eG table (lit.getD k default)) 0,gF (eG table (lit.getD k default)) 1,gF (eG table (lit.getD k default)) 2,given 15 (eG table (lit.getD k default)).2.2.2.2.1 3 true):=by
 unfold v_ K2;rw[aY h,aY aL]
theorem ajw {table:List cU} {lit:List Int} {aE:List bO} {b8:List Bool} {b:bT} {k:Nat} (h:b8.getD k default=true) (aL:¬yL b k):v_ table lit aE b8 b k=sA (eG table (lit.getD k default)).2.2.2.2.1 aE (er b b8 k 6) (gF (eG table (lit.getD k default)) 0,gF (eG table (lit.getD k default)) 1,gF (eG table (lit.getD k default)) 2,0):=by
 unfold v_ K2;rw[aY h,a' aL]
end AE
namespace AE
structure iN where
 aE:List bO
 bH:List az
 gone:List Nat
 bw:List Nat
 waits:List Bool
 reqs:List gx
 lit:List Int
 b8:List Bool
def mK (l:List Nat) (s:List Nat×List Bool):List Nat×List Bool:=l.foldl (λs k=>(mI s.1 s.2 k,nL s.2 k)) s
def lj (i:Nat) (now old:bO):bO:=rq λc=>if c<i then max (cl now c) (cl old c) else cl old c
def wa (i:Nat) (now old:bO):Bool:=(decide (0<i)&&decide (cl old 0<cl now 0))||(decide (1<i)&&decide (cl old 1<cl now 1))||(decide (2<i)&&decide (cl old 2<cl now 2))||(decide (3<i)&&decide (cl old 3<cl now 3))
variable (table:List cU) (b:bT)
def xo (u:iN) (x:az) (r:List az):List az×List Nat×List bO:=mn table u.lit x.2 (er b u.b8 x.1 6) (r,u.gone,u.aE)
def yM (u:iN) (x:az) (r:List az):iN:=
 if (xo table b u x r).1.length=0 then
  {u with bH:=(xo table b u x r).1,gone:=[],aE:=(xo table b u x r).2.2,bw:=(mK (xo table b u x r).2.1 (u.bw,u.waits)).1,waits:=(mK (xo table b u x r).2.1 (u.bw,u.waits)).2}
 else {u with bH:=(xo table b u x r).1,gone:=(xo table b u x r).2.1,aE:=(xo table b u x r).2.2}
def G3 (u:iN) (k:Nat):bO:=v_ table u.lit u.aE u.b8 b k
def yN (u:iN) (k:Nat) (r:List Nat):iN:=
 if wa 4 (G3 table b u k) (u.aE.getD k default)=true then
  {u with aE:=u.aE.set k (lj 4 (G3 table b u k) (u.aE.getD k default)),bw:=(sz (er b u.b8 k 6) (r,u.waits.set k false)).1,waits:=(sz (er b u.b8 k 6) (r,u.waits.set k false)).2}
 else {u with aE:=u.aE.set k (lj 4 (G3 table b u k) (u.aE.getD k default)),bw:=r,waits:=u.waits.set k false}
def K3 (u:iN) (x:gx) (r:List gx):iN:=
 {u with bH:=u.bH++[(x.1,u.aE.getD x.1 default)],gone:=u.gone++[x.1],aE:=u.aE.set x.1 (vI (u.aE.getD x.1 default) (u.aE.getD x.1 default)),lit:=u.lit.set x.1 x.2.1,b8:=u.b8.set x.1 x.2.2,reqs:=r}
def gS (u:iN):Bool×iN:=
 if 0<u.bH.length then (true,yM table b u (u.bH.getD 0 default) (u.bH.drop 1))
 else if 0<u.bw.length then (true,yN table b u (u.bw.getD 0 default) (u.bw.drop 1))
 else if 0<u.reqs.length then (true,K3 u (u.reqs.getD 0 default) (u.reqs.drop 1))
 else (false,u)
variable {table b}
theorem G4 {u:iN} (h:0<u.bH.length):gS table b u=(true,yM table b u (u.bH.getD 0 default) (u.bH.drop 1)):=aY h
theorem G5 {u:iN} (h:¬0<u.bH.length) (ag:0<u.bw.length):gS table b u=(true,yN table b u (u.bw.getD 0 default) (u.bw.drop 1)):=(a' h).trans (aY ag)
theorem G6 {u:iN} (h:¬0<u.bH.length) (ag:¬0<u.bw.length) (ay:0<u.reqs.length):gS table b u=(true,K3 u (u.reqs.getD 0 default) (u.reqs.drop 1)):=(a' h).trans ((a' ag).trans (aY ay))
theorem G7 {u:iN} (h:¬0<u.bH.length) (ag:¬0<u.bw.length) (ay:¬0<u.reqs.length):gS table b u=(false,u):=(a' h).trans ((a' ag).trans (a' ay))
end AE
namespace AE
section
variable {N eJ:bO} {l jM:List bO} {k:Nat}
theorem ajx:lj 0 N eJ=eJ:=bO.ext' λc ar=>by
 unfold lj;rw[iU ar,a' (Nat.not_lt_zero c)]
end
section
variable {g QM:List Nat} {w K4:List Bool} {l:List Nat} {j:Nat}
theorem ajy (s:List Nat×List Bool) (k:Nat):mK (l++[k]) s=(mI (mK l s).1 (mK l s).2 k,nL (mK l s).2 k):=by
 unfold mK;rw[List.foldl_append];rfl
theorem ajz {s:List Nat×List Bool} (aA:QM=(mK (l.take j) s).1) (hw:K4=(mK (l.take j) s).2) (hj:j<l.length):mI QM K4 (l.getD j default)=(mK (l.take (j+1)) s).1/\nL K4 (l.getD j default)=(mK (l.take (j+1)) s).2:=by
 have:l.take (j+1)=l.take j++[l.getD j default]:=by
  rw[List.take_add_one,dp,f_ hj];rfl
 rw[this,ajy,<-aA,<-hw];exact⟨rfl,rfl⟩
end
theorem ajA {b:bT} {sh:List Bool} {k j:Nat} {p:Nat×Int} (h:p∈er b sh k j):p.1<sh.length:=by
 unfold er at h;have ag:=(List.mem_filter.1 h).2;rcases Nat.lt_or_ge p.1 sh.length with ay|ay
 ·exact ay
 ·rw[dp,List.getElem?_eq_none ay] at ag
  cases ag
theorem ajB (b:bT) (sh:List Bool) (k j:Nat):(er b sh k j).length<=j:=by
 unfold er xn;exact Nat.le_trans (List.length_filter_le _ _) (O5 _ _ _ _ _)
theorem Y2 {N:Nat} {table:List cU} {lit:List Int} {old:bO}:∀(l:List (Nat×Int)) (s:List az×List Nat×List bO),(∀p∈l,p.1<N)->(∀k∈s.2.1,k<N)->
  (∀k∈(mn table lit old l s).2.1,k<N)/\(mn table lit old l s).2.1.length<=s.2.1.length+l.length/\(mn table lit old l s).2.2.length=s.2.2.length/\(mn table lit old l s).1.length<=s.1.length+l.length
 |[],s,_,h=>⟨h,cj _,rfl,cj _⟩
 |p::l,s,ad,h=>by
  have af:∀k∈(o_ table lit old s p).2.1,k<N:=by
   intro k al;unfold o_ yK at al;simp only at al;split at al
   ·exact h k al
   ·rcases List.mem_append.1 al with al|al
    ·exact h k al
    ·rw[List.mem_singleton.1 al];exact ad p (by simp)
  obtain⟨q1,aH,bW,et⟩:=Y2 l (o_ table lit old s p) (λq bb=>ad q (by simp [bb])) af;refine⟨q1,?_,?_,?_⟩
  ·have:(o_ table lit old s p).2.1.length<=s.2.1.length+1:=by
    unfold o_ yK;simp only;split<;>simp
   have e:(mn table lit old (p::l) s)=mn table lit old l (o_ table lit old s p):=rfl;rw[e];simp only [List.length_cons];omega
  ·have:(o_ table lit old s p).2.2.length=s.2.2.length:=by
    unfold o_ Aa;simp only;split<;>simp
   exact bW.trans this
  ·have:(o_ table lit old s p).1.length<=s.1.length+1:=Y1 _ _ _
   have e:(mn table lit old (p::l) s)=mn table lit old l (o_ table lit old s p):=rfl;rw[e];simp only [List.length_cons];omega
theorem ajC {b:bT} {sh:List Bool} {k:Nat} {table:List cU} {lit:List Int} {old:bO} {s:List az×List Nat×List bO} (h:∀k∈s.2.1,k<sh.length):
  (∀j,j<(mn table lit old (er b sh k 6) s).2.1.length->((mn table lit old (er b sh k 6) s).2.1.getD j default)<sh.length)/\(mn table lit old (er b sh k 6) s).2.1.length<=s.2.1.length+6:=by
 obtain⟨q1,aH,_⟩:=Y2 (N:=sh.length) (table:=table) (lit:=lit) (old:=old) (er b sh k 6) s (λp hp=>ajA hp) h;have:=ajB b sh k 6;refine⟨λj hj=> ?_,aj⟩;rw[dp,f_ hj];exact q1 _ (List.getElem_mem hj)
section
variable {table:List cU} {b:bT} {aE lM:List bO} {bH ct d:List az} {gone kh:List Nat} {bw QM:List Nat} {waits K4:List Bool} {reqs:List gx} {lit:List Int} {b8:List Bool}
end
end AE
namespace AE
def gT (b:bT):oC:=ag4 (bM b).1.toNat (bM b).2.1.toNat (bM b).2.2.toNat
def iO (table:List cU) (lit:List Int) (b8:List Bool):hg:=
 ⟨λk=>(eG table (lit.getD k default)).2.2.2.2.1,λk c=>gF (eG table (lit.getD k default)) c,λk=>b8.getD k default⟩
def hx (u:iN):gb:=⟨u.aE,u.bH,u.gone,u.bw,u.waits⟩
theorem Y3 {b:bT} (af:okB b):(gT b).N=(ft b).toNat:=by
 obtain⟨ad,_,ag,_,ay,_⟩:=BX af;show (bM b).1.toNat*(bM b).2.1.toNat*(bM b).2.2.toNat=_;unfold ft;have e:(bM b).1*(bM b).2.1*(bM b).2.2=(((bM b).1.toNat*(bM b).2.1.toNat*(bM b).2.2.toNat:Nat):Int):=by
  rw[Int.natCast_mul,Int.natCast_mul,Int.toNat_of_nonneg ad,Int.toNat_of_nonneg ag,Int.toNat_of_nonneg ay]
 rw[e,Int.toNat_natCast]
variable {table:List cU} {b:bT}
theorem ajD {k:Nat} (af:okB b) (al:k<(gT b).N):yL b k↔(gT b).top k=true:=by
 obtain⟨ad,_,ag,_,ay,_⟩:=BX af;have aw:bM b=((((bM b).1.toNat:Nat):Int),(((bM b).2.1.toNat:Nat):Int),(((bM b).2.2.toNat:Nat):Int)):=by
  rw[Int.toNat_of_nonneg ad,Int.toNat_of_nonneg ag,Int.toNat_of_nonneg ay]
 have kj:k<(bM b).1.toNat*(bM b).2.1.toNat*(bM b).2.2.toNat:=al;have aQ:iX b:=by
  by_cases aQ:iX b
  ·exact aQ
  ·rw[xm aQ] at kj
   simp at kj
 unfold yL;rw[YZ aw kj];show b.2.2.1+((hU (bM b).1.toNat (bM b).2.1.toNat k:Nat):Int)=b.2.2.2.2.2-1↔decide (hU (bM b).1.toNat (bM b).2.1.toNat k+1=(bM b).2.2.toNat)=true;have bG:(bM b).2.2=b.2.2.2.2.2-b.2.2.1:=by rw[uQ aQ]
 rw[decide_eq_true_eq];omega
theorem Y4 {F:Int} {aE:List bO} {c:Nat} (ar:c<4):∀(l:List (Nat×Int)) (out:bO),cl (sA F aE l out) c=l.foldl (λa p=>max a (given (dF aE p.1 c) F c (decide (0<p.2)))) (cl out c)
 |[],out=>rfl
 |p::l,out=>by
  show cl (sA F aE l (BZ F out (aE.getD p.1 default) p.2)) c=_;rw[Y4 ar l,List.foldl_cons];congr 1;unfold BZ;rw[iU ar];rfl
theorem ajE {lit:List Int} {aE:List bO} {sh:List Bool} {k c:Nat} (af:okB b) (al:k<(gT b).N) (ar:c<4):cl (v_ table lit aE sh b k) c=rule (gT b) (iO table lit sh) (dF aE) k c:=by
 unfold v_ rule;show cl (if sh.getD k default=true then _ else _) c=if sh.getD k default=true then _ else _
 split
 ·rw[Y4 ar]
  congr 1;unfold K2 uF;have aL:=ajD af al
  match c,ar with
  |0,_=>rfl
  |1,_=>rfl
  |2,_=>rfl
  |3,_=>
   show (if yL b k then _ else _)=if (3:Nat)=3 then (if (gT b).top k=true then _ else _) else _
   rw[aY rfl];by_cases h:yL b k
   ·rw[aY h,aY (aL.1 h)];rfl
   ·rw[a' h,a' (λe=>h (aL.2 e))]
 ·exact F' c
theorem ajF {lit:List Int} {sh:List Bool} {k:Nat} (af:okB b) (al:k<(gT b).N) (w:gb):v_ table lit w.aE sh b k=pD (gT b) (iO table lit sh) w k:=bO.ext' λc ar=>by
 rw[ajE af al ar];unfold pD;rw[iU ar]
theorem ajG (x y:bO):lj 4 x y=ti x y:=by
 unfold lj ti rq;simp
theorem ajH (x y:bO):wa 4 x y=zP x y:=by
 unfold wa zP;simp
theorem ajI {lit:List Int} {sh:List Bool} {old:bO} {p:Nat×Int} {w:gb}:o_ table lit old (w.bH,w.gone,w.aE) p=((hh (iO table lit sh) old w p).bH,(hh (iO table lit sh) old w p).gone,(hh (iO table lit sh) old w p).aE)/\(hh (iO table lit sh) old w p).bw=w.bw/\(hh (iO table lit sh) old w p).waits=w.waits:=by
 have e:z_ (eG table (lit.getD p.1 default)).2.2.2.2.1 old (w.aE.getD p.1 default) p.2=pC (iO table lit sh) old (w.aE.getD p.1 z4) p:=rfl;unfold o_ hh BY yK Aa;rw[e];split
 ·exact⟨rfl,rfl,rfl⟩
 ·exact⟨rfl,rfl,rfl⟩
theorem Y5 {lit:List Int} {sh:List Bool} {old:bO}:∀(l:List (Nat×Int)) (w:gb),mn table lit old l (w.bH,w.gone,w.aE)=((l.foldl (hh (iO table lit sh) old) w).bH,(l.foldl (hh (iO table lit sh) old) w).gone,(l.foldl (hh (iO table lit sh) old) w).aE)/\(l.foldl (hh (iO table lit sh) old) w).bw=w.bw/\(l.foldl (hh (iO table lit sh) old) w).waits=w.waits
 |[],w=>⟨rfl,rfl,rfl⟩
 |p::l,w=>by
  obtain⟨ad,ag,ay⟩:=ajI (table:=table) (lit:=lit) (sh:=sh) (old:=old) (p:=p) (w:=w);obtain⟨g1,g2,g3⟩:=Y5 (sh:=sh) l (hh (iO table lit sh) old w p);refine⟨?_,g2.trans ag,g3.trans ay⟩;show mn table lit old l (o_ table lit old (w.bH,w.gone,w.aE) p)=_;rw[ad,g1];rfl
theorem ajJ (w:gb) (k:Nat):jb w k={w with bw:=mI w.bw w.waits k,waits:=nL w.waits k}:=by
 unfold jb mI nL;show (if w.waits.getD k default=true then _ else _)=_;split<;>rfl
theorem K5 {α:Type} (f:α->Nat):∀(l:List α) (w:gb),l.foldl (λw p=>jb w (f p)) w={w with bw:=(l.foldl (λs p=>(mI s.1 s.2 (f p),nL s.2 (f p))) (w.bw,w.waits)).1,waits:=(l.foldl (λs p=>(mI s.1 s.2 (f p),nL s.2 (f p))) (w.bw,w.waits)).2}
 |[],w=>rfl
 |p::l,w=>by
  rw[List.foldl_cons,K5 f l,ajJ];rfl
theorem G8 {α:Type} {l:List α} {d:α} (h:l≠[]):l=l.getD 0 d::l.drop 1:=by
 cases l with
 |nil=>exact absurd rfl h
 |cons x r=>rfl
theorem ajK {u:iN} (h:u.bH≠[]):sk (gT b) (iO table u.lit u.b8) (hx u)=some (hx (yM table b u (u.bH.getD 0 default) (u.bH.drop 1))):=by
 unfold sk;have e:(hx u).bH=u.bH.getD 0 default::u.bH.drop 1:=G8 h;rw[e];obtain⟨ad,ag,ay⟩:=Y5 (table:=table) (lit:=u.lit) (sh:=u.b8) (old:=(u.bH.getD 0 default).2) (er b u.b8 (u.bH.getD 0 default).1 6) {hx u with bH:=u.bH.drop 1};show some (F_ (hT (gT b) (iO table u.lit u.b8) (hx u) (u.bH.getD 0 default) (u.bH.drop 1)))=_;refine congrArg some ?_;have hl:xo table b u (u.bH.getD 0 default) (u.bH.drop 1)=((hT (gT b) (iO table u.lit u.b8) (hx u) (u.bH.getD 0 default) (u.bH.drop 1)).bH,(hT (gT b) (iO table u.lit u.b8) (hx u) (u.bH.getD 0 default) (u.bH.drop 1)).gone,(hT (gT b) (iO table u.lit u.b8) (hx u) (u.bH.getD 0 default) (u.bH.drop 1)).aE):=ad
 change (hT (gT b) (iO table u.lit u.b8) (hx u) (u.bH.getD 0 default) (u.bH.drop 1)).bw=u.bw at ag
 change (hT (gT b) (iO table u.lit u.b8) (hx u) (u.bH.getD 0 default) (u.bH.drop 1)).waits=u.waits at ay
 unfold yM F_;rw[hl];generalize hT (gT b) (iO table u.lit u.b8) (hx u) (u.bH.getD 0 default) (u.bH.drop 1)=X at ag ay ⊢;by_cases bU:X.bH=[]
 ·rw[aY bU,aY (by show X.bH.length=0;rw[bU];rfl)]
  have:=K5 (λk:Nat=>k) X.gone X
  change X.gone.foldl jb X=_ at this
  rw[this,ag,ay];rfl
 ·rw[a' bU,a' (by show ¬X.bH.length=0;intro e;exact bU (List.length_eq_zero_iff.1 e))]
  show _=(⟨X.aE,X.bH,X.gone,u.bw,u.waits⟩:gb);rw[<-ag,<-ay]
theorem ajL {u:iN} (af:okB b) (h:u.bH=[]) (ag:u.bw≠[]) (al:u.bw.getD 0 default<(gT b).N):sk (gT b) (iO table u.lit u.b8) (hx u)=some (hx (yN table b u (u.bw.getD 0 default) (u.bw.drop 1))):=by
 unfold sk;rw[show (hx u).bH=[] from h,show (hx u).bw=u.bw.getD 0 default::u.bw.drop 1 from G8 ag];show some (Ga (gT b) (iO table u.lit u.b8) (hx u) (u.bw.getD 0 default) (u.bw.drop 1))=_;refine congrArg some ?_;have av:G3 table b u (u.bw.getD 0 default)=pD (gT b) (iO table u.lit u.b8) (hx u) (u.bw.getD 0 default):=ajF af al (hx u);unfold yN Ga;rw[av,ajG,ajH];show (if zP _ (u.aE.getD (u.bw.getD 0 default) default)=true then _ else _)=hx (if zP _ (u.aE.getD (u.bw.getD 0 default) default)=true then _ else _);split
 ·have:=K5 (λp:Nat×Int=>p.1) (lE (gT b) (iO table u.lit u.b8) (u.bw.getD 0 default)) {hx u with bw:=u.bw.drop 1,waits:=u.waits.set (u.bw.getD 0 default) false,aE:=u.aE.set (u.bw.getD 0 default) (ti (pD (gT b) (iO table u.lit u.b8) (hx u) (u.bw.getD 0 default)) (u.aE.getD (u.bw.getD 0 default) z4))}
  exact this
 ·rfl
theorem Y6 {u:iN} (h:u.bH=[]) (ag:u.bw=[]):sk (gT b) (iO table u.lit u.b8) (hx u)=none:=by
 unfold sk;rw[show (hx u).bH=[] from h,show (hx u).bw=[] from ag]
end AE
namespace AE
def Y7 (table:List cU):Prop:=∀c:Int,1<=(eG table c).2.2.2.2.1/\(eG table c).2.2.2.2.1<=16/\∀i,i<3->0<=gF (eG table c) i/\gF (eG table c) i<=15
def B0 (l:List az):Prop:=∀x∈l,∀c,c<4->0<=cl x.2 c/\cl x.2 c<=15
def K6 (l:List bO):Prop:=∀k c,k<l.length->c<4->0<=dF l k c/\dF l k c<=15
structure Ab (w:gb):Prop where
 e5:B0 w.bH
 G9:w.gone.length+lW o3 w.aE<=4*w.aE.length+1
theorem ajM {S:hg} {old:bO} {w:gb} {p:Nat×Int} (hp:p.1<w.aE.length) (af:K6 w.aE) (hl:B0 w.bH):
  B0 (hh S old w p).bH/\K6 (hh S old w p).aE/\(hh S old w p).aE.length=w.aE.length/\(hh S old w p).gone.length+w.bH.length=(hh S old w p).bH.length+w.gone.length:=by
 unfold hh;split
 ·exact⟨hl,af,rfl,Nat.add_comm _ _⟩
 ·refine⟨?_,?_,by simp [jr],by simp [jr];omega⟩
  ·intro x aq c ar
   rcases List.mem_append.1 aq with aq|aq
   ·exact hl x aq c ar
   ·rw[List.mem_singleton.1 aq]
    show 0<=cl (pC S old (w.aE.getD p.1 z4) p) c/\_;have:=af p.1 c hp ar;unfold dF at this;unfold pC;rw[iU ar];split
    ·exact this
    ·omega
  ·intro k c al ar
   have og:k<w.aE.length:=by simpa [jr] using al
   rw[OW hp ar];split
   ·omega
   ·exact af k c og ar
theorem Y8 {S:hg} {old:bO}:∀(l:List (Nat×Int)) (w:gb),(∀p∈l,p.1<w.aE.length)->K6 w.aE->B0 w.bH->
  B0 (l.foldl (hh S old) w).bH/\(l.foldl (hh S old) w).gone.length+w.bH.length=(l.foldl (hh S old) w).bH.length+w.gone.length
 |[],w,_,_,hl=>⟨hl,Nat.add_comm _ _⟩
 |p::l,w,hp,af,hl=>by
  obtain⟨q1,aH,bW,et⟩:=ajM (S:=S) (old:=old) (hp p (by simp)) af hl;obtain⟨cO,dx⟩:=Y8 (S:=S) (old:=old) l (hh S old w p) (λq bb=>by rw[bW];exact hp q (by simp [bb])) aH q1;exact⟨cO,by rw[List.foldl_cons];omega⟩
variable {G:oC}
theorem Y9 {α:Type} (f:α->Nat) (l:List α) (w:gb):(l.foldl (λw p=>jb w (f p)) w).aE=w.aE/\(l.foldl (λw p=>jb w (f p)) w).bH=w.bH/\(l.foldl (λw p=>jb w (f p)) w).gone=w.gone:=by
 rw[K5];exact⟨rfl,rfl,rfl⟩
theorem Ab.unit {S:hg} {w w':gb} (h:qJ G S w) (f:Ab w) (hu:sk G S w=some w'):Ab w':=by
 unfold sk at hu;split at hu
 ·rename_i x r aq
  cases hu;have cW:w.bH≠[]:=by rw[aq];simp
  obtain⟨aA,jC,ca,ey,cur,zN,bc⟩:=h.down cW;have sj:x.1<G.N:=bc.lost x (by rw[aq];simp);have ck:∀p∈lE G S x.1,p.1<w.aE.length:=λp hp=>by rw[h.len];exact G.si _ p.1 p.2 sj (vH.1 hp).1
  obtain⟨hp1,hp2,_,_⟩:=W4 (S:=S) (old:=x.2) (lE G S x.1) {w with bH:=r} ck;have ajN:K6 w.aE:=λk c al ar=>h.bound k c (by rw[<-h.len];exact al) ar
  obtain⟨cO,dx⟩:=Y8 (S:=S) (old:=x.2) (lE G S x.1) {w with bH:=r} ck ajN λy bE=>f.e5 y (by rw[aq];simp [bE])
  change (hT G S w x r).bH.length+lW o3 (hT G S w x r).aE<=r.length+lW o3 w.aE at hp1
  change (hT G S w x r).aE.length=w.aE.length at hp2
  change B0 (hT G S w x r).bH at cO
  change (hT G S w x r).gone.length+r.length=(hT G S w x r).bH.length+w.gone.length at dx
  have aQ:=f.G9;unfold F_;split
  ·rename_i bU
   obtain⟨g1,g2,g3⟩:=Y9 (λk:Nat=>k) (hT G S w x r).gone (hT G S w x r)
   change ((hT G S w x r).gone.foldl jb (hT G S w x r)).aE=_ at g1
   change ((hT G S w x r).gone.foldl jb (hT G S w x r)).bH=_ at g2
   refine⟨?_,?_⟩
   ·show B0 ((hT G S w x r).gone.foldl jb (hT G S w x r)).bH
    rw[g2];exact cO
   ·show ([]:List Nat).length+lW o3 ((hT G S w x r).gone.foldl jb (hT G S w x r)).aE<=4*((hT G S w x r).gone.foldl jb (hT G S w x r)).aE.length+1
    rw[g1];have:=Gc (hT G S w x r);simp only [List.length_nil];omega
  ·exact⟨cO,aj⟩
 ·rename_i aq
  obtain⟨C8,_⟩:=h.up aq;split at hu
  ·rename_i k r aA
   cases hu;have key:∀w':gb,w'.bH=[]->w'.gone=[]->Ab w':=λw' ad ag=>⟨(by rw[ad];exact λx aq=>absurd aq (by simp)),by
    have:=Gc w';rw[ag,List.length_nil]
    omega⟩
   unfold Ga;simp only;split
   ·obtain⟨_,g2,g3⟩:=Y9 (λp:Nat×Int=>p.1) (lE G S k) {w with bw:=r,waits:=w.waits.set k false,aE:=w.aE.set k (ti (pD G S w k) (w.aE.getD k z4))}
    exact key _ (g2.trans aq) (g3.trans C8)
   ·exact key _ aq C8
  ·cases hu
theorem Ab.A7 {S:hg} {w:gb} (h:qJ G S w) (ad:w.bH=[]) (ag:w.gone=[]) {k:Nat} (al:k<G.N):Ab (jr w k (w.aE.getD k z4)):=by
 refine⟨?_,?_⟩
 ·intro x aq c ar
  unfold jr at aq;simp only [ad,List.nil_append,List.mem_singleton] at aq;rw[aq];exact h.bound k c al ar
 ·have:=Gc (jr w k (w.aE.getD k z4))
  have aA:(jr w k (w.aE.getD k z4)).gone.length=1:=by
   unfold jr;simp [ag]
  omega
structure gp (table:List cU) (b:bT) (u:iN):Prop where
 B1:Y7 table
 box:okB b
 len:u.b8.length=(ft b).toNat
 G':u.lit.length=u.b8.length
 few:u.b8.length<=10000
 work:qJ (gT b) (iO table u.lit u.b8) (hx u)
 fit:Ab (hx u)
 mG:mG (gT b).N (hx u)<=qI (gT b).N
 reqs:∀x∈u.reqs,x.1<u.b8.length
def hN (b:bT) (u:iN):Nat:=mG (gT b).N (hx u)+qI (gT b).N*u.reqs.length
variable {table:List cU} {b:bT} {u:iN}
theorem gp.N (h:gp table b u):(gT b).N=u.b8.length:=(Y3 h.box).trans h.len.symm
theorem gp.ok (h:gp table b u):(iO table u.lit u.b8).lg (gT b).N:=⟨λ_ _=>(h.B1 _).1,λ_ c _ ar=>(h.B1 _).2.2 c ar⟩
theorem gp.G_ (h:gp table b u):u.aE.length=u.b8.length:=h.work.len.trans h.N
theorem gp.ajO (h:gp table b u):u.waits.length=u.b8.length:=h.work.wait.len.trans h.N
theorem gp.e5 (h:gp table b u):∀x∈u.bH,x.1<u.b8.length/\0<=x.2.1/\x.2.1<=15/\0<=x.2.2.1/\x.2.2.1<=15/\0<=x.2.2.2.1/\x.2.2.2.1<=15/\0<=x.2.2.2.2/\x.2.2.2.2<=15:=λx aq=>by
 have cW:(hx u).bH≠[]:=λe=>by
  have:x∈(hx u).bH:=aq;rw[e] at this;cases this
 obtain⟨_,jC,ca,ey,cur,_,bc⟩:=h.work.down cW;have q:=h.fit.e5 x aq;refine⟨by rw[<-h.N];exact bc.lost x aq,?_⟩;exact⟨(q 0 cB).1,(q 0 cB).2,(q 1 cB).1,(q 1 cB).2,(q 2 cB).1,(q 2 cB).2,(q 3 cB).1,(q 3 cB).2⟩
theorem gp.nr (h:gp table b u):∀k∈u.bw,k<u.b8.length:=λk al=>by rw[<-h.N];exact h.work.wait.lt k al
theorem gp.go (h:gp table b u):∀k∈u.gone,k<u.b8.length:=λk al=>by
 by_cases aq:(hx u).bH=[]
 ·have:=(h.work.up aq).1
  have og:k∈(hx u).gone:=al;rw[this] at og;cases og
 ·obtain⟨_,jC,ca,ey,cur,_,bc⟩:=h.work.down aq
  rw[<-h.N];exact bc.DL k al
theorem gp.li (h:gp table b u):∀n,n<u.b8.length->0<=(u.aE.getD n default).1/\(u.aE.getD n default).1<=15/\0<=(u.aE.getD n default).2.1/\(u.aE.getD n default).2.1<=15/\0<=(u.aE.getD n default).2.2.1/\(u.aE.getD n default).2.2.1<=15/\0<=(u.aE.getD n default).2.2.2/\(u.aE.getD n default).2.2.2<=15:=λn av=>by
 have q:=λc (ar:c<4)=>h.work.bound n c (by rw[h.N];exact av) ar
 exact⟨(q 0 cB).1,(q 0 cB).2,(q 1 cB).1,(q 1 cB).2,(q 2 cB).1,(q 2 cB).2,(q 3 cB).1,(q 3 cB).2⟩
theorem gp.cn (h:gp table b u):∀n,n<u.b8.length->1<=(eG table (u.lit.getD n default)).2.2.2.2.1/\(eG table (u.lit.getD n default)).2.2.2.2.1<=16:=λ_ _=>⟨(h.B1 _).1,(h.B1 _).2.1⟩
theorem gp.hq (h:gp table b u):u.bH.length<=50000:=by
 have hp:=h.mG;unfold AE.mG at hp;have kj:=h.N;have aQ:=h.few;by_cases aq:(hx u).bH=[]
 ·have:u.bH=[]:=aq
  rw[this];exact Nat.zero_le _
 ·rw[a' aq] at hp
  unfold qI at hp;have:(hx u).bH.length=u.bH.length:=rfl;omega
theorem gp.c2 (h:gp table b u):u.gone.length<=50000:=by
 have ad:=h.fit.G9;have ag:=h.G_;have aQ:=h.few;have e1:(hx u).gone.length=u.gone.length:=rfl;have e2:(hx u).aE.length=u.aE.length:=rfl;omega
theorem gp.c3 (h:gp table b u):u.bw.length<=50000:=by
 have ad:=h.work.wait.count;have aQ:=h.few;have kj:=h.N;have e1:(hx u).bw.length=u.bw.length:=rfl;omega
theorem Y' (u:iN) (x:az) (r:List az):(yM table b u x r).lit=u.lit/\(yM table b u x r).b8=u.b8/\(yM table b u x r).reqs=u.reqs:=by
 unfold yM;split<;>exact⟨rfl,rfl,rfl⟩
theorem Y_ (u:iN) (k:Nat) (r:List Nat):(yN table b u k r).lit=u.lit/\(yN table b u k r).b8=u.b8/\(yN table b u k r).reqs=u.reqs:=by
 unfold yN;split<;>exact⟨rfl,rfl,rfl⟩
theorem gp.step {u':iN} (h:gp table b u) (hu:sk (gT b) (iO table u.lit u.b8) (hx u)=some (hx u')) (al:u'.lit=u.lit/\u'.b8=u.b8/\u'.reqs=u.reqs):gp table b u'/\hN b u'+1<=hN b u:=by
 obtain⟨dg,k2,vA⟩:=al;obtain⟨w1,w2⟩:=h.work.unit h.ok hu;refine⟨⟨h.B1,h.box,by rw[k2];exact h.len,by rw[dg,k2];exact h.G',by rw[k2];exact h.few,by rw[dg,k2];exact w1,h.fit.unit h.work hu,by have:=h.mG;omega,by rw[vA,k2];exact h.reqs⟩,?_⟩;unfold hN;rw[vA];omega
theorem gp.unit (h:gp table b u) (ad:(gS table b u).1=true):gp table b (gS table b u).2/\hN b (gS table b u).2+1<=hN b u:=by
 by_cases hl:u.bH=[]
 ·by_cases aA:u.bw=[]
  ·by_cases ao:u.reqs=[]
   ·rw[G7 (by rw[hl];simp) (by rw[aA];simp) (by rw[ao];simp)] at ad
    cases ad
   ·have aq:u.reqs=u.reqs.getD 0 default::u.reqs.drop 1:=G8 ao
    rw[G6 (by rw[hl];simp) (by rw[aA];simp) (List.length_pos_iff.2 ao)];have nK:(u.reqs.getD 0 default).1<u.b8.length:=h.reqs _ (by rw[aq];simp);have al:(u.reqs.getD 0 default).1<(gT b).N:=by rw[h.N];exact nK
    have av:=Y6 (table:=table) (b:=b) hl aA;generalize he:u.reqs.getD 0 default=x at aq nK al ⊢;have hw:hx (K3 u x (u.reqs.drop 1))=jr (hx u) x.1 ((hx u).aE.getD x.1 z4):=rfl;have xI:∀n,n≠x.1->(iO table (u.lit.set x.1 x.2.1) (u.b8.set x.1 x.2.2)).j3 n=(iO table u.lit u.b8).j3 n/\(∀c,(iO table (u.lit.set x.1 x.2.1) (u.b8.set x.1 x.2.2)).emit n c=(iO table u.lit u.b8).emit n c)/\(iO table (u.lit.set x.1 x.2.1) (u.b8.set x.1 x.2.2)).b8 n=(iO table u.lit u.b8).b8 n:=λn cW=>by
     have e1:(u.lit.set x.1 x.2.1).getD n default=u.lit.getD n default:=by
      rw[Gb (by rw[h.G'];exact nK),a' cW]
     have e2:(u.b8.set x.1 x.2.2).getD n default=u.b8.getD n default:=by
      rw[Gb nK,a' cW]
     refine⟨?_,λc=> ?_,e2⟩
     ·show (eG table ((u.lit.set x.1 x.2.1).getD n default)).2.2.2.2.1=_
      rw[e1];rfl
     ·show gF (eG table ((u.lit.set x.1 x.2.1).getD n default)) c=_
      rw[e1];rfl
    obtain⟨t1,t2⟩:=h.work.A7 h.ok av al xI;obtain⟨s1,_,r5,_⟩:=h.work.settled h.ok av;have ar:u.reqs.length=(u.reqs.drop 1).length+1:=by
     rw[List.length_drop];have:=List.length_pos_iff.2 ao;omega
    refine⟨⟨h.B1,h.box,?_,?_,?_,?_,?_,?_,?_⟩,?_⟩
    ·show (u.b8.set x.1 x.2.2).length=_
     rw[List.length_set];exact h.len
    ·show (u.lit.set x.1 x.2.1).length=(u.b8.set x.1 x.2.2).length
     rw[List.length_set,List.length_set];exact h.G'
    ·show (u.b8.set x.1 x.2.2).length<=_
     rw[List.length_set];exact h.few
    ·rw[hw]
     exact t1
    ·rw[hw]
     exact Ab.A7 h.work s1 r5 al
    ·rw[hw]
     omega
    ·intro y bE
     show y.1<(u.b8.set x.1 x.2.2).length;rw[List.length_set];exact h.reqs y (by rw[aq];exact List.mem_cons_of_mem _ bE)
    ·unfold hN
     rw[hw,ar];show _+qI (gT b).N*(u.reqs.drop 1).length+1<=_;rw[Nat.mul_add,Nat.mul_one];omega
  ·rw[G5 (by rw[hl];simp) (List.length_pos_iff.2 aA)]
   have aq:u.bw=u.bw.getD 0 default::u.bw.drop 1:=G8 aA;refine h.step (ajL h.box hl aA ?_) (Y_ u _ _);rw[h.N];exact h.nr _ (by rw[aq];simp)
 ·rw[G4 (List.length_pos_iff.2 hl)]
  exact h.step (ajK hl) (Y' u _ _)
theorem gp.done (h:gp table b u) (ad:(gS table b u).1=false):(gS table b u).2=u/\u.bH=[]/\u.bw=[]/\u.reqs=[]/\u.gone=[]/\uG (gT b) (iO table u.lit u.b8) (dF u.aE):=by
 by_cases hl:u.bH=[]
 ·by_cases aA:u.bw=[]
  ·by_cases ao:u.reqs=[]
   ·obtain⟨s1,s2,r5,ym⟩:=h.work.settled h.ok (Y6 (table:=table) (b:=b) hl aA)
    exact⟨by rw[G7 (by rw[hl];simp) (by rw[aA];simp) (by rw[ao];simp)],hl,aA,ao,r5,ym⟩
   ·rw[G6 (by rw[hl];simp) (by rw[aA];simp) (List.length_pos_iff.2 ao)] at ad
    cases ad
  ·rw[G5 (by rw[hl];simp) (List.length_pos_iff.2 aA)] at ad
   cases ad
 ·rw[G4 (List.length_pos_iff.2 hl)] at ad
  cases ad
theorem gp.ask {x:gx} (h:gp table b u) (aq:x.1<u.b8.length):gp table b {u with reqs:=u.reqs++[x]}/\hN b {u with reqs:=u.reqs++[x]}=hN b u+qI (gT b).N:=by
 refine⟨⟨h.B1,h.box,h.len,h.G',h.few,h.work,h.fit,h.mG,λy bE=> ?_⟩,?_⟩
 ·rcases List.mem_append.1 bE with bE|bE
  ·exact h.reqs y bE
  ·rw[List.mem_singleton.1 bE]
   exact aq
 ·unfold hN
  show AE.mG (gT b).N (hx u)+qI (gT b).N*(u.reqs++[x]).length=_;rw[List.length_append,List.length_singleton,Nat.mul_add,Nat.mul_one];omega
def nt (table:List cU) (b:bT):Nat->iN->iN
 |0,u=>u
 |n+1,u=>(gS table b (nt table b n u)).2
end AE
namespace AE
def iY (table:List cU) (b:bT):Nat->iN->Nat×iN
 |0,u=>(0,u)
 |f+1,u=>if (gS table b u).1=true then ((iY table b f (gS table b u).2).1+1,(iY table b f (gS table b u).2).2) else (0,u)
variable {table:List cU} {b:bT}
theorem Ha (n:Nat) (u:iN):nt table b (n+1) u=nt table b n (gS table b u).2:=by
 induction n with
 |zero=>rfl
 |succ n cz=>exact congrArg (λx=>(gS table b x).2) cz
theorem QN:∀(d f:Nat) (u:iN),d<=f->(∀m,m<d->(gS table b (nt table b m u)).1=true)->(d=f\/(gS table b (nt table b d u)).1=false)->iY table b f u=(d,nt table b d u)
 |0,0,u,_,_,_=>rfl
 |0,f+1,u,_,_,h=>by
  have h:=h.resolve_left aj
  change (gS table b u).1=false at h
  unfold iY;rw[h];rfl
 |d+1,0,u,h,_,_=>absurd h aj
 |d+1,f+1,u,h,ad,ag=>by
  have h0:=ad 0 aj
  change (gS table b u).1=true at h0
  have:=QN d f (gS table b u).2 aj (λm hm=>by rw[<-Ha];exact ad (m+1) aj) (ag.imp (λe=>by omega) λe=>by rw[<-Ha];exact e);unfold iY;rw[aY h0,this,Ha]
theorem gp.many {u:iN} (h:gp table b u):∀d,(∀m,m<d->(gS table b (nt table b m u)).1=true)->gp table b (nt table b d u)/\d+hN b (nt table b d u)<=hN b u
 |0,_=>⟨h,by simp [nt]⟩
 |d+1,ad=>by
  obtain⟨q1,aH⟩:=gp.many h d λm hm=>ad m aj
  obtain⟨cO,dx⟩:=q1.unit (ad d aj);refine⟨cO,?_⟩;show d+1+hN b (gS table b (nt table b d u)).2<=_;omega
theorem K7:∀(f:Nat) (u:iN),(iY table b f u).1<=f/\(iY table b f u).2=nt table b (iY table b f u).1 u/\(∀m,m<(iY table b f u).1->(gS table b (nt table b m u)).1=true)/\((iY table b f u).1=f\/(gS table b (iY table b f u).2).1=false)
 |0,u=>⟨cj _,rfl,λm hm=>absurd hm (Nat.not_lt_zero m),.inl rfl⟩
 |f+1,u=>by
  obtain⟨ad,ag,ay,bG⟩:=K7 f (gS table b u).2;unfold iY;split
  ·rename_i h
   refine⟨by simp only;omega,by rw[Ha];exact ag,λm hm=> ?_,?_⟩
   ·cases m with
    |zero=>exact h
    |succ m=>
     rw[Ha];exact ay m (by simp only at hm;omega)
   ·exact bG.imp (λe=>by simp only;omega) λe=>e
  ·rename_i h
   exact⟨Nat.zero_le _,rfl,λm hm=>absurd hm (Nat.not_lt_zero m),.inr (by simpa using h)⟩
theorem gp.settle {u:iN} (h:gp table b u):gp table b (iY table b (hN b u) u).2/\(gS table b (iY table b (hN b u) u).2).1=false/\(iY table b (hN b u) u).1+hN b (iY table b (hN b u) u).2<=hN b u:=by
 obtain⟨ad,ag,ay,bG⟩:=K7 (table:=table) (b:=b) (hN b u) u;obtain⟨q1,aH⟩:=h.many _ ay;rw[<-ag] at q1 aH;refine⟨q1,?_,aH⟩;rcases bG with bG|bG
 ·cases hu:(gS table b (iY table b (hN b u) u).2).1 with
  |false=>rfl
  |true=>
   have:=(q1.unit hu).2;omega
 ·exact bG
theorem gp.run {u:iN} (h:gp table b u) (f:Nat):gp table b (iY table b f u).2/\(iY table b f u).1+hN b (iY table b f u).2<=hN b u:=by
 obtain⟨ad,ag,ay,bG⟩:=K7 (table:=table) (b:=b) f u;obtain⟨q1,aH⟩:=h.many _ ay;rw[<-ag] at q1 aH;exact⟨q1,aH⟩
theorem gp.Za {u:iN} (h:gp table b u) (ao:u.reqs.length<=10000):hN b u<=1000000000000:=by
 have ad:=h.mG;have ag:(gT b).N<=10000:=by rw[h.N];exact h.few
 have ay:qI (gT b).N<=3650002:=by unfold qI;omega
 have bG:qI (gT b).N*u.reqs.length<=3650002*10000:=Nat.mul_le_mul ay ao;unfold hN;omega
theorem ajP {mc uu:iN} {d:Nat} (h:uu=nt table b d mc) (hm:∀m,m<d->(gS table b (nt table b m mc)).1=true) (aL:(gS table b uu).1=true):
  (gS table b uu).2=nt table b (d+1) mc/\∀m,m<d+1->(gS table b (nt table b m mc)).1=true:=by
 subst h;refine⟨rfl,λm ajQ=> ?_⟩;rcases Nat.lt_succ_iff_lt_or_eq.1 ajQ with h|rfl
 ·exact hm m h
 ·exact aL
end AE
section
noncomputable section
namespace AE
abbrev im:aR:=Tryd.prog
theorem Zb:yI im kJ 1 8=true:=au
theorem ajR:yI im n3 1 1=true:=au
theorem ajS:yI im qa 4 32=true:=au
theorem ajT:yI im ox 8 56=true:=au
theorem ajU:yI im rr 3 24=true:=au
theorem ajV:yI im zQ 5 40=true:=au
abbrev wb:js im:=BS (α:=Int) default kJ 1 8 gf Zb
abbrev uR:js im:=BS (α:=Nat) default tj 1 8 p_ Zb
abbrev lk:js im:=BS (α:=Bool) default n3 1 1 iL ajR
abbrev jN:js im:=BS (α:=bO) default qa 4 32 dJ ajS
abbrev yO:js im:=BS (α:=cU) default ox 8 56 jB ajT
abbrev K8:js im:=BS (α:=gx) default rr 3 24 nc ajU
abbrev sa:js im:=BS (α:=az) default zQ 5 40 j4 ajV
abbrev rB:=Option Addr×Nat×Nat
structure dQ where
 q:eD
 o:eD
 g:eD
 s:eD
 w:rB
 l:rB
 i:rB
 t:rB
 h:rB
 c:rB
 k:rB
structure cC where
 u:iN
 b:bT
 table:List cU
 cells:List Int
 known:List Bool
 most:Int
@[reducible] def Ac (a:eD) (n:Nat):J:= .slice a.1 n a.2
@[reducible] def dI (a:rB):J:= .slice a.1 a.2.1 a.2.2
@[reducible] def qT (A:dQ) (e:cC):List J:=[I e.b.1,I e.b.2.1,I e.b.2.2.1,I e.b.2.2.2.1,I e.b.2.2.2.2.1,I e.b.2.2.2.2.2,dI A.c,I e.b.1,I e.b.2.1,I e.b.2.2.1,I e.b.2.2.2.1,I e.b.2.2.2.2.1,I e.b.2.2.2.2.2,dI A.i,dI A.k,dI A.h,dI A.t,dI A.l,I e.most,Ac A.q e.u.reqs.length,Ac A.o e.u.bH.length,Ac A.g e.u.gone.length,Ac A.s e.u.bw.length,dI A.w]
@[reducible] def cJ (g:Nat) (A:dQ) (e:cC):List (bs im):=
  [.iT K8 (Ac A.q e.u.reqs.length) e.u.reqs,.iT sa (Ac A.o e.u.bH.length) e.u.bH,.arr uR (Ac A.g e.u.gone.length) e.u.gone,.iT uR (Ac A.s e.u.bw.length) e.u.bw,.arr lk (dI A.w) e.u.waits,.arr jN (dI A.l) e.u.aE,.arr wb (dI A.i) e.u.lit,.arr yO (dI A.t) e.table,.arr lk (dI A.h) e.u.b8,.arr wb (dI A.c) e.cells,.arr lk (dI A.k) e.known,.box g qK (qT A e)]
def di (g:Nat) (A:dQ) (e:cC):cc:=vN (db (cJ g A e))
abbrev de (g:Nat):J:= .pointer (some ⟨g,0,none⟩)
theorem cG.B2 {M:Mem} {g:Nat} {A:dQ} {e:cC} (h:cG M [di g A e]):cG M (db (cJ g A e)):=h.ahk
instance:Inhabited dQ:=⟨⟨(none,0),(none,0),(none,0),(none,0),(none,0,0),(none,0,0),(none,0,0),(none,0,0),(none,0,0),(none,0,0),(none,0,0)⟩⟩
instance:Inhabited cC:=⟨⟨⟨[],[],[],[],[],[],[],[]⟩,(0,0,0,0,0,0),[],[],[],0⟩⟩
abbrev mo:List Nat:=[0,1,2,3,4,5,6,7,8,9,10,11]
end AE
end
end
section
noncomputable section
namespace AE
theorem QO {n m:Nat} (h:n+m<=1000000):n+m<=maxLen:=Nat.le_trans h cB
namespace Zc
def t:bZ:=
.o (.dM 0) 2 1 []<|
.o (.cn 78 2 0) 3 1 [0,26,1]<|
.o (.bA 26 3) 4 1 [1]<|
.xe 26 4 1<|
.o (.dM 0) 6 1 []<|
.o (.cn 78 6 0) 7 1 [0,26,1]<|
.st 26 7 5<|
.ret (.tuple ⟨[]⟩)
theorem jt:l0 Tryd.prog 57 {} [0,1] 2=some t:=oE au
theorem any {W:ax} {g:Nat} {A:dQ} {e:cC} {lG:J} {lx:List Nat} (aI:cG (aG W) (db (cJ g A e++[.red uR lG lx]))) (hl:e.u.bw.length+lx.length<=1000000) (aq:oZ lG=lG:=by rfl):
  nm im 57 [.pointer (some ⟨g,22,none⟩),lG] W (cJ g A e++[.red uR lG lx]) eD (λ_=> .tuple #[]) λy=>cJ g {A with s:=y} {e with u:={e.u with bw:=e.u.bw++lx}}++[.red uR lG lx]:=by
 refine qf (ro:=[]) mixed jt [.pointer (some ⟨g,22,none⟩),lG] aI hi.none ?_ (ho:=⟨rfl,aq,trivial⟩);unfold t;refine dn ?_;refine YG U U (λa c=>lI) (.red has) (λa c=> ?_) (QO hl) (by show _*8<=_;omega);refine dn ?_;exact qe ⟨(a,c),rfl,rfl⟩
end Zc
namespace Zd
def t:bZ:=
.o (.dM 0) 1 1 []<|
.o (.cn 78 1 0) 2 1 [0,26,1]<|
.o (.bA 26 2) 3 1 [1]<|
.o (.dG 26 3 (I 0)) 4 1 [0,3,1]<|
.o (.bA 3 4) 5 1 [1]<|
.o (.mb 26 3 (some (I 1)) none none) 6 1 [0,3,1]<|
.st 26 2 6<|
.ret 5
theorem jt:l0 Tryd.prog 64 {} [0] 1=some t:=oE au
theorem any {W:ax} {g:Nat} {A:dQ} {e:cC} (aI:cG (aG W) (db (cJ g A e))) (hl:0<e.u.bw.length):
  nm im 64 [.pointer (some ⟨g,22,none⟩)] W (cJ g A e) eD (λ_=>I ((e.u.bw.getD 0 default:Nat):Int)) λy=>cJ g {A with s:=y} {e with u:={e.u with bw:=e.u.bw.drop 1}}:=by
 refine qf (ro:=[]) mixed jt [.pointer (some ⟨g,22,none⟩)] aI hi.none ?_;unfold t;refine dn ?_;refine Qt (m':=(e.u.bw.drop 1).length) (j:=1) (by simp) U U ?_;refine GV U U lI GU ?_;exact ts (λM h=>Qu 3 (K:=uR) (a:=A.s.1) (m:=e.u.bw.length) (c:=A.s.2) (j:=1) (l:=e.u.bw) (m':=(e.u.bw.drop 1).length) lI rfl (by simp) aj h) ⟨(la A.s.1 A.s.2 1 uR.k,A.s.2-1),rfl,rfl⟩
end Zd
namespace Ze
def t:bZ:=
.o (.dM 0) 2 1 []<|
.o (.cn 76 2 0) 3 1 [0,74,1]<|
.o (.bA 74 3) 4 1 [1]<|
.xe 74 4 1<|
.o (.dM 0) 6 1 []<|
.o (.cn 76 6 0) 7 1 [0,74,1]<|
.st 74 7 5<|
.ret (.tuple ⟨[]⟩)
theorem jt:l0 Tryd.prog 86 {} [0,1] 2=some t:=oE au
theorem any {W:ax} {g:Nat} {A:dQ} {e:cC} {lG:J} {lx:List az} (aI:cG (aG W) (db (cJ g A e++[.red sa lG lx]))) (hl:e.u.bH.length+lx.length<=1000000) (aq:oZ lG=lG:=by rfl):
  nm im 86 [.pointer (some ⟨g,20,none⟩),lG] W (cJ g A e++[.red sa lG lx]) eD (λ_=> .tuple #[]) λy=>cJ g {A with o:=y} {e with u:={e.u with bH:=e.u.bH++lx}}++[.red sa lG lx]:=by
 refine qf (ro:=[]) mixed jt [.pointer (some ⟨g,20,none⟩),lG] aI hi.none ?_ (ho:=⟨rfl,aq,trivial⟩);unfold t;refine dn ?_;refine YG U U (λa c=>lI) (.red has) (λa c=> ?_) (QO hl) (by show _*40<=_;omega);refine dn ?_;exact qe ⟨(a,c),rfl,rfl⟩
end Ze
namespace Zf
def t:bZ:=
.o (.dM 0) 1 1 []<|
.o (.cn 76 1 0) 2 1 [0,74,1]<|
.o (.bA 74 2) 3 1 [1]<|
.o (.dG 74 3 (I 0)) 4 1 [0,87,5]<|
.o (.bA 87 4) (.agg ⟨lZ 5 5⟩) 5 [5]<|
.o (.mb 74 3 (some (I 1)) none none) 10 1 [0,87,5]<|
.st 74 2 10<|
.ret (.agg ⟨[5,6,7,8,9]⟩)
theorem jt:l0 Tryd.prog 58 {} [0] 1=some t:=oE au
theorem any {W:ax} {g:Nat} {A:dQ} {e:cC} (aI:cG (aG W) (db (cJ g A e))) (hl:0<e.u.bH.length):
  nm im 58 [.pointer (some ⟨g,20,none⟩)] W (cJ g A e) eD (λ_=> .agg ⟨j4 (e.u.bH.getD 0 default)⟩) λy=>cJ g {A with o:=y} {e with u:={e.u with bH:=e.u.bH.drop 1}}:=by
 refine qf (ro:=[]) mixed jt [.pointer (some ⟨g,20,none⟩)] aI hi.none ?_;unfold t;refine dn ?_;refine KU (K:=sa) (l:=e.u.bH) (j:=0) (c:=j4 (e.u.bH.getD 0 default)) U U U o7 ?_;refine Qt (m':=(e.u.bH.drop 1).length) (j:=1) (by simp) U U ?_;refine GV U U lI GU ?_;exact ts (λM h=>Qu 1 (K:=sa) (a:=A.o.1) (m:=e.u.bH.length) (c:=A.o.2) (j:=1) (l:=e.u.bH) (m':=(e.u.bH.drop 1).length) lI rfl (by simp) aj h) ⟨(la A.o.1 A.o.2 1 sa.k,A.o.2-1),rfl,rfl⟩
end Zf
namespace Zg
def t:bZ:=
.o (.dM 0) 1 1 []<|
.o (.cn 73 1 0) 2 1 [0,71,1]<|
.o (.bA 71 2) 3 1 [1]<|
.o (.dG 71 3 (I 0)) 4 1 [0,89,3]<|
.o (.bA 89 4) (.agg ⟨lZ 3 5⟩) 3 [3]<|
.o (.mb 71 3 (some (I 1)) none none) 8 1 [0,89,3]<|
.st 71 2 8<|
.ret (.agg ⟨[5,6,7]⟩)
theorem jt:l0 Tryd.prog 67 {} [0] 1=some t:=oE au
theorem any {W:ax} {g:Nat} {A:dQ} {e:cC} (aI:cG (aG W) (db (cJ g A e))) (hl:0<e.u.reqs.length):
  nm im 67 [.pointer (some ⟨g,19,none⟩)] W (cJ g A e) eD (λ_=> .agg ⟨nc (e.u.reqs.getD 0 default)⟩) λy=>cJ g {A with q:=y} {e with u:={e.u with reqs:=e.u.reqs.drop 1}}:=by
 refine qf (ro:=[]) mixed jt [.pointer (some ⟨g,19,none⟩)] aI hi.none ?_;unfold t;refine dn ?_;refine KU (K:=K8) (l:=e.u.reqs) (j:=0) (c:=nc (e.u.reqs.getD 0 default)) U U U o7 ?_;refine Qt (m':=(e.u.reqs.drop 1).length) (j:=1) (by simp) U U ?_;refine GV U U lI GU ?_;exact ts (λM h=>Qu 0 (K:=K8) (a:=A.q.1) (m:=e.u.reqs.length) (c:=A.q.2) (j:=1) (l:=e.u.reqs) (m':=(e.u.reqs.drop 1).length) lI rfl (by simp) aj h) ⟨(la A.q.1 A.q.2 1 K8.k,A.q.2-1),rfl,rfl⟩
end Zg
end AE
end
end
namespace AE
namespace K9
noncomputable def body:Code:=(Tryd.f62.body).getD .skip
def N:Nat:=26
noncomputable abbrev bz:=fj Tryd.prog Tryd.f62
def aN:b6:={sl:=b1 [(3,3),(2,2),(1,1),(0,0)],ms:=[],A:=start}
def bN:bd:=[(.d' 3,.bool true),
 (.bin .eql 3 2 (I 3),.bool true),
 (.bin .eql 3 0 (I 15),.bool true),
 (.bin .eql 3 1 (I 1),.bool true)]
theorem e0:bz (at' 26 bN [] body aN)=some (I 15):=au
def cb:bd:=[(.d' 3,.bool true),
 (.bin .eql 3 2 (I 3),.bool true),
 (.bin .eql 3 0 (I 15),.bool true),
 (.bin .eql 3 1 (I 1),.bool false),
 (.bin .sub 3 0 1,4),
 (.eY #[3,3] 3 (I 0) 4,5)]
theorem e1:bz (at' 26 cb [] body aN)=some 5:=au
def dk:bd:=[(.d' 3,.bool true),
 (.bin .eql 3 2 (I 3),.bool true),
 (.bin .eql 3 0 (I 15),.bool false),
 (.bin .sub 3 0 1,4),
 (.eY #[3,3] 3 (I 0) 4,5)]
theorem e2:bz (at' 26 dk [] body aN)=some 5:=au
def eg:bd:=[(.d' 3,.bool true),
 (.bin .eql 3 2 (I 3),.bool false),
 (.bin .sub 3 0 1,4),
 (.eY #[3,3] 3 (I 0) 4,5)]
theorem e3:bz (at' 26 eg [] body aN)=some 5:=au
def fI:bd:=[(.d' 3,.bool false),
 (.bin .sub 3 0 1,4),
 (.eY #[3,3] 3 (I 0) 4,5)]
theorem hA:bz (at' 26 fI [] body aN)=some 5:=au
@[reducible] noncomputable def bB (v f:Int) (c:Nat) (up:Bool):List J:=[I v,I f,I ((c:Nat):Int),.bool up,I (v-f),I (max 0 (v-f))]
theorem any (W:ax) (v f:Int) (c:Nat) (up:Bool) (wZ: -1000<=v) (yc:v<=1000) (ao1: -1000<=f) (U6:f<=1000):Calls Tryd.prog 62 #[I v,I f,I ((c:Nat):Int),.bool up] W λe w'=>e= .returned (I (given v f c up))/\cg W.heap.size W w':=by
 refine jE (bB v f c up) body aN N [ak 0,ak 1,ak 2,ak 3] Tryd.func62 λa ah=> ?_
 letI:=b4 ah;have aI:=bI.o1 W;by_cases h0:up=true
 ·by_cases ad:((c:Nat):Int)=3
  ·by_cases ag:v=15
   ·by_cases ay:f=1
    ·refine bx bN [] (ae (Dx U U h0) (ae a8 (ae a8 (ae a8 aO)))) aP ?_ ah
     exact bR e0 λw2 bm=>(by (rw[ajh bK aj bK bK];rfl))
    ·refine bx cb [] (ae (Dx U U h0) (ae a8 (ae a8 (ae aS (ae ko (ae (aT.pY U U U U U U) aO)))))) aP ?_ ah
     exact bR e1 λw2 bm=>(by (rw[K0 (λq=>by omega)];rfl))
   ·refine bx dk [] (ae (Dx U U h0) (ae a8 (ae aS (ae ko (ae (aT.pY U U U U U U) aO))))) aP ?_ ah
    exact bR e2 λw2 bm=>(by (rw[K0 (λq=>by omega)];rfl))
  ·refine bx eg [] (ae (Dx U U h0) (ae aS (ae ko (ae (aT.pY U U U U U U) aO)))) aP ?_ ah
   exact bR e3 λw2 bm=>(by (rw[K0 (λq=>by omega)];rfl))
 ·refine bx fI [] (ae (Od U U h0) (ae ko (ae (aT.pY U U U U U U) aO))) aP ?_ ah
  exact bR hA λw2 bm=>(by (rw[K0 (λq=>by exact absurd q.1 bK)];rfl))
end K9
namespace QP
noncomputable def body:Code:=(Tryd.f79.body).getD .skip
def N:Nat:=51
noncomputable abbrev bz:=fj Tryd.prog Tryd.f79
def aN:b6:={sl:=b1 [(1,.agg ⟨[3,4,5,6,7,8]⟩),(0,.agg ⟨[0,1,2]⟩)],ms:=[],A:=start}
def bN:bd:=[(.bin .geq 3 0 3,.bool true),
 (.bin .lss 3 0 6,.bool true),
 (.bin .geq 3 1 4,.bool true),
 (.bin .lss 3 1 7,.bool true),
 (.bin .geq 3 2 5,.bool true),
 (.bin .lss 3 2 8,.bool true)]
theorem e0:bz (at' 51 bN [] body aN)=some (.bool true):=au
def cb:bd:=[(.bin .geq 3 0 3,.bool true),
 (.bin .lss 3 0 6,.bool true),
 (.bin .geq 3 1 4,.bool true),
 (.bin .lss 3 1 7,.bool true),
 (.bin .geq 3 2 5,.bool true),
 (.bin .lss 3 2 8,.bool false)]
theorem e1:bz (at' 51 cb [] body aN)=some (.bool false):=au
def dk:bd:=[(.bin .geq 3 0 3,.bool true),
 (.bin .lss 3 0 6,.bool true),
 (.bin .geq 3 1 4,.bool true),
 (.bin .lss 3 1 7,.bool true),
 (.bin .geq 3 2 5,.bool false)]
theorem e2:bz (at' 51 dk [] body aN)=some (.bool false):=au
def eg:bd:=[(.bin .geq 3 0 3,.bool true),
 (.bin .lss 3 0 6,.bool true),
 (.bin .geq 3 1 4,.bool true),
 (.bin .lss 3 1 7,.bool false)]
theorem e3:bz (at' 51 eg [] body aN)=some (.bool false):=au
def fI:bd:=[(.bin .geq 3 0 3,.bool true),
 (.bin .lss 3 0 6,.bool true),
 (.bin .geq 3 1 4,.bool false)]
theorem hA:bz (at' 51 fI [] body aN)=some (.bool false):=au
def hG:bd:=[(.bin .geq 3 0 3,.bool true),
 (.bin .lss 3 0 6,.bool false)]
theorem kp:bz (at' 51 hG [] body aN)=some (.bool false):=au
def ll:bd:=[(.bin .geq 3 0 3,.bool false)]
theorem h2:bz (at' 51 ll [] body aN)=some (.bool false):=au
@[reducible] noncomputable def bB (p:ej) (b:bT):List J:=[I p.1,I p.2.1,I p.2.2,I b.1,I b.2.1,I b.2.2.1,I b.2.2.2.1,I b.2.2.2.2.1,I b.2.2.2.2.2]
theorem any (W:ax) (p:ej) (b:bT):Calls Tryd.prog 79 #[P.val p,X.val b] W λe w'=>e= .returned (.bool (decide (bS p b)))/\cg W.heap.size W w':=by
 refine jE (bB p b) body aN N [.agg ⟨[ak 0,ak 1,ak 2]⟩,.agg ⟨[ak 3,ak 4,ak 5,ak 6,ak 7,ak 8]⟩] Tryd.func79 λa ah=> ?_
 letI:=b4 ah;have aI:=bI.o1 W;by_cases h0:b.1<=p.1
 ·by_cases ad:p.1<b.2.2.2.1
  ·by_cases ag:b.2.1<=p.2.1
   ·by_cases ay:p.2.1<b.2.2.2.2.1
    ·by_cases bG:b.2.2.1<=p.2.2
     ·by_cases cE:p.2.2<b.2.2.2.2.2
      ·refine bx bN [] (ae a8 (ae a8 (ae a8 (ae a8 (ae a8 (ae a8 aO)))))) aP ?_ ah
       exact bR e0 λw2 bm=>(by (rw[eH (show bS p b from ⟨aj,aj,aj,aj,aj,aj⟩)];rfl))
      ·refine bx cb [] (ae a8 (ae a8 (ae a8 (ae a8 (ae a8 (ae aS aO)))))) aP ?_ ah
       exact bR e1 λw2 bm=>(by (rw[cx (λq:bS p b=>by unfold bS at q;omega)];rfl))
     ·refine bx dk [] (ae a8 (ae a8 (ae a8 (ae a8 (ae aS aO))))) aP ?_ ah
      exact bR e2 λw2 bm=>(by (rw[cx (λq:bS p b=>by unfold bS at q;omega)];rfl))
    ·refine bx eg [] (ae a8 (ae a8 (ae a8 (ae aS aO)))) aP ?_ ah
     exact bR e3 λw2 bm=>(by (rw[cx (λq:bS p b=>by unfold bS at q;omega)];rfl))
   ·refine bx fI [] (ae a8 (ae a8 (ae aS aO))) aP ?_ ah
    exact bR hA λw2 bm=>(by (rw[cx (λq:bS p b=>by unfold bS at q;omega)];rfl))
  ·refine bx hG [] (ae a8 (ae aS aO)) aP ?_ ah
   exact bR kp λw2 bm=>(by (rw[cx (λq:bS p b=>by unfold bS at q;omega)];rfl))
 ·refine bx ll [] (ae aS aO) aP ?_ ah
  exact bR h2 λw2 bm=>(by (rw[cx (λq:bS p b=>by unfold bS at q;omega)];rfl))
end QP
namespace Zh
noncomputable def body:Code:=(Tryd.f80.body).getD .skip
def N:Nat:=11
noncomputable abbrev bz:=fj Tryd.prog Tryd.f80
def aN:b6:={sl:=b1 [(0,.agg ⟨[0,1,2,3,4,5]⟩)],ms:=[],A:=start}
def bN:bd:=[(.bin .geq 3 0 0,.bool true),
 (.bin .lss 3 0 3,.bool true),
 (.bin .geq 3 1 1,.bool true),
 (.bin .lss 3 1 4,.bool true),
 (.bin .geq 3 2 2,.bool true),
 (.bin .lss 3 2 5,.bool true),
 (.bin .mul 3 (I (-1)) 0,6),
 (.bin .mul 3 (I (-1)) 1,7),
 (.bin .mul 3 (I (-1)) 2,8),
 (.bin .add 3 3 6,9),
 (.bin .add 3 4 7,10),
 (.bin .add 3 5 8,11)]
theorem e0:bz (at' 11 bN [] body aN)=some (.agg ⟨[9,10,11]⟩):=au
def cb:bd:=[(.bin .geq 3 0 0,.bool true),
 (.bin .lss 3 0 3,.bool true),
 (.bin .geq 3 1 1,.bool true),
 (.bin .lss 3 1 4,.bool true),
 (.bin .geq 3 2 2,.bool true),
 (.bin .lss 3 2 5,.bool false)]
theorem e1:bz (at' 11 cb [] body aN)=some (.agg ⟨[I 0,I 0,I 0]⟩):=au
def dk:bd:=[(.bin .geq 3 0 0,.bool true),
 (.bin .lss 3 0 3,.bool true),
 (.bin .geq 3 1 1,.bool true),
 (.bin .lss 3 1 4,.bool false)]
theorem e2:bz (at' 11 dk [] body aN)=some (.agg ⟨[I 0,I 0,I 0]⟩):=au
def eg:bd:=[(.bin .geq 3 0 0,.bool true),
 (.bin .lss 3 0 3,.bool false)]
theorem e3:bz (at' 11 eg [] body aN)=some (.agg ⟨[I 0,I 0,I 0]⟩):=au
@[reducible] noncomputable def bB (b:bT):List J:=[I b.1,I b.2.1,I b.2.2.1,I b.2.2.2.1,I b.2.2.2.2.1,I b.2.2.2.2.2,I ((-1)*b.1),I ((-1)*b.2.1),I ((-1)*b.2.2.1),I (b.2.2.2.1+((-1)*b.1)),I (b.2.2.2.2.1+((-1)*b.2.1)),I (b.2.2.2.2.2+((-1)*b.2.2.1))]
theorem any (W:ax) (b:bT) (af:okB b):Calls Tryd.prog 80 #[X.val b] W λe w'=>e= .returned (P.val (bM b))/\cg W.heap.size W w':=by
 refine jE (bB b) body aN N [.agg ⟨[ak 0,ak 1,ak 2,ak 3,ak 4,ak 5]⟩] Tryd.func80 λa ah=> ?_
 letI:=b4 ah;have aI:=bI.o1 W;have oU:=af;have eX: -1048575<=b.1/\b.1<=1048575/\ -1048575<=b.2.1/\b.2.1<=1048575/\ -1048575<=b.2.2.1/\b.2.2.1<=1048575/\ -1048575<=b.2.2.2.1/\b.2.2.2.1<=1048575/\ -1048575<=b.2.2.2.2.1/\b.2.2.2.2.1<=1048575/\ -1048575<=b.2.2.2.2.2/\b.2.2.2.2.2<=1048575:=af;by_cases h0:b.1<b.2.2.2.1
 ·by_cases ad:b.2.1<b.2.2.2.2.1
  ·by_cases ag:b.2.2.1<b.2.2.2.2.2
   ·refine bx bN [] (ae a8 (ae a8 (ae a8 (ae a8 (ae a8 (ae a8 (ae ko (ae ko (ae ko (ae ko (ae ko (ae ko aO)))))))))))) aP ?_ ah
    exact bR e0 λw2 bm=>(by (rw[uQ ⟨aj,aj,aj⟩];exact G0 aj aj aj))
   ·refine bx cb [] (ae a8 (ae a8 (ae a8 (ae a8 (ae a8 (ae aS aO)))))) aP ?_ ah
    exact bR e1 λw2 bm=>(by (rw[xm (λq=>by unfold iX at q;omega)];rfl))
  ·refine bx dk [] (ae a8 (ae a8 (ae a8 (ae aS aO)))) aP ?_ ah
   exact bR e2 λw2 bm=>(by (rw[xm (λq=>by unfold iX at q;omega)];rfl))
 ·refine bx eg [] (ae a8 (ae aS aO)) aP ?_ ah
  exact bR e3 λw2 bm=>(by (rw[xm (λq=>by unfold iX at q;omega)];rfl))
end Zh
end AE
namespace AE
section
variable [a1]
theorem ajW {x y:J} {p:ej} {b:bT} (hp:dL [x,y]=true) (bp:eo [x,y]=[P.val p,X.val b]) (h:bS p b):i_ Tryd.prog (79,[x,y],.bool true):=
 kK (a:= #[P.val p,X.val b]) hp rfl bp rfl λw _=>(QP.any w p b).mono λe w' he=>by rw[eH h] at he;exact he
theorem ajX {x y:J} {p:ej} {b:bT} (hp:dL [x,y]=true) (bp:eo [x,y]=[P.val p,X.val b]) (h:¬bS p b):i_ Tryd.prog (79,[x,y],.bool false):=
 kK (a:= #[P.val p,X.val b]) hp rfl bp rfl λw _=>(QP.any w p b).mono λe w' he=>by rw[cx h] at he;exact he
theorem K' {x r:J} {b:bT} (hp:dL [x]=true) (ao:aM r=true) (bp:eo [x]=[X.val b]) (b9:aJ r=P.val (bM b)) (af:okB b):i_ Tryd.prog (80,[x],r):=
 kK (a:= #[X.val b]) hp ao bp b9 λw _=>Zh.any w b af
end
end AE
namespace AE
namespace Hb
noncomputable def body:Code:=(Tryd.f55.body).getD .skip
def N:Nat:=31
def aN:b6:={sl:=b1 [(1,.agg ⟨[6,7,8]⟩),(0,.agg ⟨[0,1,2,3,4,5]⟩)],ms:=[],A:=start}
def bN:bd:=[(.bin .mul 3 (I (-1)) 0,12),
 (.bin .mul 3 (I (-1)) 1,13),
 (.bin .mul 3 (I (-1)) 2,14),
 (.bin .add 3 6 12,15),
 (.bin .add 3 7 13,16),
 (.bin .add 3 8 14,17),
 (.bin .mul 3 17 10,18),
 (.bin .add 3 18 16,19),
 (.bin .mul 3 19 9,20),
 (.bin .add 3 20 15,21)]
def jX:dX:=[(79,[.agg ⟨[6,7,8]⟩,.agg ⟨[0,1,2,3,4,5]⟩],.bool true),
 (80,[.agg ⟨[ak 0,ak 1,ak 2,ak 3,ak 4,ak 5]⟩],.agg ⟨[ak 9,ak 10,ak 11]⟩)]
theorem e0:fj Tryd.prog Tryd.f55 (at' 31 bN jX body aN)=some 21:=au
def h':dX:=[(79,[.agg ⟨[6,7,8]⟩,.agg ⟨[0,1,2,3,4,5]⟩],.bool false)]
theorem e1:fj Tryd.prog Tryd.f55 (at' 31 [] h' body aN)=some (I (-1)):=au
@[reducible] noncomputable def bB (b:bT) (p:ej):List J:=[I b.1,I b.2.1,I b.2.2.1,I b.2.2.2.1,I b.2.2.2.2.1,I b.2.2.2.2.2,I p.1,I p.2.1,I p.2.2,I (bM b).1,I (bM b).2.1,I (bM b).2.2,I ((-1)*b.1),I ((-1)*b.2.1),I ((-1)*b.2.2.1),I (p.1+((-1)*b.1)),I (p.2.1+((-1)*b.2.1)),I (p.2.2+((-1)*b.2.2.1)),I ((p.2.2+((-1)*b.2.2.1))*(bM b).2.1),I (((p.2.2+((-1)*b.2.2.1))*(bM b).2.1)+(p.2.1+((-1)*b.2.1))),I ((((p.2.2+((-1)*b.2.2.1))*(bM b).2.1)+(p.2.1+((-1)*b.2.1)))*(bM b).1),I (((((p.2.2+((-1)*b.2.2.1))*(bM b).2.1)+(p.2.1+((-1)*b.2.1)))*(bM b).1)+(p.1+((-1)*b.1)))]
theorem any (W:ax) (b:bT) (p:ej) (af:okB b):Calls Tryd.prog 55 #[X.val b,P.val p] W λe w'=>e= .returned (I (v8 b p))/\cg W.heap.size W w':=by
 refine jE (bB b p) body aN N [.agg ⟨[ak 0,ak 1,ak 2,ak 3,ak 4,ak 5]⟩,.agg ⟨[ak 6,ak 7,ak 8]⟩] Tryd.func55 λa ah=> ?_
 letI:=b4 ah;have aI:=bI.o1 W;have eX: -1048575<=b.1/\b.1<=1048575/\ -1048575<=b.2.1/\b.2.1<=1048575/\ -1048575<=b.2.2.1/\b.2.2.1<=1048575/\ -1048575<=b.2.2.2.1/\b.2.2.2.1<=1048575/\ -1048575<=b.2.2.2.2.1/\b.2.2.2.2.1<=1048575/\ -1048575<=b.2.2.2.2.2/\b.2.2.2.2.2<=1048575:=af;by_cases h0:bS p b
 ·refine bx bN jX (ae (aT.bi U U U U U U (mh rfl aj aj)) (ae (aT.bi U U U U U U (mh rfl aj aj)) (ae (aT.bi U U U U U U (mh rfl aj aj)) (ae (aT.bi U U U U U U (mh rfl (by (have hr:=o9 af bK;have jT:=j7 (show bS p b by assumption);omega)) (by (have hr:=o9 af bK;have jT:=j7 (show bS p b by assumption);omega)))) (ae (aT.bi U U U U U U (mh rfl (by (have hr:=o9 af bK;have jT:=j7 (show bS p b by assumption);omega)) (by (have hr:=o9 af bK;have jT:=j7 (show bS p b by assumption);omega)))) (ae (aT.bi U U U U U U (mh rfl (by (have hr:=o9 af bK;have jT:=j7 (show bS p b by assumption);omega)) (by (have hr:=o9 af bK;have jT:=j7 (show bS p b by assumption);omega)))) (ae (aT.bi U U U U U U (mh rfl (by (have hr:=o9 af bK;have jT:=j7 (show bS p b by assumption);omega)) (by (have hr:=o9 af bK;have jT:=j7 (show bS p b by assumption);omega)))) (ae (aT.bi U U U U U U (mh rfl (by (have hr:=o9 af bK;have jT:=j7 (show bS p b by assumption);omega)) (by (have hr:=o9 af bK;have jT:=j7 (show bS p b by assumption);omega)))) (ae (aT.bi U U U U U U (mh rfl (by (have hr:=o9 af bK;have jT:=j7 (show bS p b by assumption);omega)) (by (have hr:=o9 af bK;have jT:=j7 (show bS p b by assumption);omega)))) (ae (aT.bi U U U U U U (mh rfl (by (have hr:=o9 af bK;have jT:=j7 (show bS p b by assumption);omega)) (by (have hr:=o9 af bK;have jT:=j7 (show bS p b by assumption);omega)))) aO)))))))))) (cD (ajW U U h0) (cD (K' U U U U af) aP)) ?_ ah
  exact bR e0 λw2 bm=>(by (rw[G1 bK];rfl))
 ·refine bx [] h' aO (cD (ajX U U h0) aP) ?_ ah
  exact bR e1 λw2 bm=>(by (rw[Eb bK];rfl))
end Hb
end AE
namespace AE
namespace QQ
noncomputable def body:Code:=(Tryd.f84.body).getD .skip
def N:Nat:=39
noncomputable abbrev bz:=fj Tryd.prog Tryd.f84
def aN:b6:={sl:=b1 [(1,6),(0,.agg ⟨[0,1,2,3,4,5]⟩)],ms:=[],A:=start}
def bN:bd:=[(.bin .lss 3 6 (I 0),.bool true)]
theorem e0:bz (at' 39 bN [] body aN)=some (.tuple ⟨[.agg ⟨[I 0,I 0,I 0]⟩,.bool false]⟩):=au
def cb:bd:=[(.bin .lss 3 6 (I 0),.bool false),
 (.bin .mul 3 7 8,10),
 (.bin .mul 3 10 9,11),
 (.bin .geq 3 6 11,.bool true)]
def h':dX:=[(80,[.agg ⟨[0,1,2,3,4,5]⟩],.agg ⟨[7,8,9]⟩)]
theorem e1:bz (at' 39 cb h' body aN)=some (.tuple ⟨[.agg ⟨[I 0,I 0,I 0]⟩,.bool false]⟩):=au
def dk:bd:=[(.bin .lss 3 6 (I 0),.bool false),
 (.bin .mul 3 7 8,10),
 (.bin .mul 3 10 9,11),
 (.bin .geq 3 6 11,.bool false),
 (.bin .quo 3 6 7,12),
 (.bin .rem 3 6 7,13),
 (.bin .rem 3 12 8,14),
 (.bin .quo 3 12 8,15),
 (.bin .add 3 0 13,16),
 (.bin .add 3 1 14,17),
 (.bin .add 3 2 15,18)]
def oJ:dX:=[(80,[.agg ⟨[0,1,2,3,4,5]⟩],.agg ⟨[7,8,9]⟩)]
theorem e2:bz (at' 39 dk oJ body aN)=some (.tuple ⟨[.agg ⟨[16,17,18]⟩,.bool true]⟩):=au
@[reducible] noncomputable def bB (b:bT) (i:Int):List J:=[I b.1,I b.2.1,I b.2.2.1,I b.2.2.2.1,I b.2.2.2.2.1,I b.2.2.2.2.2,I i,I (bM b).1,I (bM b).2.1,I (bM b).2.2,I ((bM b).1*(bM b).2.1),I (((bM b).1*(bM b).2.1)*(bM b).2.2),I (i/(bM b).1),I (i%(bM b).1),I ((i/(bM b).1)%(bM b).2.1),I ((i/(bM b).1)/(bM b).2.1),I (b.1+(i%(bM b).1)),I (b.2.1+((i/(bM b).1)%(bM b).2.1)),I (b.2.2.1+((i/(bM b).1)/(bM b).2.1))]
theorem any (W:ax) (b:bT) (i:Int) (af:okB b):Calls Tryd.prog 84 #[X.val b,I i] W λe w'=>e= .returned (.tuple #[P.val (fp b i),.bool (decide (0<=i/\i<ft b))])/\cg W.heap.size W w':=by
 refine jE (bB b i) body aN N [.agg ⟨[ak 0,ak 1,ak 2,ak 3,ak 4,ak 5]⟩,ak 6] Tryd.func84 λa ah=> ?_
 letI:=b4 ah;have aI:=bI.o1 W;have eX: -1048575<=b.1/\b.1<=1048575/\ -1048575<=b.2.1/\b.2.1<=1048575/\ -1048575<=b.2.2.1/\b.2.2.1<=1048575/\ -1048575<=b.2.2.2.1/\b.2.2.2.1<=1048575/\ -1048575<=b.2.2.2.2.1/\b.2.2.2.2.1<=1048575/\ -1048575<=b.2.2.2.2.2/\b.2.2.2.2.2<=1048575:=af;have bU:=BX af;have aC:=QE af;by_cases h0:i<0
 ·refine bx bN [] (ae a8 aO) aP ?_ ah
  exact bR e0 λw2 bm=>(by (rw[QH (λq=>by have aH:=q.2;unfold ft at aH;omega),cx (λq:0<=i/\i<ft b=>by have aH:=q.2;unfold ft at aH;omega)];rfl))
 ·by_cases ad:(((bM b).1*(bM b).2.1)*(bM b).2.2)<=i
  ·refine bx cb h' (ae aS (ae (aT.bi U U U U U U (mh rfl aj aj)) (ae (aT.bi U U U U U U (mh rfl aj aj)) (ae a8 aO)))) (cD (K' U U U U af) aP) ?_ ah
   exact bR e1 λw2 bm=>(by (rw[QH (λq=>by have aH:=q.2;unfold ft at aH;omega),cx (λq:0<=i/\i<ft b=>by have aH:=q.2;unfold ft at aH;omega)];rfl))
  ·refine bx dk oJ (ae aS (ae (aT.bi U U U U U U (mh rfl aj aj)) (ae (aT.bi U U U U U U (mh rfl aj aj)) (ae aS (ae (aT.quo (a:=i) (b:=(bM b).1) ⟨aj,aj⟩ (by (have hr:=rA (i:=i) af aj bK;omega)) U U U U U U) (ae (aT.rem (a:=i) (b:=(bM b).1) ⟨aj,aj⟩ (by (have hr:=rA (i:=i) af aj bK;omega)) U U U U U U) (ae (aT.rem (a:=(i/(bM b).1)) (b:=(bM b).2.1) ⟨by (have hr:=rA (i:=i) af aj bK;omega),by (have hr:=rA (i:=i) af aj bK;omega)⟩ (by (have hr:=rA (i:=i) af aj bK;omega)) U U U U U U) (ae (aT.quo (a:=(i/(bM b).1)) (b:=(bM b).2.1) ⟨by (have hr:=rA (i:=i) af aj bK;omega),by (have hr:=rA (i:=i) af aj bK;omega)⟩ (by (have hr:=rA (i:=i) af aj bK;omega)) U U U U U U) (ae (aT.bi U U U U U U (mh rfl (by (have hr:=rA (i:=i) af aj bK;omega)) (by (have hr:=rA (i:=i) af aj bK;omega)))) (ae (aT.bi U U U U U U (mh rfl (by (have hr:=rA (i:=i) af aj bK;omega)) (by (have hr:=rA (i:=i) af aj bK;omega)))) (ae (aT.bi U U U U U U (mh rfl (by (have hr:=rA (i:=i) af aj bK;omega)) (by (have hr:=rA (i:=i) af aj bK;omega)))) aO))))))))))) (cD (K' U U U U af) aP) ?_ ah
   exact bR e2 λw2 bm=>(by (rw[YS aj bK,eH (show 0<=i/\i<ft b from ⟨aj,by unfold ft;omega⟩)];exact ajg U U U))
end QQ
end AE
namespace AE
namespace Zi
noncomputable def body:Code:=(Tryd.f85.body).getD .skip
def N:Nat:=9
noncomputable abbrev bz:=fj Tryd.prog Tryd.f85
def aN:b6:={sl:=b1 [(1,1),(0,0)],ms:=[],A:=start}
def bN:bd:=[(.bin .lss 3 1 (I 0),.bool true)]
theorem e0:bz (at' 9 bN [] body aN)=some (I 16):=au
def cb:bd:=[(.bin .lss 3 1 (I 0),.bool false),
 (.len #[29] 3 0,2),
 (.bin .geq 3 1 2,.bool true)]
theorem e1:bz (at' 9 cb [] body aN)=some (I 16):=au
def dk:bd:=[(.bin .lss 3 1 (I 0),.bool false),
 (.len #[29] 3 0,2),
 (.bin .geq 3 1 2,.bool false),
 (.dG 29 0 1,3),
 (.bA 70 3,.agg ⟨[4,5,6,7,8,9,10,11]⟩)]
theorem e2:bz (at' 9 dk [] body aN)=some 8:=au
@[reducible] noncomputable def bB (l:List cU) (dR:ch) (ec:Nat) (cell:Int):List J:=[br dR l ec,I cell,I ((l.length:Nat):Int),hb (br dR l ec) ((cell).toNat*8),cw (l.ev ((cell).toNat)).1,.bool (l.ev ((cell).toNat)).2.1,.bool (l.ev ((cell).toNat)).2.2.1,.bool (l.ev ((cell).toNat)).2.2.2.1,I (l.ev ((cell).toNat)).2.2.2.2.1,I (l.ev ((cell).toNat)).2.2.2.2.2.1,I (l.ev ((cell).toNat)).2.2.2.2.2.2.1,I (l.ev ((cell).toNat)).2.2.2.2.2.2.2]
theorem any (W:ax) {h_:J} {l:List cU} (hl:cF (aG W) 8 jB h_ l) (cell:Int):Calls Tryd.prog 85 #[h_,I cell] W λe w'=>e= .returned (I (eG l cell).2.2.2.2.1)/\cg W.heap.size W w':=by
 obtain⟨dR,ec,rfl⟩:=hl.slice;refine jE (bB l dR ec cell) body aN N [ak 0,ak 1] Tryd.func85 λa ah=> ?_
 letI:=b4 ah;have aI:=bI.o1 W;by_cases h0:cell<0
 ·refine bx bN [] (ae a8 aO) aP ?_ ah
  exact bR e0 λw2 bm=>(by (rw[J9 aj];rfl))
 ·by_cases ad:((l.length:Nat):Int)<=cell
  ·refine bx cb [] (ae aS (ae (eM (hl.mono aI.ext) lU) (ae a8 aO))) aP ?_ ah
   exact bR e1 λw2 bm=>(by (rw[J9 aj];rfl))
  ·refine bx dk [] (ae aS (ae (eM (hl.mono aI.ext) lU) (ae aS (ae (aT.Ft (hl.mono aI.ext) (show (cell).toNat<l.length by omega) U U U lU qG rfl (FA aj) rfl) (ae (aT.r7 (hl.mono aI.ext) (lJ ((cell).toNat)) U U Be qG U U U) aO))))) aP ?_ ah
   exact bR e2 λw2 bm=>(by (rw[WK aj aj];rfl))
end Zi
namespace Zj
noncomputable def body:Code:=(Tryd.f87.body).getD .skip
def N:Nat:=9
noncomputable abbrev bz:=fj Tryd.prog Tryd.f87
def aN:b6:={sl:=b1 [(1,1),(0,0)],ms:=[],A:=start}
def bN:bd:=[(.bin .lss 3 1 (I 0),.bool true)]
theorem e0:bz (at' 9 bN [] body aN)=some (.agg ⟨[I 0,I 0,I 0]⟩):=au
def cb:bd:=[(.bin .lss 3 1 (I 0),.bool false),
 (.len #[29] 3 0,2),
 (.bin .geq 3 1 2,.bool true)]
theorem e1:bz (at' 9 cb [] body aN)=some (.agg ⟨[I 0,I 0,I 0]⟩):=au
def dk:bd:=[(.bin .lss 3 1 (I 0),.bool false),
 (.len #[29] 3 0,2),
 (.bin .geq 3 1 2,.bool false),
 (.dG 29 0 1,3),
 (.bA 70 3,.agg ⟨[4,5,6,7,8,9,10,11]⟩)]
theorem e2:bz (at' 9 dk [] body aN)=some (.agg ⟨[9,10,11]⟩):=au
@[reducible] noncomputable def bB (l:List cU) (dR:ch) (ec:Nat) (cell:Int):List J:=[br dR l ec,I cell,I ((l.length:Nat):Int),hb (br dR l ec) ((cell).toNat*8),cw (l.ev ((cell).toNat)).1,.bool (l.ev ((cell).toNat)).2.1,.bool (l.ev ((cell).toNat)).2.2.1,.bool (l.ev ((cell).toNat)).2.2.2.1,I (l.ev ((cell).toNat)).2.2.2.2.1,I (l.ev ((cell).toNat)).2.2.2.2.2.1,I (l.ev ((cell).toNat)).2.2.2.2.2.2.1,I (l.ev ((cell).toNat)).2.2.2.2.2.2.2]
theorem any (W:ax) {h_:J} {l:List cU} (hl:cF (aG W) 8 jB h_ l) (cell:Int):Calls Tryd.prog 87 #[h_,I cell] W λe w'=>e= .returned (.agg ⟨[I (eG l cell).2.2.2.2.2.1,I (eG l cell).2.2.2.2.2.2.1,I (eG l cell).2.2.2.2.2.2.2]⟩)/\cg W.heap.size W w':=by
 obtain⟨dR,ec,rfl⟩:=hl.slice;refine jE (bB l dR ec cell) body aN N [ak 0,ak 1] Tryd.func87 λa ah=> ?_
 letI:=b4 ah;have aI:=bI.o1 W;by_cases h0:cell<0
 ·refine bx bN [] (ae a8 aO) aP ?_ ah
  exact bR e0 λw2 bm=>(by (rw[J9 aj];rfl))
 ·by_cases ad:((l.length:Nat):Int)<=cell
  ·refine bx cb [] (ae aS (ae (eM (hl.mono aI.ext) lU) (ae a8 aO))) aP ?_ ah
   exact bR e1 λw2 bm=>(by (rw[J9 aj];rfl))
  ·refine bx dk [] (ae aS (ae (eM (hl.mono aI.ext) lU) (ae aS (ae (aT.Ft (hl.mono aI.ext) (show (cell).toNat<l.length by omega) U U U lU qG rfl (FA aj) rfl) (ae (aT.r7 (hl.mono aI.ext) (lJ ((cell).toNat)) U U Be qG U U U) aO))))) aP ?_ ah
   exact bR e2 λw2 bm=>(by (rw[WK aj aj];rfl))
end Zj
end AE
section
noncomputable section
namespace AE
@[reducible] def xp (e:cC) (k:Nat):cC:={e with u:={e.u with bw:=mI e.u.bw e.u.waits k,waits:=nL e.u.waits k}}
@[reducible] def QR (e:cC) (k:Nat) (old:bO):cC:={e with u:={e.u with bH:=e.u.bH++[(k,old)],gone:=e.u.gone++[k],aE:=e.u.aE.set k (vI old (e.u.aE.getD k default))}}
namespace QS
def t:bZ:=
.o (.dM 0) 2 1 []<|
.o (.cn 80 2 11) 3 1 [23,30,1]<|
.o (.bA 30 3) 4 1 [1]<|
.o (.dG 30 4 1) 5 1 [0,4,1]<|
.o (.bA 4 5) 6 1 [1]<|
.o (.un .not 6) 7 1 []<|
.fR 7 (
 .o (.dM 0) 8 1 []<|
 .o (.cn 80 8 11) 9 1 [23,30,1]<|
 .o (.bA 30 9) 10 1 [1]<|
 .o (.dG 30 10 1) 11 1 [0,4,1]<|
 .st 4 11 (.bool true)<|
 .o (.dM 0) 12 1 []<|
 .o (.cn 80 12 10) 13 1 [22,78,1]<|
 .uK [1] 1 1<|
 .call 57 [13,14] (.tuple ⟨[]⟩) 0<|
 .ret (.tuple ⟨[]⟩)) (
 .ret (.tuple ⟨[]⟩))
theorem jt:l0 Tryd.prog 35 {sr:=[57]} [0,1] 2=some t:=oE au
theorem any {W:ax} {g:Nat} {A:dQ} {e:cC} (aI:cG (aG W) (db (cJ g A e))) (k:Nat) (al:k<e.u.waits.length) (hl:e.u.bw.length<=400000):
  nm im 35 [de g,I (k:Nat)] W (cJ g A e) eD (λ_=> .tuple #[]) λy=>cJ g {A with s:=y} (xp e k):=by
 refine qf (ro:=[]) mixed jt [de g,I (k:Nat)] aI hi.none ?_;unfold t;refine dn ?_;refine GR rfl (λh=> ?_) λh=> ?_
 ·have hw:¬e.u.waits.getD k default=true:=by simpa using h
  refine dn ?_;refine BQ (K:=lk) (l:=e.u.waits) (j:=k) true U U lI rfl (λ_ _=>rfl) ?_;refine dn ?_;refine YH uR [k] rfl (λ_=>vX) λb=> ?_
  refine n9 (lF:=cJ g A {e with u:={e.u with waits:=e.u.waits.set k true}}++[bs.red uR (.slice (some ⟨b,0,none⟩) 1 1) [k]]) (L':=λy=>cJ g {A with s:=y} {e with u:={e.u with waits:=e.u.waits.set k true,bw:=e.u.bw++[k]}}++[bs.red uR (.slice (some ⟨b,0,none⟩) 1 1) [k]]) [0,1,2,3,4,5,6,7,8,9,10,11,12] (λ_=>[]) (λw hw aI=>Zc.any (lx:=[k]) aI (by show e.u.bw.length+1<=_;omega)) λy=> ?_
  refine ts (λM bt=> ?_) ⟨y,rfl,rfl⟩;show bI 0 _ _ M (db (cJ g {A with s:=y} (xp e k)));unfold xp;rw[Xf hw,Xh hw];exact bt.pick mo rfl
 ·refine qe ⟨A.s,rfl,?_⟩
  have hw:e.u.waits.getD k default=true:=by simpa using h
  unfold xp;rw[Xe hw,Xg hw]
end QS
end AE
end
end
section
noncomputable section
namespace AE
abbrev nP:aK:=85
def tA (x:bO) (i:Nat) (v:Int):bO:=rq λc=>if c=i then v else cl x c
theorem Ad {x:bO} {i:Nat} (h:i<4):(dJ x)[0+i*1]? =some (I (cl x i)):=by
 match i,h with
 |0,_=>rfl
 |1,_=>rfl
 |2,_=>rfl
 |3,_=>rfl
theorem K_ {x:bO} {i:Nat} (h:i<4) (v:Int):dJ (tA x i v)=(dJ x).set (0+i*1) (I v):=by
 match i,h with
 |0,_=>rfl
 |1,_=>rfl
 |2,_=>rfl
 |3,_=>rfl
theorem ajY {x:bO} {i:Nat} (h:i<4):(dJ x)[i]? =some (I (cl x i)):=by
 have:=Ad (x:=x) h
 rwa [Nat.zero_add,Nat.mul_one] at this
theorem ajZ {old x:bO} {i:Nat} (h:0<cl old i):tA (ru i old x) i 0=ru (i+1) old x:=by
 refine bO.ext' λc ar=> ?_
 unfold tA ru;rw[iU ar,iU ar,iU ar];by_cases ai:c=i
 ·subst ai;rw[aY rfl,aY ⟨aj,h⟩]
 ·rw[a' ai]
  by_cases hl:c<i/\0<cl old c
  ·rw[aY hl,aY ⟨aj,hl.2⟩]
  ·rw[a' hl,a' (λq=>hl ⟨aj,q.2⟩)]
theorem aj0 {old x:bO} {i:Nat} (h:¬0<cl old i):ru (i+1) old x=ru i old x:=by
 refine bO.ext' λc ar=> ?_
 unfold ru;rw[iU ar,iU ar];by_cases hl:c<i/\0<cl old c
 ·rw[aY hl,aY ⟨aj,hl.2⟩]
 ·rw[a' hl,a' (λq=>hl ⟨(by rcases Nat.lt_or_ge c i with q1|q1;exact q1;exact absurd q.2 (by rw[show c=i by omega];exact h)),q.2⟩)]
@[reducible] def La (e:cC) (k:Nat) (old:bO) (i:Nat):cC:={e with u:={e.u with bH:=e.u.bH++[(k,old)],gone:=e.u.gone++[k],aE:=e.u.aE.set k (ru i old (e.u.aE.getD k default))}}
namespace QT
def t:bZ:=
.tm 85 (.agg ⟨[2,3,4,5]⟩)<|
.o (.dM 0) 7 1 []<|
.o (.cn 80 7 8) 8 1 [20,76,1]<|
.o (.bA 85 6) (.agg ⟨lZ 4 9⟩) 4 [4]<|
.uK [1,9,10,11,12] 1 1<|
.call 86 [8,13] (.tuple ⟨[]⟩) 0<|
.o (.dM 0) 14 1 []<|
.o (.cn 80 14 9) 15 1 [21,26,1]<|
.o (.bA 26 15) 16 1 [1]<|
.yz 26 16 [1]<|
.o (.dM 0) 18 1 []<|
.o (.cn 80 18 9) 19 1 [21,26,1]<|
.st 26 19 17<|
.loop [I 0] 1<|
.o (.bin .lss 3 20 (I 4)) 21 1 []<|
.fR 21 (
 .o (.dG 85 6 20) 22 1 [1,4,3,1]<|
 .o (.bA 3 22) 23 1 [1]<|
 .o (.bin .gtr 3 23 (I 0)) 24 1 []<|
 .fR 24 (
  .o (.dM 0) 25 1 []<|
  .o (.cn 80 25 5) 26 1 [17,45,1]<|
  .o (.bA 45 26) 27 1 [1]<|
  .o (.dG 45 27 1) 28 1 [0,85,4]<|
  .o (.dG 85 28 20) 29 1 [1,4,3,1]<|
  .st 3 29 (I 0)<|
  .o (.bin .add 3 20 (I 1)) 30 1 []<|
  .back [30]) (
  .o (.bin .add 3 20 (I 1)) 25 1 []<|
  .back [25])) (
 .gD<|
 .ret (.tuple ⟨[]⟩))
theorem jt:l0 Tryd.prog 63 {sr:=[86],marks:=[85]} [0,1,.agg ⟨[2,3,4,5]⟩] 6=some t:=oE au
theorem any {W:ax} {g:Nat} {A:dQ} {e:cC} (aI:cG (aG W) (db (cJ g A e))) (k:Nat) (old:bO) (al:k<e.u.aE.length) (ad:e.u.bH.length<=400000) (ag:e.u.gone.length<=400000):
  nm im 63 [de g,I (k:Nat),.agg ⟨dJ old⟩] W (cJ g A e) (eD×eD) (λ_=> .tuple #[]) λy=>cJ g {A with o:=y.1,g:=y.2} (QR e k old):=by
 refine qf (ro:=[]) mixed jt [de g,I (k:Nat),I old.1,I old.2.1,I old.2.2.1,I old.2.2.2] aI hi.none ?_;unfold t;refine Qq (cs:=dJ old) U U (λb=>vX) λb=> ?_
 refine dn ?_;refine yG (c:=dJ old) rfl has U U o7 ?_;refine YH sa [(k,old)] rfl (λ_=>vX) λlM=> ?_
 refine n9 (lF:=cJ g A e++[bs.red sa (.slice (some ⟨lM,0,none⟩) 1 1) [(k,old)]]) (L':=λy=>cJ g {A with o:=y} {e with u:={e.u with bH:=e.u.bH++[(k,old)]}}++[bs.box b nP (dJ old),bs.red sa (.slice (some ⟨lM,0,none⟩) 1 1) [(k,old)]]) [0,1,2,3,4,5,6,7,8,9,10,11,13] (λ_=>[]) (λw hw aI=>Ze.any (lx:=[(k,old)]) aI (by show e.u.bH.length+1<=_;omega)) λy=> ?_
 refine dn ?_;refine ai0 (K:=uR) (l:=e.u.gone) [k] rfl (λa c=>lI) rfl (λa c=> ?_) (QO (by show e.u.gone.length+1<=_;omega)) (by show (e.u.gone.length+1)*8<=_;omega);refine dn ?_;refine BR Nat (λi=>[I (i:Nat)]) (λi=>cJ g {A with o:=y,g:=(a,c)} (La e k old i)++[bs.box b nP (dJ old),bs.red sa (.slice (some ⟨lM,0,none⟩) 1 1) [(k,old)]]) (λi=>i<=4) (λi=>4-i) 0 rfl ?_ aj (λi ai=> ?_)
 ·show _=cJ g _ {e with u:={e.u with bH:=e.u.bH++[(k,old)],gone:=e.u.gone++[k],aE:=e.u.aE.set k (ru 0 old (e.u.aE.getD k default))}}++_
  rw[ahi,Xj al];rfl
 refine dn ?_;refine oG rfl (λbG=> ?_) λbG=> ?_
 ·have l3:i<4:=by omega
  refine dn ?_;refine BP (u:=I (cl old i)) rfl has (Ad l3) ?_;have og:k<(e.u.aE.set k (ru i old (e.u.aE.getD k default))).length:=by rw[List.length_set];exact al
  refine dn ?_;refine oG rfl (λhp=> ?_) λhp=> ?_
  ·refine dn ?_
   refine BQ (K:=jN) (l:=e.u.aE.set k (ru i old (e.u.aE.getD k default))) (j:=k) (o:=0+i*1) (tA (ru i old (e.u.aE.getD k default)) i 0) U U lI rfl (λz bU=> ?_) ?_ (hj:=og) (ho:=by show 0+i*1<4;omega)
   ·rw[List.getElem?_set,aY rfl,aY al,cN] at bU
    subst bU;exact K_ l3 0
   refine dn ?_;refine sw (i+1) rfl ?_ aj aj;rw[List.set_set,ajZ hp];rfl
  ·refine dn ?_
   refine sw (i+1) rfl ?_ aj aj;show _=cJ g _ (La e k old (i+1))++_;unfold La;rw[aj0 hp]
 ·refine dn ?_
  obtain rfl:i=4:=by omega
  refine ts (λM bt=> ?_) ⟨(y,(a,c)),rfl,rfl⟩;unfold La at bt;rw[ahj] at bt;exact bt.pick mo rfl
end QT
end AE
end
end
section
noncomputable section
namespace AE
abbrev qj:aK:=87
namespace QU
def t:bZ:=
.o (.dM 0) 2 1 []<|
.o (.cn 80 2 4) 3 1 [16,29,1]<|
.o (.bA 29 3) 4 1 [1]<|
.o (.cn 80 2 1) 5 1 [7,28,7]<|
.o (.cn 28 5 1) 6 1 [6,26,1]<|
.o (.bA 26 6) 7 1 [1]<|
.o (.dG 26 7 1) 8 1 [0,3,1]<|
.o (.bA 3 8) 9 1 [1]<|
.c 85 [4,9] 10 1<|
.ret 10
theorem jt:l0 Tryd.prog 61 {} [0,1] 2=some t:=oE au
theorem any {W:ax} {g:Nat} {A:dQ} {e:cC} (aI:cG (aG W) (db (cJ g A e))) (k:Nat) (al:k<e.u.lit.length):
  nm im 61 [de g,I (k:Nat)] W (cJ g A e) Unit (λ_=>I (eG e.table (e.u.lit.getD k default)).2.2.2.2.1) λ_=>cJ g A e:=by
 refine qf (ro:=[]) mixed jt [de g,I (k:Nat)] aI hi.none ?_;unfold t;refine dn ?_;refine o8 (v:=I (eG e.table (e.u.lit.getD k default)).2.2.2.2.1) (λw hw=>Zi.any w ((nk.arr (K:=yO) (l:=e.table) has).at hw) _) ?_;exact qe ⟨(),rfl,rfl⟩
end QU
namespace Zk
def t:bZ:=
.o (.bA 34 2) 3 1 [1]<|
.call 35 [3,0] (.tuple ⟨[]⟩) 0<|
.ret (.tuple ⟨[]⟩)
theorem jt:l0 Tryd.prog 66 {sr:=[35]} [0,1,2] 3=some t:=oE au
theorem any {W:ax} {g eW:Nat} {A:dQ} {e:cC} (aI:cG (aG W) (db (cJ g A e++[bs.box eW gR [de g]]))) (k:Nat) (fH:Int) (al:k<e.u.waits.length) (hl:e.u.bw.length<=400000):
  nm im 66 [I (k:Nat),I fH,.pointer (some ⟨eW,0,none⟩)] W (cJ g A e++[bs.box eW gR [de g]]) eD (λ_=> .tuple #[]) λy=>cJ g {A with s:=y} (xp e k)++[bs.box eW gR [de g]]:=by
 refine qf (ro:=[]) mixed jt [I (k:Nat),I fH,.pointer (some ⟨eW,0,none⟩)] aI hi.none ?_;unfold t;refine dn ?_;refine n9 (lF:=cJ g A e) (L':=λy=>cJ g {A with s:=y} (xp e k)++[bs.box eW gR [de g]]) mo (λ_=>[]) (λw hw aI=>QS.any aI k al hl) λy=> ?_
 exact qe ⟨y,rfl,rfl⟩
end Zk
end AE
end
end
section
noncomputable section
namespace AE
theorem Zl {x:az} {i:Nat} (h:i<4):(j4 x)[0+1+i*1]? =some (I (cl x.2 i)):=by
 match i,h with
 |0,_=>rfl
 |1,_=>rfl
 |2,_=>rfl
 |3,_=>rfl
abbrev B3 (x:bO):Prop:=∀c,c<4->0<=cl x c/\cl x c<=15
def xq (F:Int) (old x:bO) (fH:Int) (i:Nat):bO:=rq λc=>if c<i then Ec F old x fH c else 0
theorem aj1 {F:Int} {old x:bO} {fH:Int} {i:Nat} {v:Int} (h:Ec F old x fH i=v):tA (xq F old x fH i) i v=xq F old x fH (i+1):=by
 refine bO.ext' λc ar=> ?_
 unfold tA xq;rw[iU ar,iU ar,iU ar];by_cases ai:c=i
 ·subst ai;rw[aY rfl,aY aj,h]
 ·rw[a' ai]
  by_cases hl:c<i
  ·rw[aY hl,aY aj]
  ·rw[a' hl,a' aj]
theorem QV {F:Int} {old x:bO} {fH:Int} {i:Nat} (h:Ec F old x fH i=0):xq F old x fH (i+1)=xq F old x fH i:=by
 refine bO.ext' λc ar=> ?_
 unfold xq;rw[iU ar,iU ar];by_cases ai:c=i
 ·subst ai;rw[aY aj,a' aj,h]
 ·by_cases hl:c<i
  ·rw[aY hl,aY aj]
  ·rw[a' hl,a' aj]
theorem aj2 {F:Int} {old x:bO} {fH:Int}:xq F old x fH 4=z_ F old x fH:=by
 refine bO.ext' λc ar=> ?_
 unfold xq z_;rw[iU ar,iU ar,aY ar]
@[reducible] def kQ (e:cC) (k:Nat):Int:=(eG e.table (e.u.lit.getD k default)).2.2.2.2.1
@[reducible] def QW (e:cC) (k:Nat) (eJ:bO):cC:={e with u:={e.u with bH:=BY e.u.bH k eJ,gone:=yK e.u.gone k eJ,aE:=Aa e.u.aE k eJ}}
@[reducible] def Hc (e:cC) (x:az) (k:Nat) (fH:Int):cC:=QW e k (z_ (kQ e k) x.2 (e.u.aE.getD k default) fH)
namespace Zm
def t:bZ:=
.o (.bA 34 2) 4 1 [1]<|
.call 61 [4,0] 5 1<|
.qN 85<|
.o (.bA 34 2) 7 1 [1]<|
.o (.dM 7) 8 1 []<|
.o (.cn 80 8 5) 9 1 [17,45,1]<|
.o (.bA 45 9) 10 1 [1]<|
.o (.dG 45 10 0) 11 1 [0,85,4]<|
.o (.bA 85 11) (.agg ⟨lZ 4 12⟩) 4 [4]<|
.loop [I 0] 1<|
.o (.bin .lss 3 16 (I 4)) 17 1 []<|
.fR 17 (
 .o (.fX 85 (.agg ⟨[12,13,14,15]⟩) 16) 18 1 [1,4,3,1]<|
 .o (.cn 87 3 1) 19 1 [1,85,4]<|
 .o (.dG 85 19 16) 20 1 [1,4,3,1]<|
 .o (.bA 3 20) 21 1 [1]<|
 .o (.bin .gtr 3 21 (I 0)) 22 1 []<|
 .fR 22 (
  .o (.bin .gtr 3 18 (I 0)) 23 1 []<|
  .fR 23 (
   .o (.cn 87 3 1) 24 1 [1,85,4]<|
   .o (.dG 85 24 16) 25 1 [1,4,3,1]<|
   .o (.bA 3 25) 26 1 [1]<|
   .o (.bin .lss 3 1 (I 0)) 27 1 []<|
   .c 62 [26,5,16,27] 28 1<|
   .o (.bin .eql 3 18 28) 29 1 []<|
   .fR 29 (
    .o (.dG 85 6 16) 30 1 [1,4,3,1]<|
    .st 3 30 18<|
    .o (.bin .add 3 16 (I 1)) 31 1 []<|
    .back [31]) (
    .o (.bin .add 3 16 (I 1)) 30 1 []<|
    .back [30])) (
   .o (.bin .add 3 16 (I 1)) 24 1 []<|
   .back [24])) (
  .o (.bin .add 3 16 (I 1)) 23 1 []<|
  .back [23])) (
 .gD<|
 .o (.bA 85 6) (.agg ⟨lZ 4 18⟩) 4 [4]<|
 .o (.bin .neq 85 (.agg ⟨[18,19,20,21]⟩) (.agg ⟨[I 0,I 0,I 0,I 0]⟩)) 22 1 []<|
 .fR 22 (
  .o (.bA 34 2) 23 1 [1]<|
  .o (.bA 85 6) (.agg ⟨lZ 4 24⟩) 4 [4]<|
  .call 63 [23,0,.agg ⟨[24,25,26,27]⟩] (.tuple ⟨[]⟩) 0<|
  .ret (.tuple ⟨[]⟩)) (
  .ret (.tuple ⟨[]⟩)))
theorem jt:l0 Tryd.prog 60 {sr:=[63,61],marks:=[85]} [0,1,2,3] 4=some t:=oE au
theorem any {W:ax} {g eW mL:Nat} {A:dQ} {e:cC} {x:az} (aI:cG (aG W) (db (cJ g A e++[bs.box eW gR [de g],bs.box mL qj (j4 x)]))) (k:Nat) (fH:Int) (al:k<e.u.aE.length) (og:k<e.u.lit.length) (ad:e.u.bH.length<=300000) (ag:e.u.gone.length<=300000) (aq:B3 x.2) (dh:1<=kQ e k/\kQ e k<=16):
  nm im 60 [I (k:Nat),I fH,.pointer (some ⟨eW,0,none⟩),.pointer (some ⟨mL,0,none⟩)] W (cJ g A e++[bs.box eW gR [de g],bs.box mL qj (j4 x)]) (eD×eD) (λ_=> .tuple #[]) λy=>cJ g {A with o:=y.1,g:=y.2} (Hc e x k fH)++[bs.box eW gR [de g],bs.box mL qj (j4 x)]:=by
 refine qf (ro:=[]) mixed jt [I (k:Nat),I fH,.pointer (some ⟨eW,0,none⟩),.pointer (some ⟨mL,0,none⟩)] aI hi.none ?_;unfold t;refine dn ?_;refine n9 (lF:=cJ g A e) (L':=λy=>cJ g A e++[bs.box eW gR [de g],bs.box mL qj (j4 x)]) mo (λ_=>[I (kQ e k)]) (λw hw aI=>QU.any aI k og) λ_=> ?_
 refine D7 (z:= .agg ⟨dJ z4⟩) (dJ z4) au rfl (λb=>vX) λb=> ?_
 refine dn ?_;refine KU (K:=jN) (l:=e.u.aE) (j:=k) (c:=dJ (e.u.aE.getD k default)) U U U o7 ?_;generalize nT:e.u.aE.getD k default=gD;generalize aQ:kQ e k=F at dh;refine BR Nat (λi=>[I (i:Nat)]) (λi=>cJ g A e++[bs.box eW gR [de g],bs.box mL qj (j4 x),bs.box b nP (dJ (xq F x.2 gD fH i))]) (λi=>i<=4) (λi=>4-i) 0 U U aj (λi ai=> ?_);refine dn ?_;refine oG rfl (λbG=> ?_) λbG=> ?_
 ·have l3:i<4:=by omega
  refine YJ (cs:=dJ gD) (j:=i) U U (ajY l3) ?_;refine dn ?_;refine BP (u:=I (cl x.2 i)) rfl has (Zl l3) ?_;refine dn ?_;refine oG rfl (λhp=> ?_) λhp=> ?_
  ·refine dn ?_
   refine oG rfl (λbb=> ?_) λbb=> ?_
   ·refine dn ?_
    refine BP (u:=I (cl x.2 i)) rfl has (Zl l3) ?_;refine dn ?_;refine o8 (v:=I (given (cl x.2 i) F i (decide (fH<0)))) (λw hw=>K9.any w (cl x.2 i) F i (decide (fH<0)) (by have:=aq i l3;omega) (by have:=aq i l3;omega) aj aj) ?_;refine dn ?_;refine oG rfl (λao=> ?_) λao=> ?_
    ·refine dn ?_
     refine YF (cs':=dJ (xq F x.2 gD fH (i+1))) U U lI ?_ ?_ (by show 0+i*1<4;omega)
     ·rw[<-aj1 (ajn hp bb ao)]
      exact K_ l3 _
     refine dn ?_;exact sw (i+1) U U aj aj
    ·refine dn ?_
     refine sw (i+1) rfl ?_ aj aj;rw[QV (QI λq=>ao q.2.2)]
   ·refine dn ?_
    refine sw (i+1) rfl ?_ aj aj;rw[QV (QI λq=>bb q.2.1)]
  ·refine dn ?_
   refine sw (i+1) rfl ?_ aj aj;rw[QV (QI λq=>hp q.1)]
 ·refine dn ?_
  obtain rfl:i=4:=by omega
  rw[aj2];generalize cM:z_ F x.2 gD fH=eJ;refine yG (c:=dJ eJ) rfl has U U o7 ?_;refine ai6 (b:=decide (eJ=z4)) U U ((YT eJ z4).trans (by rw[YU])) ?_;refine D6 rfl (λbU=> ?_) λbU=> ?_
  ·refine dn ?_
   refine yG (c:=dJ eJ) rfl has U U o7 ?_;refine n9 (lF:=cJ g A e) (L':=λy=>cJ g {A with o:=y.1,g:=y.2} (QR e k eJ)++[bs.box eW gR [de g],bs.box mL qj (j4 x),bs.box b nP (dJ eJ)]) mo (λ_=>[]) (λw hw aI=>QT.any aI k eJ al aj aj) λy=> ?_
   refine ts (λM bt=> ?_) ⟨y,rfl,rfl⟩;unfold Hc QW;rw[nT,aQ,cM];obtain⟨q1,aH,bW⟩:=ajm (l:=e.u.bH) (g:=e.u.gone) (li:=e.u.aE) (n:=k) bU;rw[q1,aH,bW];exact bt.pick [0,1,2,3,4,5,6,7,8,9,10,11,12,13] rfl
  ·refine ts (λM bt=> ?_) ⟨(A.o,A.g),rfl,rfl⟩
   unfold Hc QW;rw[nT,aQ,cM];obtain⟨q1,aH,bW⟩:=ajl (l:=e.u.bH) (g:=e.u.gone) (li:=e.u.aE) (n:=k) bU;rw[q1,aH,bW];exact bt.pick [0,1,2,3,4,5,6,7,8,9,10,11,12,13] rfl
end Zm
end AE
end
end
section
noncomputable section
namespace AE
theorem Zn {b:bT} {p:ej} (af:okB b) (h:bS p b):v8 b p=((b_ b p:Nat):Int):=by
 unfold b_;have:=(o9 af h).1;rw[G1 h];have ag:=(o9 af h).2.2.1;have ay:=j7 h;omega
def Ae (j:Nat):Int:=if j=0 then -1 else 1
theorem aj3 {j:Nat} (h:j<2):([I (-1),I 1]:List J)[j]? =some (I (Ae j)):=by
 match j,h with
 |0,_=>rfl
 |1,_=>rfl
namespace B4
def t (f:FuncId) (Ed:List J):bZ:=
.o (.dM 0) 5 1 []<|
.o (.cn 80 5 1) 6 1 [7,28,7]<|
.o (.cn 28 6 0) 7 1 [0,25,6]<|
.o (.bA 25 7) (.agg ⟨lZ 6 8⟩) 6 [6]<|
.c 84 [.agg ⟨[8,9,10,11,12,13]⟩,1] (.tuple ⟨[.agg ⟨[14,15,16]⟩,17]⟩) 4<|
.loop [I 0] 1<|
.o (.bin .lss 3 18 (I 3)) 19 1 []<|
.fR 19 (
 .loop [I 0] 1<|
 .o (.bin .lss 3 20 (I 2)) 21 1 []<|
 .fR 21 (
  .o (.fX 135 (.agg ⟨[I (-1),I 1]⟩) 20) 22 1 [1,2,3,1]<|
  .o (.bin .eql 3 18 (I 0)) 23 1 []<|
  .vP 23 (
   .o (.bin .add 3 14 22) 24 1 []<|
   .back [I 0,24,15,16]) (
   .o (.bin .eql 3 18 (I 1)) 24 1 []<|
   .fR 24 (
    .o (.bin .add 3 15 22) 25 1 []<|
    .back [I 0,14,25,16]) (
    .o (.bin .add 3 16 22) 25 1 []<|
    .back [22,14,15,25])) 4<|
  .o (.dM 0) 28 1 []<|
  .o (.cn 80 28 1) 29 1 [7,28,7]<|
  .o (.cn 28 29 0) 30 1 [0,25,6]<|
  .o (.bA 25 30) (.agg ⟨lZ 6 31⟩) 6 [6]<|
  .c 55 [.agg ⟨[31,32,33,34,35,36]⟩,.agg ⟨[25,26,27]⟩] 37 1<|
  .o (.bin .geq 3 37 (I 0)) 38 1 []<|
  .fR 38 (
   .o (.dM 0) 39 1 []<|
   .o (.cn 80 39 3) 40 1 [15,30,1]<|
   .o (.bA 30 40) 41 1 [1]<|
   .o (.dG 30 41 37) 42 1 [0,4,1]<|
   .o (.bA 4 42) 43 1 [1]<|
   .fR 43 (
    .call f (37::24::Ed) (.tuple ⟨[]⟩) 0<|
    .o (.bin .add 3 20 (I 1)) 44 1 []<|
    .back [44]) (
    .o (.bin .add 3 20 (I 1)) 44 1 []<|
    .back [44])) (
   .o (.bin .add 3 20 (I 1)) 39 1 []<|
   .back [39])) (
  .gD<|
  .o (.bin .add 3 18 (I 1)) 22 1 []<|
  .back [22])) (
 .gD<|
 .ret (.tuple ⟨[]⟩))
theorem any {f:FuncId} {Ed te:List J} {h:DV} (aA:l0 im 59 h [0,1,.func (.func f) #[] ⟨Ed⟩] 5=some (t f Ed)) {c2 c3 rW:J} (ku:∀env n,look env n 2=c2->look env n 3=c3->look env n 4=rW->h9 env n Ed=te) (ar:gg [c2,c3,rW]) (A2:∀v0 v1,h9 [rW,c3,c2,v1,v0] 5 [0,1,.func (.func f) #[] ⟨Ed⟩]=[v0,v1,.func (.func f) #[] ⟨te⟩])
  {W:ax} {g:Nat} {zG Z:Type} (pa:Z->zG->dQ) (mZ:zG->cC) (pb:Z->zG->List (bs im)) (is:List Nat) (st:zG->Nat×Int->zG) (iC:zG) {b:bT} {sh:List Bool} {k:Nat} (af:okB b) (al:k<sh.length) (hl:sh.length=(ft b).toNat)
  (Zo:∀n,(mZ ((er b sh k n).foldl st iC)).b=b) (es:∀n,(mZ ((er b sh k n).foldl st iC)).u.b8=sh)
  (rP:∀n z w,n<6->cG (aG w) (db (cJ g (pa z ((er b sh k n).foldl st iC)) (mZ ((er b sh k n).foldl st iC))++pb z ((er b sh k n).foldl st iC)))->nm im f (I (b_ b (iM b k n):Nat)::I (p7 n)::te) w (cJ g (pa z ((er b sh k n).foldl st iC)) (mZ ((er b sh k n).foldl st iC))++pb z ((er b sh k n).foldl st iC)) Z (λ_=> .tuple #[]) λqk=>cJ g (pa qk (st ((er b sh k n).foldl st iC) (b_ b (iM b k n),p7 n))) (mZ (st ((er b sh k n).foldl st iC) (b_ b (iM b k n),p7 n)))++pb qk (st ((er b sh k n).foldl st iC) (b_ b (iM b k n),p7 n)))
  (hp:∀z d,pick (db (cJ g (pa z d) (mZ d)++pb z d)) is=db (cJ g (pa z d) (mZ d)++pb z d)) (aj4:∀z d qk oi,yH (cJ g (pa z d) (mZ d)++pb z d) is (cJ g (pa qk oi) (mZ oi)++pb qk oi)=cJ g (pa qk oi) (mZ oi)++pb qk oi)
  (ik:∀z d,kl (cJ g (pa z d) (mZ d)++pb z d).length is=true) (hle:∀z d,is.length<=(cJ g (pa z d) (mZ d)++pb z d).length) (z0:Z) (aI:cG (aG W) (db (cJ g (pa z0 iC) (mZ iC)++pb z0 iC))):
  nm im 59 [de g,I (k:Nat),.func (.func f) #[] ⟨te⟩] W (cJ g (pa z0 iC) (mZ iC)++pb z0 iC) Z (λ_=> .tuple #[]) λz=>cJ g (pa z ((er b sh k 6).foldl st iC)) (mZ ((er b sh k 6).foldl st iC))++pb z ((er b sh k 6).foldl st iC):=by
 have e0:(er b sh k 0).foldl st iC=iC:=rfl;have aC:0<=((k:Nat):Int)/\((k:Nat):Int)<ft b:=YY al hl;have Pg:=Y0 af (k:Nat);refine qf (ro:=[]) mixed aA [de g,I (k:Nat),c2,c3,rW] aI hi.none ?_ (A2 _ _) (ho:=⟨rfl,rfl,ar⟩);unfold t;refine dn ?_;refine yG (c:=Ea b) rfl has (by exact(congrArg Ea (Zo 0)).symm) rfl o7 ?_;refine Qr [I (fp b (k:Nat)).1,I (fp b (k:Nat)).2.1,I (fp b (k:Nat)).2.2,.bool (decide (0<=((k:Nat):Int)/\((k:Nat):Int)<ft b))] (λw _=>QQ.any w b (k:Nat) af) rfl ?_;refine BR (Nat×Z) (λu=>[I (u.1:Nat)]) (λu=>cJ g (pa u.2 ((er b sh k (2*u.1)).foldl st iC)) (mZ ((er b sh k (2*u.1)).foldl st iC))++pb u.2 ((er b sh k (2*u.1)).foldl st iC)) (λu=>u.1<=3) (λu=>3-u.1) (0,z0) U U (by show 0<=3;omega) (λu hu=> ?_);obtain⟨i,z⟩:=u;have hu:i<=3:=hu;dsimp only;refine dn ?_;refine oG rfl (λay=> ?_) λay=> ?_
 ·refine BR (Nat×Z) (λu=>[I (u.1:Nat)]) (λu=>cJ g (pa u.2 ((er b sh k (2*i+u.1)).foldl st iC)) (mZ ((er b sh k (2*i+u.1)).foldl st iC))++pb u.2 ((er b sh k (2*i+u.1)).foldl st iC)) (λu=>u.1<=2) (λu=>2-u.1) (0,z) U U (by show 0<=2;omega) (λv yc=> ?_)
  have bU:∃QX,QX=z:=⟨z,rfl⟩;obtain⟨QX,bU⟩:=bU;subst bU;obtain⟨j,z⟩:=v;have yc:j<=2:=yc;dsimp only;refine dn ?_;refine oG rfl (λag=> ?_) λag=> ?_
  ·have hj:j<2:=by omega
   have cR:2*i+j<6:=by omega
   have Lb: -1<=Ae j/\Ae j<=1:=by unfold Ae;split<;>omega
   refine YJ (cs:=[I (-1),I 1]) (j:=j) U U (aj3 hj) ?_;refine dn ?_;refine ai1 (Int×ej) (λu=>[I u.1,I u.2.1,I u.2.2.1,I u.2.2.2]) (λ_=>cJ g (pa z ((er b sh k (2*i+j)).foldl st iC)) (mZ ((er b sh k (2*i+j)).foldl st iC))++pb z ((er b sh k (2*i+j)).foldl st iC)) (λu=>u=(p7 (2*i+j),iM b k (2*i+j))) rfl (λai=> ?_) (λai=> ?_) (λu hu=> ?_)
   ·refine dn ?_
    refine Qs (0,(fp b (k:Nat)).1+Ae j,(fp b (k:Nat)).2.1,(fp b (k:Nat)).2.2) U U ?_;obtain rfl:i=0:=by omega
    match j,hj with
    |0,_=>rfl
    |1,_=>rfl
   ·refine dn ?_
    refine oG rfl (λB5=> ?_) λB5=> ?_
    ·refine dn ?_
     refine Qs (0,(fp b (k:Nat)).1,(fp b (k:Nat)).2.1+Ae j,(fp b (k:Nat)).2.2) U U ?_;obtain rfl:i=1:=by omega
     match j,hj with
     |0,_=>rfl
     |1,_=>rfl
    ·refine dn ?_
     refine Qs (Ae j,(fp b (k:Nat)).1,(fp b (k:Nat)).2.1,(fp b (k:Nat)).2.2+Ae j) U U ?_;obtain rfl:i=2:=by omega
     match j,hj with
     |0,_=>rfl
     |1,_=>rfl
   ·subst hu
    dsimp only;have fB:=G2 (b:=b) al hl (iM b k (2*i+j));have ao2:(b_ b (iM b k (2*i+j)))<(mZ ((er b sh k (2*i+j)).foldl st iC)).u.b8.length:=by rw[es];exact fB
    refine dn ?_;refine yG (c:=Ea b) rfl has (by exact(congrArg Ea (Zo (2*i+j))).symm) rfl o7 ?_;by_cases lv:bS (iM b k (2*i+j)) b
    ·refine o8 (v:=I (b_ b (iM b k (2*i+j)):Nat)) (λw _=>by rw[<-Zn af lv];exact Hb.any w b (iM b k (2*i+j)) af) ?_
     refine dn ?_;refine oG rfl (λh0=> ?_) λh0=>absurd (Int.natCast_nonneg _) h0
     refine dn ?_;refine GR rfl (λaw=> ?_) λaw=> ?_
     ·have aw:sh.getD (b_ b (iM b k (2*i+j))) default=true:=by rw[<-es (2*i+j)];exact aw
      refine n9 (v:=λ_=> .tuple #[]) (N:=λqk=>cJ g (pa qk (st ((er b sh k (2*i+j)).foldl st iC) (b_ b (iM b k (2*i+j)),p7 (2*i+j)))) (mZ (st ((er b sh k (2*i+j)).foldl st iC) (b_ b (iM b k (2*i+j)),p7 (2*i+j))))++pb qk (st ((er b sh k (2*i+j)).foldl st iC) (b_ b (iM b k (2*i+j)),p7 (2*i+j)))) (lF:=cJ g (pa z ((er b sh k (2*i+j)).foldl st iC)) (mZ ((er b sh k (2*i+j)).foldl st iC))++pb z ((er b sh k (2*i+j)).foldl st iC)) (L':=λqk=>cJ g (pa qk ((er b sh k (2*i+(j+1))).foldl st iC)) (mZ ((er b sh k (2*i+(j+1))).foldl st iC))++pb qk ((er b sh k (2*i+(j+1))).foldl st iC)) is (λ_=>[]) (λw hw aI=>rP (2*i+j) z w cR aI) (λqk=> ?_) (ha:=by exact congrArg (λl=>I (b_ b (iM b k (2*i+j)):Nat)::I (p7 (2*i+j))::l) (ku _ _ (by rfl) (by rfl) (by rfl))) (hL:=λqk=> ?_) (hp:=hp _ _) (ik:=ik _ _) (hl:=λqk=>hle _ _)
      ·refine dn ?_
       exact sw (u:=(j,z)) (j+1,qk) U U (by show j+1<=2;omega) (by show 2-(j+1)<2-j;omega)
      ·rw[aj4,show 2*i+(j+1)=2*i+j+1 by omega,ajp al hl cR lv aw,List.foldl_append]
       rfl
     ·have aw:¬sh.getD (b_ b (iM b k (2*i+j))) default=true:=by rw[<-es (2*i+j)];rw[show _=false from aw];decide
      refine dn ?_;refine sw (u:=(j,z)) (j+1,z) rfl ?_ (by show j+1<=2;omega) (by show 2-(j+1)<2-j;omega);dsimp only;rw[show 2*i+(j+1)=2*i+j+1 by omega,ajq al hl cR lv aw]
    ·refine o8 (v:=I (-1)) (λw _=>by rw[<-Eb lv];exact Hb.any w b (iM b k (2*i+j)) af) ?_
     refine dn ?_;refine oG rfl (λh0=>absurd h0 cB) λh0=> ?_
     refine dn ?_;refine sw (u:=(j,z)) (j+1,z) rfl ?_ (by show j+1<=2;omega) (by show 2-(j+1)<2-j;omega);dsimp only;rw[show 2*i+(j+1)=2*i+j+1 by omega,ajr al hl cR lv]
  ·refine dn ?_
   obtain rfl:j=2:=by omega
   exact sw (u:=(i,QX)) (i+1,z) U U (by show i+1<=3;omega) (by show 3-(i+1)<3-i;omega)
 ·refine dn ?_
  obtain rfl:i=3:=by omega
  exact qe ⟨z,rfl,rfl⟩
end B4
end AE
end
end
section
noncomputable section
namespace AE
@[reducible] def yP (e:cC) (s:List az×List Nat×List bO):cC:={e with u:={e.u with bH:=s.1,gone:=s.2.1,aE:=s.2.2}}
theorem Hd (x:az):∀(l:List (Nat×Int)) (e:cC),l.foldl (λe p=>Hc e x p.1 p.2) e=yP e (mn e.table e.u.lit x.2 l (e.u.bH,e.u.gone,e.u.aE))
 |[],_=>rfl
 |p::l,e=>by
  rw[List.foldl_cons,Hd x l];rfl
theorem QY (table:List cU) (lit:List Int) (old:bO):∀(l:List (Nat×Int)) (s:List az×List Nat×List bO),(mn table lit old l s).1.length<=s.1.length+l.length/\(mn table lit old l s).2.1.length<=s.2.1.length+l.length/\(mn table lit old l s).2.2.length=s.2.2.length
 |[],_=>⟨cj _,cj _,rfl⟩
 |p::l,s=>by
  obtain⟨q1,aH,bW⟩:=QY table lit old l (o_ table lit old s p);have cO:(o_ table lit old s p).1.length<=s.1.length+1:=Y1 _ _ _;have dx:(o_ table lit old s p).2.1.length<=s.2.1.length+1:=ajs _ _ _;have gh:(o_ table lit old s p).2.2.length=s.2.2.length:=ajt _ _ _;have e:mn table lit old (p::l) s=mn table lit old l (o_ table lit old s p):=rfl;rw[e,List.length_cons];exact⟨aj,aj,bW.trans gh⟩
@[reducible] def He (e:cC) (s:List Nat×List Bool):cC:={e with u:={e.u with bw:=s.1,waits:=s.2}}
theorem Hf:∀(l:List (Nat×Int)) (e:cC),l.foldl (λe p=>xp e p.1) e=He e (sz l (e.u.bw,e.u.waits))
 |[],_=>rfl
 |p::l,e=>by
  rw[List.foldl_cons,Hf l];rfl
theorem Zp:∀(l:List (Nat×Int)) (s:List Nat×List Bool),(sz l s).1.length<=s.1.length+l.length/\(sz l s).2.length=s.2.length
 |[],_=>⟨cj _,rfl⟩
 |p::l,s=>by
  obtain⟨q1,aH⟩:=Zp l (mI s.1 s.2 p.1,nL s.2 p.1);have cO:=Xi s.1 s.2 p.1;have dx:=Kq s.2 p.1;have e:sz (p::l) s=sz l (mI s.1 s.2 p.1,nL s.2 p.1):=rfl;rw[e,List.length_cons];dsimp only at q1 aH;exact⟨aj,aH.trans dx⟩
theorem QZ (b:bT) (sh:List Bool) (k j:Nat):(er b sh k j).length<=j:=by
 unfold er xn;exact Nat.le_trans (List.length_filter_le _ _) (O5 _ _ _ _ _)
theorem Q0 (a b c:Nat):gg [.pointer (some ⟨a,0,none⟩),.pointer (some ⟨b,0,none⟩),.pointer (some ⟨c,0,none⟩)]:=⟨rfl,rfl,rfl,trivial⟩
namespace Zq
theorem jt:l0 im 59 {sr:=[60],cells:=[(1039,1,0),(1039,1,1),(1039,1,2)],KB:=[(39,[])]} [0,1,.func (.func 60) ⟨[]⟩ ⟨[2,3]⟩] 5=some (B4.t 60 [2,3]):=oE au
theorem any {W:ax} {g eW mL:Nat} {A:dQ} {e:cC} {x:az} (aI:cG (aG W) (db (cJ g A e++[bs.box eW gR [de g],bs.box mL qj (j4 x)]))) (k:Nat) (af:okB e.b) (al:k<e.u.b8.length) (hl:e.u.b8.length=(ft e.b).toNat) (lz:e.u.aE.length=e.u.b8.length) (BC:e.u.lit.length=e.u.b8.length) (ad:e.u.bH.length<=200000) (ag:e.u.gone.length<=200000) (aq:B3 x.2) (dh:∀n,n<e.u.b8.length->1<=kQ e n/\kQ e n<=16):
  nm im 59 [de g,I (k:Nat),.func (.func 60) #[] ⟨[de eW,de mL]⟩] W (cJ g A e++[bs.box eW gR [de g],bs.box mL qj (j4 x)]) (eD×eD) (λ_=> .tuple #[]) λy=>cJ g {A with o:=y.1,g:=y.2} (yP e (mn e.table e.u.lit x.2 (er e.b e.u.b8 k 6) (e.u.bH,e.u.gone,e.u.aE)))++[bs.box eW gR [de g],bs.box mL qj (j4 x)]:=by
 rw[<-Hd];refine B4.any jt (c2:=de eW) (c3:=de mL) (rW:=de eW) (te:=[de eW,de mL]) (λenv n ag ay _=> ?_) (Q0 _ _ _) (λ_ _=>rfl) (λz (_:cC)=>{A with o:=z.1,g:=z.2}) (λe=>e) (λ_ _=>[bs.box eW gR [de g],bs.box mL qj (j4 x)]) [0,1,2,3,4,5,6,7,8,9,10,11,12,13] (λe p=>Hc e x p.1 p.2) e af al hl (λn=>by rw[Hd]) (λn=>by rw[Hd]) (λn z w cR aI=> ?_) (λ_ _=>rfl) (λ_ _ _ _=>KW (n:=14) U U) (λ_ _=>rfl) (λ_ _=>gG rfl) (A.o,A.g) aI
 ·show [look env n 2,look env n 3]=_
  rw[ag,ay]
 ·have av:=QZ e.b e.u.b8 k n
  have hp:=G2 (b:=e.b) al hl (iM e.b k n);rw[Hd] at aI ⊢;obtain⟨q1,aH,bW⟩:=QY e.table e.u.lit x.2 (er e.b e.u.b8 k n) (e.u.bH,e.u.gone,e.u.aE);dsimp only at q1 aH bW;exact Zm.any aI (b_ e.b (iM e.b k n)) (p7 n) (by show _<(mn e.table e.u.lit x.2 (er e.b e.u.b8 k n) (e.u.bH,e.u.gone,e.u.aE)).2.2.length;rw[bW,lz];exact hp) (by show _<e.u.lit.length;rw[BC];exact hp) (by show (mn e.table e.u.lit x.2 (er e.b e.u.b8 k n) (e.u.bH,e.u.gone,e.u.aE)).1.length<=_;omega) (by show (mn e.table e.u.lit x.2 (er e.b e.u.b8 k n) (e.u.bH,e.u.gone,e.u.aE)).2.1.length<=_;omega) aq (dh _ hp)
end Zq
namespace Zr
theorem jt:l0 im 59 {sr:=[66],cells:=[(1039,1,0),(1039,1,1),(1039,1,2)],KB:=[(39,[])]} [0,1,.func (.func 66) ⟨[]⟩ ⟨[2]⟩] 5=some (B4.t 66 [2]):=oE au
theorem any {W:ax} {g eW:Nat} {A:dQ} {e:cC} (aI:cG (aG W) (db (cJ g A e++[bs.box eW gR [de g]]))) (k:Nat) (af:okB e.b) (al:k<e.u.b8.length) (hl:e.u.b8.length=(ft e.b).toNat) (hw:e.u.waits.length=e.u.b8.length) (ad:e.u.bw.length<=200000):
  nm im 59 [de g,I (k:Nat),.func (.func 66) #[] ⟨[de eW]⟩] W (cJ g A e++[bs.box eW gR [de g]]) eD (λ_=> .tuple #[]) λy=>cJ g {A with s:=y} (He e (sz (er e.b e.u.b8 k 6) (e.u.bw,e.u.waits)))++[bs.box eW gR [de g]]:=by
 rw[<-Hf];refine B4.any jt (c2:=de eW) (c3:=de eW) (rW:=de eW) (te:=[de eW]) (λenv n ag _ _=> ?_) (Q0 _ _ _) (λ_ _=>rfl) (λz (_:cC)=>{A with s:=z}) (λe=>e) (λ_ _=>[bs.box eW gR [de g]]) [0,1,2,3,4,5,6,7,8,9,10,11,12] (λe p=>xp e p.1) e af al hl (λn=>by rw[Hf]) (λn=>by rw[Hf]) (λn z w cR aI=> ?_) (λ_ _=>rfl) (λ_ _ _ _=>KW (n:=13) U U) (λ_ _=>rfl) (λ_ _=>gG rfl) A.s aI
 ·show [look env n 2]=_
  rw[ag]
 ·have av:=QZ e.b e.u.b8 k n
  have hp:=G2 (b:=e.b) al hl (iM e.b k n);rw[Hf] at aI ⊢;obtain⟨q1,aH⟩:=Zp (er e.b e.u.b8 k n) (e.u.bw,e.u.waits);dsimp only at q1 aH;exact Zk.any aI (b_ e.b (iM e.b k n)) (p7 n) (by show _<(sz (er e.b e.u.b8 k n) (e.u.bw,e.u.waits)).2.length;rw[aH,hw];exact hp) (by show (sz (er e.b e.u.b8 k n) (e.u.bw,e.u.waits)).1.length<=_;omega)
end Zr
end AE
end
end
section
noncomputable section
namespace AE
abbrev tB:aK:=3
def wc (F:Int) (out x:bO) (fH:Int) (i:Nat):bO:=rq λc=>if c<i then YW F out x fH c else cl out c
theorem aj5 {F:Int} {out x:bO} {fH:Int}:wc F out x fH 0=out:=bO.ext' λc ar=>by
 unfold wc;rw[iU ar,a' aj]
theorem aj6 {F:Int} {out x:bO} {fH:Int}:wc F out x fH 4=BZ F out x fH:=bO.ext' λc ar=>by
 unfold wc BZ;rw[iU ar,iU ar,aY ar]
theorem aj7 {F:Int} {out x:bO} {fH:Int} {i:Nat} (h:i<4):cl (wc F out x fH i) i=cl out i:=by
 unfold wc;rw[iU h,a' aj]
theorem aj8 {F:Int} {out x:bO} {fH:Int} {i:Nat}:tA (wc F out x fH i) i (max (cl out i) (given (cl x i) F i (decide (0<fH))))=wc F out x fH (i+1):=bO.ext' λc ar=>by
 unfold tA wc;rw[iU ar,iU ar,iU ar];by_cases ai:c=i
 ·subst ai;rw[aY rfl,aY aj];rfl
 ·rw[a' ai]
  by_cases hl:c<i
  ·rw[aY hl,aY aj]
  ·rw[a' hl,a' aj]
namespace Zs
def t:bZ:=
.loop [I 0] 1<|
.o (.bin .lss 3 5 (I 4)) 6 1 []<|
.fR 6 (
 .o (.dG 85 2 5) 7 1 [1,4,3,1]<|
 .o (.bA 3 7) 8 1 [1]<|
 .o (.bA 34 3) 9 1 [1]<|
 .o (.dM 9) 10 1 []<|
 .o (.cn 80 10 5) 11 1 [17,45,1]<|
 .o (.bA 45 11) 12 1 [1]<|
 .o (.dG 45 12 0) 13 1 [0,85,4]<|
 .o (.dG 85 13 5) 14 1 [1,4,3,1]<|
 .o (.bA 3 14) 15 1 [1]<|
 .o (.bA 3 4) 16 1 [1]<|
 .o (.bin .gtr 3 1 (I 0)) 17 1 []<|
 .c 62 [15,16,5,17] 18 1<|
 .o (.eY #[3,3] 3 8 18) 19 1 []<|
 .st 3 7 19<|
 .o (.bin .add 3 5 (I 1)) 20 1 []<|
 .back [20]) (
 .gD<|
 .ret (.tuple ⟨[]⟩))
theorem jt:l0 Tryd.prog 88 {} [0,1,2,3,4] 5=some t:=oE au
theorem any {W:ax} {g go eW pc:Nat} {A:dQ} {e:cC} {out:bO} {F:Int} (aI:cG (aG W) (db (cJ g A e++[bs.box go nP (dJ out),bs.box eW gR [de g],bs.box pc tB [I F]]))) (k:Nat) (fH:Int) (al:k<e.u.aE.length) (af:B3 (e.u.aE.getD k default)) (dh:1<=F/\F<=16):
  nm im 88 [I (k:Nat),I fH,de go,de eW,de pc] W (cJ g A e++[bs.box go nP (dJ out),bs.box eW gR [de g],bs.box pc tB [I F]]) Unit (λ_=> .tuple #[]) λ_=>cJ g A e++[bs.box go nP (dJ (BZ F out (e.u.aE.getD k default) fH)),bs.box eW gR [de g],bs.box pc tB [I F]]:=by
 refine qf (ro:=[]) mixed jt [I (k:Nat),I fH,de go,de eW,de pc] aI hi.none ?_;unfold t;generalize nT:e.u.aE.getD k default=gD at af ⊢;refine BR Nat (λi=>[I (i:Nat)]) (λi=>cJ g A e++[bs.box go nP (dJ (wc F out gD fH i)),bs.box eW gR [de g],bs.box pc tB [I F]]) (λi=>i<=4) (λi=>4-i) 0 rfl (by rw[aj5]) aj (λi ai=> ?_);refine dn ?_;refine oG rfl (λbG=> ?_) λbG=> ?_
 ·have l3:i<4:=by omega
  refine dn ?_;refine BP (u:=I (cl out i)) rfl has (by rw[<-aj7 (F:=F) (x:=gD) (fH:=fH) l3];exact Ad l3) ?_;refine dn ?_;refine BO (K:=jN) (l:=e.u.aE) (j:=k) (o:=0+i*1) (u:=I (cl gD i)) rfl (by rw[<-nT];exact Ad l3) ?_;refine dn ?_;refine o8 (v:=I (given (cl gD i) F i (decide (0<fH)))) (λw hw=>K9.any w (cl gD i) F i (decide (0<fH)) (by have:=af i l3;omega) (by have:=af i l3;omega) aj aj) ?_;refine dn ?_;refine YF (cs':=dJ (wc F out gD fH (i+1))) U U lI ?_ ?_ (by show 0+i*1<4;omega)
  ·rw[<-aj8]
   exact K_ l3 _
  refine dn ?_;exact sw (i+1) U U aj aj
 ·refine dn ?_
  obtain rfl:i=4:=by omega
  refine qe ⟨(),rfl,?_⟩;rw[aj6]
end Zs
namespace Q1
theorem jt:l0 im 59 {sr:=[88],cells:=[(1039,1,0),(1039,1,1),(1039,1,2)],KB:=[(39,[])]} [0,1,.func (.func 88) ⟨[]⟩ ⟨[2,3,4]⟩] 5=some (B4.t 88 [2,3,4]):=oE au
theorem any {W:ax} {g go eW pc:Nat} {A:dQ} {e:cC} {out:bO} {F:Int} (aI:cG (aG W) (db (cJ g A e++[bs.box go nP (dJ out),bs.box eW gR [de g],bs.box pc tB [I F]]))) (k:Nat) (af:okB e.b) (al:k<e.u.b8.length) (hl:e.u.b8.length=(ft e.b).toNat) (lz:e.u.aE.length=e.u.b8.length) (hL:∀n,n<e.u.b8.length->B3 (e.u.aE.getD n default)) (dh:1<=F/\F<=16):
  nm im 59 [de g,I (k:Nat),.func (.func 88) #[] ⟨[de go,de eW,de pc]⟩] W (cJ g A e++[bs.box go nP (dJ out),bs.box eW gR [de g],bs.box pc tB [I F]]) Unit (λ_=> .tuple #[]) λ_=>cJ g A e++[bs.box go nP (dJ (sA F e.u.aE (er e.b e.u.b8 k 6) out)),bs.box eW gR [de g],bs.box pc tB [I F]]:=by
 refine B4.any jt (c2:=de go) (c3:=de eW) (rW:=de pc) (te:=[de go,de eW,de pc]) (λenv n ag ay bG=> ?_) (Q0 _ _ _) (λ_ _=>rfl) (λ(_:Unit) (_:bO)=>A) (λ_=>e) (λ_ o=>[bs.box go nP (dJ o),bs.box eW gR [de g],bs.box pc tB [I F]]) [0,1,2,3,4,5,6,7,8,9,10,11,12,13,14] (λo p=>BZ F o (e.u.aE.getD p.1 default) p.2) out af al hl (λn=>rfl) (λn=>rfl) (λn z w cR aI=> ?_) (λ_ _=>rfl) (λ_ _ _ _=>KW (n:=15) U U) (λ_ _=>rfl) (λ_ _=>gG rfl) () aI
 ·show [look env n 2,look env n 3,look env n 4]=_
  rw[ag,ay,bG]
 ·have hp:=G2 (b:=e.b) al hl (iM e.b k n)
  exact Zs.any aI (b_ e.b (iM e.b k n)) (p7 n) (by rw[lz];exact hp) (hL _ hp) dh
end Q1
namespace Zt
def t:bZ:=
.tm 34 0<|
.qN 85<|
.qN 85<|
.o (.bA 34 2) 5 1 [1]<|
.o (.dM 5) 6 1 []<|
.o (.cn 80 6 3) 7 1 [15,30,1]<|
.o (.bA 30 7) 8 1 [1]<|
.o (.dG 30 8 1) 9 1 [0,4,1]<|
.o (.bA 4 9) 10 1 [1]<|
.o (.un .not 10) 11 1 []<|
.fR 11 (
 .o (.bA 85 4) (.agg ⟨lZ 4 12⟩) 4 [4]<|
 .st 85 3 (.agg ⟨[12,13,14,15]⟩)<|
 .tn 85 3) (
 .o (.bA 34 2) 12 1 [1]<|
 .o (.dM 12) 13 1 []<|
 .o (.cn 80 13 4) 14 1 [16,29,1]<|
 .o (.bA 29 14) 15 1 [1]<|
 .o (.cn 80 13 1) 16 1 [7,28,7]<|
 .o (.cn 28 16 1) 17 1 [6,26,1]<|
 .o (.bA 26 17) 18 1 [1]<|
 .o (.dG 26 18 1) 19 1 [0,3,1]<|
 .o (.bA 3 19) 20 1 [1]<|
 .c 87 [15,20] (.agg ⟨[21,22,23]⟩) 3<|
 .o (.mb 85 4 none none none) 24 1 [1,4,3,1]<|
 .sd 26 24 [21,22,23]<|
 .o (.bA 34 2) 25 1 [1]<|
 .call 61 [25,1] 26 1<|
 .qN 3<|
 .st 3 27 26<|
 .o (.bA 34 2) 28 1 [1]<|
 .o (.dM 28) 29 1 []<|
 .o (.cn 80 29 1) 30 1 [7,28,7]<|
 .o (.cn 28 30 0) 31 1 [0,25,6]<|
 .o (.bA 25 31) (.agg ⟨lZ 6 32⟩) 6 [6]<|
 .c 84 [.agg ⟨[32,33,34,35,36,37]⟩,1] (.tuple ⟨[.agg ⟨[38,39,40]⟩,41]⟩) 4<|
 .o (.cn 25 31 1) 42 1 [3,23,3]<|
 .o (.cn 23 42 2) 43 1 [2,3,1]<|
 .o (.bA 3 43) 44 1 [1]<|
 .o (.bin .sub 3 44 (I 1)) 45 1 []<|
 .o (.bin .eql 3 40 45) 46 1 []<|
 .fR 46 (
  .o (.bA 3 27) 47 1 [1]<|
  .c 62 [I 15,47,I 3,.bool true] 48 1<|
  .o (.dG 85 4 (I 3)) 49 1 [1,4,3,1]<|
  .st 3 49 48<|
  .o (.bA 34 2) 50 1 [1]<|
  .call 59 [50,1,.func (.func 88) ⟨[]⟩ ⟨[4,2,27]⟩] (.tuple ⟨[]⟩) 0<|
  .o (.bA 85 4) (.agg ⟨lZ 4 51⟩) 4 [4]<|
  .st 85 3 (.agg ⟨[51,52,53,54]⟩)<|
  .tn 85 3) (
  .o (.bA 34 2) 47 1 [1]<|
  .call 59 [47,1,.func (.func 88) ⟨[]⟩ ⟨[4,2,27]⟩] (.tuple ⟨[]⟩) 0<|
  .o (.bA 85 4) (.agg ⟨lZ 4 48⟩) 4 [4]<|
  .st 85 3 (.agg ⟨[48,49,50,51]⟩)<|
  .tn 85 3))
theorem jt:l0 Tryd.prog 65 {sr:=[59,61],marks:=[34,85,3]} [0,1] 2=some t:=oE au
theorem any {W:ax} {g:Nat} {A:dQ} {e:cC} (aI:cG (aG W) (db (cJ g A e))) (k:Nat) (af:okB e.b) (al:k<e.u.b8.length) (hl:e.u.b8.length=(ft e.b).toNat) (lz:e.u.aE.length=e.u.b8.length) (BC:e.u.lit.length=e.u.b8.length) (hL:∀n,n<e.u.b8.length->B3 (e.u.aE.getD n default)) (dh:1<=kQ e k/\kQ e k<=16):
  nm im 65 [de g,I (k:Nat)] W (cJ g A e) Unit (λ_=> .agg ⟨dJ (v_ e.table e.u.lit e.u.aE e.u.b8 e.b k)⟩) λ_=>cJ g A e:=by
 have aC:0<=((k:Nat):Int)/\((k:Nat):Int)<ft e.b:=YY al hl;have Pg:=Y0 af (k:Nat);have na:k<e.u.lit.length:=by omega
 refine qf (ro:=[]) mixed jt [de g,I (k:Nat)] aI hi.none ?_;unfold t;refine Qq (cs:=[de g]) U U (λb=>vX) λeW=> ?_
 refine D7 (z:= .agg ⟨dJ z4⟩) (dJ z4) au rfl (λb=>vX) λgr=> ?_
 refine D7 (z:= .agg ⟨dJ z4⟩) (dJ z4) au rfl (λb=>vX) λgo=> ?_
 refine dn ?_;refine GR rfl (λpT=> ?_) λpT=> ?_
 ·have aw:¬e.u.b8.getD k default=true:=by simpa using pT
  refine yG (c:=dJ z4) rfl has U U o7 ?_;refine GX (m:=4) (us:=dJ z4) (cs':=dJ z4) U U lI rfl ?_;refine Qp (L':=cJ g A e) rfl has (λM bt=>bt.pick mo rfl) ⟨(),?_,rfl⟩;rw[aju aw]
 ·have aw:e.u.b8.getD k default=true:=by simpa using pT
  refine dn ?_;refine Qr [I (gF (eG e.table (e.u.lit.getD k default)) 0),I (gF (eG e.table (e.u.lit.getD k default)) 1),I (gF (eG e.table (e.u.lit.getD k default)) 2)] (λw hw=>Zj.any w ((nk.arr (K:=yO) (l:=e.table) has).at hw) _) rfl ?_;refine ai5 rfl ?_;refine aiZ (e:=tB) (us:=[I (gF (eG e.table (e.u.lit.getD k default)) 0),I (gF (eG e.table (e.u.lit.getD k default)) 1),I (gF (eG e.table (e.u.lit.getD k default)) 2)]) (cs':=dJ (gF (eG e.table (e.u.lit.getD k default)) 0,gF (eG e.table (e.u.lit.getD k default)) 1,gF (eG e.table (e.u.lit.getD k default)) 2,0)) U U lI rfl ?_;refine dn ?_;refine n9 (lF:=cJ g A e) (L':=λ_=>cJ g A e++[bs.box eW gR [de g],bs.box gr nP (dJ z4),bs.box go nP (dJ (gF (eG e.table (e.u.lit.getD k default)) 0,gF (eG e.table (e.u.lit.getD k default)) 1,gF (eG e.table (e.u.lit.getD k default)) 2,0))]) mo (λ_=>[I (kQ e k)]) (λw hw aI=>QU.any aI k na) (λ_=> ?_);refine D7 (z:=I 0) [I 0] au rfl (λb=>vX) λpc=> ?_
  refine GV U U lI GU ?_;refine dn ?_;refine yG (c:=Ea e.b) rfl has U U o7 ?_;refine Qr [I (fp e.b (k:Nat)).1,I (fp e.b (k:Nat)).2.1,I (fp e.b (k:Nat)).2.2,.bool (decide (0<=((k:Nat):Int)/\((k:Nat):Int)<ft e.b))] (λw _=>QQ.any w e.b (k:Nat) af) rfl ?_;unfold okB at af;refine dn ?_;have af:okB e.b:=af;refine oG rfl (λaL=> ?_) λaL=> ?_
  ·refine dn ?_
   refine o8 (v:=I (given 15 (kQ e k) 3 true)) (λw hw=>K9.any w 15 (kQ e k) 3 true cB cB aj aj) ?_;refine YD (j:=3) U U ?_;refine dn ?_;refine n9 (lF:=cJ g A e++[bs.box go nP (dJ (gF (eG e.table (e.u.lit.getD k default)) 0,gF (eG e.table (e.u.lit.getD k default)) 1,gF (eG e.table (e.u.lit.getD k default)) 2,given 15 (kQ e k) 3 true)),bs.box eW gR [de g],bs.box pc tB [I (kQ e k)]]) (L':=λ_=>cJ g A e++[bs.box eW gR [de g],bs.box gr nP (dJ z4),bs.box go nP (dJ (sA (kQ e k) e.u.aE (er e.b e.u.b8 k 6) (gF (eG e.table (e.u.lit.getD k default)) 0,gF (eG e.table (e.u.lit.getD k default)) 1,gF (eG e.table (e.u.lit.getD k default)) 2,given 15 (kQ e k) 3 true))),bs.box pc tB [I (kQ e k)]]) [0,1,2,3,4,5,6,7,8,9,10,11,14,12,15] (λ_=>[]) (λw hw aI=>Q1.any aI k af al hl lz hL dh) (λ_=> ?_);refine yG (c:=dJ (sA (kQ e k) e.u.aE (er e.b e.u.b8 k 6) (gF (eG e.table (e.u.lit.getD k default)) 0,gF (eG e.table (e.u.lit.getD k default)) 1,gF (eG e.table (e.u.lit.getD k default)) 2,given 15 (kQ e k) 3 true))) rfl has U U o7 ?_;refine GX (m:=4) (us:=dJ (sA (kQ e k) e.u.aE (er e.b e.u.b8 k 6) (gF (eG e.table (e.u.lit.getD k default)) 0,gF (eG e.table (e.u.lit.getD k default)) 1,gF (eG e.table (e.u.lit.getD k default)) 2,given 15 (kQ e k) 3 true))) (cs':=dJ (sA (kQ e k) e.u.aE (er e.b e.u.b8 k 6) (gF (eG e.table (e.u.lit.getD k default)) 0,gF (eG e.table (e.u.lit.getD k default)) 1,gF (eG e.table (e.u.lit.getD k default)) 2,given 15 (kQ e k) 3 true))) U U lI rfl ?_;refine Qp (L':=cJ g A e) rfl has (λM bt=>bt.pick mo rfl) ⟨(),?_,rfl⟩;rw[ajv aw aL]
  ·refine dn ?_
   refine n9 (lF:=cJ g A e++[bs.box go nP (dJ (gF (eG e.table (e.u.lit.getD k default)) 0,gF (eG e.table (e.u.lit.getD k default)) 1,gF (eG e.table (e.u.lit.getD k default)) 2,0)),bs.box eW gR [de g],bs.box pc tB [I (kQ e k)]]) (L':=λ_=>cJ g A e++[bs.box eW gR [de g],bs.box gr nP (dJ z4),bs.box go nP (dJ (sA (kQ e k) e.u.aE (er e.b e.u.b8 k 6) (gF (eG e.table (e.u.lit.getD k default)) 0,gF (eG e.table (e.u.lit.getD k default)) 1,gF (eG e.table (e.u.lit.getD k default)) 2,0))),bs.box pc tB [I (kQ e k)]]) [0,1,2,3,4,5,6,7,8,9,10,11,14,12,15] (λ_=>[]) (λw hw aI=>Q1.any aI k af al hl lz hL dh) (λ_=> ?_);refine yG (c:=dJ (sA (kQ e k) e.u.aE (er e.b e.u.b8 k 6) (gF (eG e.table (e.u.lit.getD k default)) 0,gF (eG e.table (e.u.lit.getD k default)) 1,gF (eG e.table (e.u.lit.getD k default)) 2,0))) rfl has U U o7 ?_;refine GX (m:=4) (us:=dJ (sA (kQ e k) e.u.aE (er e.b e.u.b8 k 6) (gF (eG e.table (e.u.lit.getD k default)) 0,gF (eG e.table (e.u.lit.getD k default)) 1,gF (eG e.table (e.u.lit.getD k default)) 2,0))) (cs':=dJ (sA (kQ e k) e.u.aE (er e.b e.u.b8 k 6) (gF (eG e.table (e.u.lit.getD k default)) 0,gF (eG e.table (e.u.lit.getD k default)) 1,gF (eG e.table (e.u.lit.getD k default)) 2,0))) U U lI rfl ?_;refine Qp (L':=cJ g A e) rfl has (λM bt=>bt.pick mo rfl) ⟨(),?_,rfl⟩;rw[ajw aw aL]
end Zt
end AE
end
end
namespace AE
@[reducible] def oK (b:bT) (v:J):J:= .agg ⟨[.int .i64 b.1,.int .i64 b.2.1,.int .i64 b.2.2.1,.int .i64 b.2.2.2.1,.int .i64 b.2.2.2.2.1,.int .i64 b.2.2.2.2.2,v]⟩
theorem aj9 {α:Type} {P:aR} {f:FuncId} {args:Array J} {w:ax} {e:aK} {k:Nat} {enc:α->List J} {l:List α} {L:List cc} {F:J->J} (aw:cG (aG w) L)
  (h:Calls P f args w λe' w'=>(∃a c,e'= .returned (F (.slice a l.length c))/\dw w.heap.size (aG w') e k enc (.slice a l.length c) l)/\cg w.heap.size w w'):
  Calls P f args w λe' w'=>(∃y:Option Addr×Nat,e'= .returned (F (.slice y.1 l.length y.2))/\cV (aG w) L (aG w') (L++[ht e k enc (.slice y.1 l.length y.2) l]))/\cg 0 w w':=
 h.mono λe' w' he=>by
   obtain⟨⟨a,c,rfl,cM⟩,hl⟩:=he;have t:cV (aG w) [] (aG w') [ht e k enc (.slice a l.length c) l]:=⟨cG.one (sc cM),λi o ai _=>by
    rw[show aG w' i=aG w i from hl.block i (Array.getElem?_eq_some_iff.1 ai).1]
    exact ai,λb af=> .inr (Array.getElem?_eq_none_iff.2 (cM.known b (p4.1 af)).2)⟩
   exact⟨⟨(a,c),rfl,(aw.own.new t).Gh⟩,hl.zero⟩
theorem Zu {α:Type} (M:Mem) (e:aK) (k:Nat) (enc:α->List J):cV M [] M [ht e k enc (.slice none 0 0) []]:=
 ⟨cG.one (sc (dw.nil 0 M e k enc none)),λ_ _ h _=>h,λb af=>by
   have:some b=eP (.slice none 0 0):=p4.1 af
   cases this⟩
theorem Q2 {α:Type} (M:Mem) (e:aK) (k:Nat) (enc:α->List J):cV M [] M [nI e k enc (.slice none 0 0) []]:=
 ⟨cG.one (Wq (dw.nil 0 M e k enc none).queue),λ_ _ h _=>h,λb af=>by
   have:some b=eP (.slice none 0 0):=p4.1 af
   cases this⟩
end AE
section
noncomputable section
namespace AE
theorem Zv {x:bO} (h:0<=x.1/\x.1<=15/\0<=x.2.1/\x.2.1<=15/\0<=x.2.2.1/\x.2.2.1<=15/\0<=x.2.2.2/\x.2.2.2<=15):B3 x:=λc ar=>by
 obtain⟨h0,ad,ag,ay,bG,cE,cR,fS⟩:=h
 match c,ar with
 |0,_=>exact⟨h0,ad⟩
 |1,_=>exact⟨ag,ay⟩
 |2,_=>exact⟨bG,cE⟩
 |3,_=>exact⟨cR,fS⟩
theorem Zw {N eJ:bO} {i:Nat} (h:i<4):cl (lj i N eJ) i=cl eJ i:=by
 unfold lj;rw[iU h,a' aj]
theorem Zx {N eJ:bO} {i:Nat}:tA (lj i N eJ) i (max (cl N i) (cl eJ i))=lj (i+1) N eJ:=bO.ext' λc ar=>by
 unfold tA lj;rw[iU ar,iU ar,iU ar];by_cases ai:c=i
 ·subst ai;rw[aY rfl,aY aj]
 ·rw[a' ai]
  by_cases hl:c<i
  ·rw[aY hl,aY aj]
  ·rw[a' hl,a' aj]
theorem Zy {N eJ:bO} {i:Nat} (h:i<4):wa (i+1) N eJ=(wa i N eJ||decide (cl eJ i<cl N i)):=by
 match i,h with
 |0,_=>simp [wa,cl]
 |1,_=>simp [wa,cl]
 |2,_=>simp [wa,cl]
 |3,_=>simp [wa,cl]
theorem Zz:∀(l:List Nat) (s:List Nat×List Bool),(mK l s).1.length<=s.1.length+l.length/\(mK l s).2.length=s.2.length
 |[],_=>⟨cj _,rfl⟩
 |k::l,s=>by
  obtain⟨q1,aH⟩:=Zz l (mI s.1 s.2 k,nL s.2 k);have cO:=Xi s.1 s.2 k;have dx:=Kq s.2 k;have e:mK (k::l) s=mK l (mI s.1 s.2 k,nL s.2 k):=rfl;rw[e,List.length_cons];dsimp only at q1 aH;exact⟨aj,aH.trans dx⟩
theorem aj' {B:Nat} {dE:Mem} {az:List cc} {M:Mem} {L L':List (bs im)} (d:Nat) {K:js im} {r:bs im} (fo:pI L d r (.arr K (.slice none 0 0) []) L') (h:bI B dE az M (db L)):bI B dE az M (db L'):=by
 obtain⟨ai,rfl⟩:=fo.get;rw[vV];have t:=Zu M K.e K.k K.enc;refine h.lV d (lY ai) ⟨t.sp,λi o ai _=>ai,λb af=> ?_⟩;rcases t.fresh b af with ad|ad
 ·exact absurd ad (Bn b)
 ·exact .inr ad
namespace Q3
def t:bZ:=
.o (.dM 0) 1 1 []<|
.o (.cn 76 1 0) 2 1 [0,74,1]<|
.o (.bA 74 2) 3 1 [1]<|
.o (.len #[74] 3 3) 4 1 [0,87]<|
.o (.bin .eql 3 4 (I 0)) 5 1 []<|
.ret 5
theorem jt:l0 Tryd.prog 37 {} [0] 1=some t:=oE au
theorem any {W:ax} {g:Nat} {A:dQ} {e:cC} (aI:cG (aG W) (db (cJ g A e))):nm im 37 [.pointer (some ⟨g,20,none⟩)] W (cJ g A e) Unit (λ_=> .bool (decide (((e.u.bH.length:Nat):Int)=0))) λ_=>cJ g A e:=by
 refine qf (ro:=[]) mixed jt [.pointer (some ⟨g,20,none⟩)] aI hi.none ?_;unfold t;refine dn ?_;exact qe ⟨(),rfl,rfl⟩
end Q3
namespace ZA
def t:bZ:=
.o (.dM 0) 1 1 []<|
.o (.cn 78 1 0) 2 1 [0,26,1]<|
.o (.bA 26 2) 3 1 [1]<|
.o (.len #[26] 3 3) 4 1 [0,3]<|
.o (.bin .eql 3 4 (I 0)) 5 1 []<|
.ret 5
theorem jt:l0 Tryd.prog 38 {} [0] 1=some t:=oE au
theorem any {W:ax} {g:Nat} {A:dQ} {e:cC} (aI:cG (aG W) (db (cJ g A e))):nm im 38 [.pointer (some ⟨g,22,none⟩)] W (cJ g A e) Unit (λ_=> .bool (decide (((e.u.bw.length:Nat):Int)=0))) λ_=>cJ g A e:=by
 refine qf (ro:=[]) mixed jt [.pointer (some ⟨g,22,none⟩)] aI hi.none ?_;unfold t;refine dn ?_;exact qe ⟨(),rfl,rfl⟩
end ZA
namespace ZB
def t:bZ:=
.o (.dM 0) 1 1 []<|
.o (.cn 73 1 0) 2 1 [0,71,1]<|
.o (.bA 71 2) 3 1 [1]<|
.o (.len #[71] 3 3) 4 1 [0,89]<|
.o (.bin .eql 3 4 (I 0)) 5 1 []<|
.ret 5
theorem jt:l0 Tryd.prog 39 {} [0] 1=some t:=oE au
theorem any {W:ax} {g:Nat} {A:dQ} {e:cC} (aI:cG (aG W) (db (cJ g A e))):nm im 39 [.pointer (some ⟨g,19,none⟩)] W (cJ g A e) Unit (λ_=> .bool (decide (((e.u.reqs.length:Nat):Int)=0))) λ_=>cJ g A e:=by
 refine qf (ro:=[]) mixed jt [.pointer (some ⟨g,19,none⟩)] aI hi.none ?_;unfold t;refine dn ?_;exact qe ⟨(),rfl,rfl⟩
end ZB
end AE
end
end
section
noncomputable section
namespace AE
@[reducible] def xr (e:cC):cC:={e with u:=(gS e.table e.b e.u).2}
namespace ZC
def t:bZ:=
.tm 34 0<|
.o (.bA 34 1) 2 1 [1]<|
.o (.dM 2) 3 1 []<|
.o (.cn 80 3 8) 4 1 [20,76,1]<|
.call 37 [4] 5 1<|
.o (.un .not 5) 6 1 []<|
.fR 6 (
 .o (.bA 34 1) 7 1 [1]<|
 .o (.dM 7) 8 1 []<|
 .o (.cn 80 8 8) 9 1 [20,76,1]<|
 .call 58 [9] (.agg ⟨[10,11,12,13,14]⟩) 5<|
 .qN 87<|
 .st 87 15 (.agg ⟨[10,11,12,13,14]⟩)<|
 .o (.bA 34 1) 16 1 [1]<|
 .o (.cn 87 15 0) 17 1 [0,3,1]<|
 .o (.bA 3 17) 18 1 [1]<|
 .call 59 [16,18,.func (.func 60) ⟨[]⟩ ⟨[1,15]⟩] (.tuple ⟨[]⟩) 0<|
 .o (.bA 34 1) 19 1 [1]<|
 .o (.dM 19) 20 1 []<|
 .o (.cn 80 20 8) 21 1 [20,76,1]<|
 .call 37 [21] 22 1<|
 .fR 22 (
  .o (.bA 34 1) 23 1 [1]<|
  .o (.dM 23) 24 1 []<|
  .o (.cn 80 24 9) 25 1 [21,26,1]<|
  .o (.bA 26 25) 26 1 [1]<|
  .o (.len #[26] 3 26) 27 1 [0,3]<|
  .loop [I 0] 1<|
  .o (.bin .lss 3 28 27) 29 1 []<|
  .fR 29 (
   .o (.dG 26 26 28) 30 1 [0,3,1]<|
   .o (.bA 3 30) 31 1 [1]<|
   .o (.bA 34 1) 32 1 [1]<|
   .call 35 [32,31] (.tuple ⟨[]⟩) 0<|
   .o (.bin .add 3 28 (I 1)) 33 1 []<|
   .back [33]) (
   .gD<|
   .o (.bA 34 1) 30 1 [1]<|
   .o (.dM 30) 31 1 []<|
   .o (.cn 80 31 9) 32 1 [21,26,1]<|
   .st 26 32 (.slice none 0 0)<|
   .ret (.bool true))) (
  .ret (.bool true))) (
 .o (.bA 34 1) 7 1 [1]<|
 .o (.dM 7) 8 1 []<|
 .o (.cn 80 8 10) 9 1 [22,78,1]<|
 .call 38 [9] 10 1<|
 .o (.un .not 10) 11 1 []<|
 .fR 11 (
  .o (.bA 34 1) 12 1 [1]<|
  .o (.dM 12) 13 1 []<|
  .o (.cn 80 13 10) 14 1 [22,78,1]<|
  .call 64 [14] 15 1<|
  .o (.bA 34 1) 16 1 [1]<|
  .o (.dM 16) 17 1 []<|
  .o (.cn 80 17 11) 18 1 [23,30,1]<|
  .o (.bA 30 18) 19 1 [1]<|
  .o (.dG 30 19 15) 20 1 [0,4,1]<|
  .st 4 20 (.bool false)<|
  .o (.bA 34 1) 21 1 [1]<|
  .call 65 [21,15] (.agg ⟨[22,23,24,25]⟩) 4<|
  .qN 85<|
  .st 85 26 (.agg ⟨[22,23,24,25]⟩)<|
  .loop [I 0,.bool false] 2<|
  .o (.bin .lss 3 27 (I 4)) 29 1 []<|
  .fR 29 (
   .fR 28 (
    .o (.bA 34 1) 30 1 [1]<|
    .o (.dM 30) 31 1 []<|
    .o (.cn 80 31 5) 32 1 [17,45,1]<|
    .o (.bA 45 32) 33 1 [1]<|
    .o (.dG 85 26 27) 34 1 [1,4,3,1]<|
    .o (.bA 3 34) 35 1 [1]<|
    .o (.dG 45 33 15) 36 1 [0,85,4]<|
    .o (.dG 85 36 27) 37 1 [1,4,3,1]<|
    .o (.bA 3 37) 38 1 [1]<|
    .o (.eY #[3,3] 3 35 38) 39 1 []<|
    .st 3 37 39<|
    .o (.bin .add 3 27 (I 1)) 40 1 []<|
    .back [40,.bool true]) (
    .o (.dG 85 26 27) 30 1 [1,4,3,1]<|
    .o (.bA 3 30) 31 1 [1]<|
    .o (.bA 34 1) 32 1 [1]<|
    .o (.dM 32) 33 1 []<|
    .o (.cn 80 33 5) 34 1 [17,45,1]<|
    .o (.bA 45 34) 35 1 [1]<|
    .o (.dG 45 35 15) 36 1 [0,85,4]<|
    .o (.dG 85 36 27) 37 1 [1,4,3,1]<|
    .o (.bA 3 37) 38 1 [1]<|
    .o (.bin .gtr 3 31 38) 39 1 []<|
    .o (.eY #[3,3] 3 31 38) 40 1 []<|
    .st 3 37 40<|
    .o (.bin .add 3 27 (I 1)) 41 1 []<|
    .back [41,39])) (
   .gD<|
   .fR 28 (
    .o (.bA 34 1) 30 1 [1]<|
    .call 59 [30,15,.func (.func 66) ⟨[]⟩ ⟨[1]⟩] (.tuple ⟨[]⟩) 0<|
    .ret (.bool true)) (
    .ret (.bool true)))) (
  .o (.bA 34 1) 12 1 [1]<|
  .o (.dM 12) 13 1 []<|
  .o (.cn 80 13 7) 14 1 [19,73,1]<|
  .call 39 [14] 15 1<|
  .o (.un .not 15) 16 1 []<|
  .fR 16 (
   .o (.bA 34 1) 17 1 [1]<|
   .o (.dM 17) 18 1 []<|
   .o (.cn 80 18 7) 19 1 [19,73,1]<|
   .call 67 [19] (.agg ⟨[20,21,22]⟩) 3<|
   .o (.bA 34 1) 23 1 [1]<|
   .o (.dM 23) 24 1 []<|
   .o (.cn 80 24 5) 25 1 [17,45,1]<|
   .o (.bA 45 25) 26 1 [1]<|
   .o (.dG 45 26 20) 27 1 [0,85,4]<|
   .o (.bA 85 27) (.agg ⟨lZ 4 28⟩) 4 [4]<|
   .call 63 [23,20,.agg ⟨[28,29,30,31]⟩] (.tuple ⟨[]⟩) 0<|
   .o (.bA 34 1) 32 1 [1]<|
   .o (.dM 32) 33 1 []<|
   .o (.cn 80 33 1) 34 1 [7,28,7]<|
   .o (.cn 28 34 1) 35 1 [6,26,1]<|
   .o (.bA 26 35) 36 1 [1]<|
   .o (.cn 80 33 3) 37 1 [15,30,1]<|
   .o (.bA 30 37) 38 1 [1]<|
   .o (.dG 26 36 20) 39 1 [0,3,1]<|
   .o (.dG 30 38 20) 40 1 [0,4,1]<|
   .st 3 39 21<|
   .o (.dG 30 38 20) 41 1 [0,4,1]<|
   .st 4 41 22<|
   .ret (.bool true)) (
   .ret (.bool false))))
theorem jt:l0 Tryd.prog 36 {sr:=[58,64,67,37,38,39,59,65,35,63],marks:=[34,85,87]} [0] 1=some t:=oE au
theorem any {W:ax} {g:Nat} {A:dQ} {e:cC} (aI:cG (aG W) (db (cJ g A e))) (G:gp e.table e.b e.u):
  nm im 36 [de g] W (cJ g A e) dQ (λ_=> .bool (gS e.table e.b e.u).1) λbh=>cJ g bh (xr e):=by
 have af:=G.box;have hl:=G.len;have lz:=G.G_;have BC:=G.G';have hw:=G.ajO;have ad:=G.hq;have ag:=G.c2;have ay:=G.c3;have hL:∀n,n<e.u.b8.length->B3 (e.u.aE.getD n default):=λn av=>Zv (G.li n av)
 refine qf (ro:=[]) mixed jt [de g] aI hi.none ?_;unfold t;refine Qq (cs:=[de g]) U U (λb=>vX) λeW=> ?_
 refine dn ?_;refine n9 (lF:=cJ g A e) (L':=λ_=>cJ g A e++[bs.box eW gR [de g]]) mo (λ_=>[.bool (decide (((e.u.bH.length:Nat):Int)=0))]) (λw _ aI=>Q3.any aI) λ_=> ?_
 refine dn ?_;refine D6 rfl (λav=> ?_) λav=> ?_
 ·have sv:0<e.u.bH.length:=by omega
  have ZD:=G.e5 _ (by rw[dp,f_ sv];exact List.getElem_mem sv:e.u.bH.getD 0 default∈e.u.bH);refine dn ?_;refine n9 (lF:=cJ g A e) (L':=λy=>cJ g {A with o:=y} {e with u:={e.u with bH:=e.u.bH.drop 1}}++[bs.box eW gR [de g]]) mo (λ_=>j4 (e.u.bH.getD 0 default)) (λw _ aI=>Zf.any aI sv) λy=> ?_
  generalize aq:e.u.bH.getD 0 default=x at ZD ⊢;obtain⟨sj,iH⟩:=ZD;refine D7 (z:= .agg ⟨j4 (0,z4)⟩) (j4 (0,z4)) au rfl (λb=>vX) λmL=> ?_
  refine GX (m:=5) (us:=j4 x) (cs':=j4 x) U U lI rfl ?_;refine dn ?_;generalize aw:mn e.table e.u.lit x.2 (er e.b e.u.b8 x.1 6) (e.u.bH.drop 1,e.u.gone,e.u.aE)=s;have Mm:(e.u.bH.drop 1).length<=e.u.bH.length:=by rw[List.length_drop];omega
  have gI:=QY e.table e.u.lit x.2 (er e.b e.u.b8 x.1 6) (e.u.bH.drop 1,e.u.gone,e.u.aE);have Lb:=ajC (b:=e.b) (sh:=e.u.b8) (k:=x.1) (table:=e.table) (lit:=e.u.lit) (old:=x.2) (s:=(e.u.bH.drop 1,e.u.gone,e.u.aE)) G.go;rw[aw] at gI Lb;have jl:=QZ e.b e.u.b8 x.1 6;have gE:(gS e.table e.b e.u)=(true,if s.1.length=0 then {e.u with bH:=s.1,gone:=[],aE:=s.2.2,bw:=(mK s.2.1 (e.u.bw,e.u.waits)).1,waits:=(mK s.2.1 (e.u.bw,e.u.waits)).2} else {e.u with bH:=s.1,gone:=s.2.1,aE:=s.2.2}):=by
   rw[G4 sv];unfold yM xo;rw[aq,aw]
  unfold xr;rw[gE];refine n9 (lF:=cJ g {A with o:=y} {e with u:={e.u with bH:=e.u.bH.drop 1}}++[bs.box eW gR [de g],bs.box mL qj (j4 x)]) (L':=λ(z:eD×eD)=>cJ g {A with o:=z.1,g:=z.2} (yP e s)++[bs.box eW gR [de g],bs.box mL qj (j4 x)]) (N:=λ(z:eD×eD)=>cJ g {A with o:=z.1,g:=z.2} (yP e s)++[bs.box eW gR [de g],bs.box mL qj (j4 x)]) [0,1,2,3,4,5,6,7,8,9,10,11,12,13] (λ_=>[]) (λw _ aI=> ?_) (λz=> ?_) (hL:=λz=>KW (n:=14) U U)
  ·have:=Zq.any (e:={e with u:={e.u with bH:=e.u.bH.drop 1}}) aI x.1 af sj hl lz BC (by show (e.u.bH.drop 1).length<=_;omega) (by show e.u.gone.length<=_;omega) (Zv iH) G.cn
   rw[aw] at this;exact this
  ·refine dn ?_
   refine n9 (lF:=cJ g {A with o:=z.1,g:=z.2} (yP e s)) (L':=λ_=>cJ g {A with o:=z.1,g:=z.2} (yP e s)++[bs.box eW gR [de g],bs.box mL qj (j4 x)]) mo (λ_=>[.bool (decide (((s.1.length:Nat):Int)=0))]) (λw _ aI=>Q3.any aI) λ_=> ?_
   refine oG rfl (λbU=> ?_) λbU=> ?_
   ·have bU:s.1.length=0:=by omega
    rw[aY bU];refine dn ?_;refine BR (Nat×eD) (λu=>[I (u.1:Nat)]) (λu=>cJ g {A with o:=z.1,g:=z.2,s:=u.2} (He (yP e s) (mK (s.2.1.take u.1) (e.u.bw,e.u.waits)))++[bs.box eW gR [de g],bs.box mL qj (j4 x)]) (λu=>u.1<=s.2.1.length) (λu=>s.2.1.length-u.1) (0,A.s) U U (Nat.zero_le _) (λu hu=> ?_);obtain⟨i,a⟩:=u;have hu:i<=s.2.1.length:=hu;dsimp only;obtain⟨cO,dx⟩:=Zz (s.2.1.take i) (e.u.bw,e.u.waits);have gh:(s.2.1.take i).length<=s.2.1.length:=by rw[List.length_take];omega
    have u3:s.2.1.length<=e.u.gone.length+6:=Lb.2;dsimp only at cO dx;refine dn ?_;refine oG rfl (λai=> ?_) λai=> ?_
    ·have ai:i<s.2.1.length:=by omega
     have al:=Lb.1 i ai;refine dn ?_;refine n9 (lF:=cJ g {A with o:=z.1,g:=z.2,s:=a} (He (yP e s) (mK (s.2.1.take i) (e.u.bw,e.u.waits)))) (L':=λa7=>cJ g {A with o:=z.1,g:=z.2,s:=a7} (xp (He (yP e s) (mK (s.2.1.take i) (e.u.bw,e.u.waits))) (s.2.1.getD i default))++[bs.box eW gR [de g],bs.box mL qj (j4 x)]) mo (λ_=>[]) (λw _ aI=>QS.any aI (s.2.1.getD i default) (by show _<(mK (s.2.1.take i) (e.u.bw,e.u.waits)).2.length;rw[dx,hw];exact al) (by show (mK (s.2.1.take i) (e.u.bw,e.u.waits)).1.length<=_;omega)) λa7=> ?_
     refine dn ?_;refine sw (u:=(i,a)) (i+1,a7) rfl ?_ (by show i+1<=_;omega) (by show s.2.1.length-(i+1)<s.2.1.length-i;omega);obtain⟨t1,t2⟩:=ajz (s:=(e.u.bw,e.u.waits)) U U ai;unfold xp;dsimp only;rw[t1,t2]
    ·refine dn ?_
     obtain rfl:i=s.2.1.length:=by omega
     rw[List.take_length];exact ts (λM bt=>by exact(aj' (L':=cJ g {A with o:=z.1,g:=(none,0),s:=a} {e with u:={e.u with bH:=s.1,gone:=[],aE:=s.2.2,bw:=(mK s.2.1 (e.u.bw,e.u.waits)).1,waits:=(mK s.2.1 (e.u.bw,e.u.waits)).2}}++[bs.box eW gR [de g],bs.box mL qj (j4 x)]) 2 (K:=uR) lI bt).pick mo rfl) ⟨{A with o:=z.1,g:=(none,0),s:=a},rfl,rfl⟩
   ·rw[a' aj]
    exact ts (λM bt=>by exact bt.pick mo rfl) ⟨{A with o:=z.1,g:=z.2},rfl,rfl⟩
 ·have sv:¬0<e.u.bH.length:=by omega
  refine dn ?_;refine n9 (lF:=cJ g A e) (L':=λ_=>cJ g A e++[bs.box eW gR [de g]]) mo (λ_=>[.bool (decide (((e.u.bw.length:Nat):Int)=0))]) (λw _ aI=>ZA.any aI) λ_=> ?_
  refine dn ?_;refine D6 rfl (λl8=> ?_) λl8=> ?_
  ·have B6:0<e.u.bw.length:=by omega
   have al:=G.nr _ (by rw[dp,f_ B6];exact List.getElem_mem B6:e.u.bw.getD 0 default∈e.u.bw);refine dn ?_;refine n9 (lF:=cJ g A e) (L':=λy=>cJ g {A with s:=y} {e with u:={e.u with bw:=e.u.bw.drop 1}}++[bs.box eW gR [de g]]) mo (λ_=>[I (e.u.bw.getD 0 default:Nat)]) (λw _ aI=>Zd.any aI B6) λy=> ?_
   generalize aj_:e.u.bw.getD 0 default=k at al ⊢;have Mm:(e.u.bw.drop 1).length<=e.u.bw.length:=by rw[List.length_drop];omega
   have ao3:k<e.u.waits.length:=by omega
   have na:k<e.u.aE.length:=by omega
   refine dn ?_;refine BQ (K:=lk) (l:=e.u.waits) (j:=k) false U U lI rfl (λ_ _=>rfl) ?_;refine dn ?_;generalize kj:v_ e.table e.u.lit e.u.aE e.u.b8 e.b k=N;generalize cM:e.u.aE.getD k default=eJ;have gE:(gS e.table e.b e.u)=(true,if wa 4 N eJ=true then {e.u with aE:=e.u.aE.set k (lj 4 N eJ),bw:=(sz (er e.b e.u.b8 k 6) (e.u.bw.drop 1,e.u.waits.set k false)).1,waits:=(sz (er e.b e.u.b8 k 6) (e.u.bw.drop 1,e.u.waits.set k false)).2} else {e.u with aE:=e.u.aE.set k (lj 4 N eJ),bw:=e.u.bw.drop 1,waits:=e.u.waits.set k false}):=by
    rw[G5 sv B6];unfold yN G3;rw[aj_,kj,cM]
   unfold xr;rw[gE];refine n9 (v:=λ_=> .agg ⟨dJ N⟩) (lF:=cJ g {A with s:=y} {e with u:={e.u with bw:=e.u.bw.drop 1,waits:=e.u.waits.set k false}}) (L':=λ_=>cJ g {A with s:=y} {e with u:={e.u with bw:=e.u.bw.drop 1,waits:=e.u.waits.set k false}}++[bs.box eW gR [de g]]) mo (λ_=>dJ N) (λw _ aI=>by rw[<-kj];exact Zt.any aI k af al hl lz BC hL (G.cn k al)) λ_=> ?_
   refine D7 (z:= .agg ⟨dJ z4⟩) (dJ z4) au rfl (λb=>vX) λG9=> ?_
   refine GX (m:=4) (us:=dJ N) (cs':=dJ N) U U lI rfl ?_;refine BR Nat (λi=>[I (i:Nat),.bool (wa i N eJ)]) (λi=>cJ g {A with s:=y} {e with u:={e.u with bw:=e.u.bw.drop 1,waits:=e.u.waits.set k false,aE:=e.u.aE.set k (lj i N eJ)}}++[bs.box eW gR [de g],bs.box G9 nP (dJ N)]) (λi=>i<=4) (λi=>4-i) 0 rfl ?_ aj (λi ai=> ?_)
   ·rw[ajx,<-cM,Xj na]
    rfl
   refine dn ?_;refine oG rfl (λbG=> ?_) λbG=> ?_
   ·have l3:i<4:=by omega
    have og:k<(e.u.aE.set k (lj i N eJ)).length:=by rw[List.length_set];exact na
    have DA:(e.u.aE.set k (lj i N eJ)).getD k default=lj i N eJ:=by rw[Gb na,aY rfl]
    have bE:∀z,(e.u.aE.set k (lj i N eJ))[k]? =some z->dJ (tA (lj i N eJ) i (max (cl N i) (cl eJ i)))=(dJ z).set (0+i*1) (I (max (cl N i) (cl eJ i))):=λz bU=>by
     rw[List.getElem?_set,aY rfl,aY na,cN] at bU;subst bU;exact K_ l3 _
    refine GR rfl (λhm=> ?_) λhm=> ?_
    ·refine dn ?_
     refine BP (u:=I (cl N i)) rfl has (Ad l3) ?_;refine dn ?_;refine BO (K:=jN) (l:=e.u.aE.set k (lj i N eJ)) (j:=k) (o:=0+i*1) (u:=I (cl eJ i)) rfl (by rw[DA,<-Zw (N:=N) l3];exact Ad l3) ?_;refine dn ?_;refine BQ (K:=jN) (l:=e.u.aE.set k (lj i N eJ)) (j:=k) (o:=0+i*1) (tA (lj i N eJ) i (max (cl N i) (cl eJ i))) U U lI rfl bE ?_ (hj:=og) (ho:=by show 0+i*1<4;omega);refine dn ?_;refine sw (i+1) ?_ ?_ aj aj
     ·rw[Zy l3,hm]
      rfl
     ·rw[List.set_set,Zx]
      rfl
    ·refine dn ?_
     refine BP (u:=I (cl N i)) rfl has (Ad l3) ?_;refine dn ?_;refine BO (K:=jN) (l:=e.u.aE.set k (lj i N eJ)) (j:=k) (o:=0+i*1) (u:=I (cl eJ i)) rfl (by rw[DA,<-Zw (N:=N) l3];exact Ad l3) ?_;refine dn ?_;refine BQ (K:=jN) (l:=e.u.aE.set k (lj i N eJ)) (j:=k) (o:=0+i*1) (tA (lj i N eJ) i (max (cl N i) (cl eJ i))) U U lI rfl bE ?_ (hj:=og) (ho:=by show 0+i*1<4;omega);refine dn ?_;refine sw (i+1) ?_ ?_ aj aj
     ·rw[Zy l3,hm]
      rfl
     ·rw[List.set_set,Zx]
      rfl
   ·refine dn ?_
    obtain rfl:i=4:=by omega
    refine GR rfl (λhm=> ?_) λhm=> ?_
    ·rw[aY hm]
     refine dn ?_;refine n9 (lF:=cJ g {A with s:=y} {e with u:={e.u with bw:=e.u.bw.drop 1,waits:=e.u.waits.set k false,aE:=e.u.aE.set k (lj 4 N eJ)}}++[bs.box eW gR [de g]]) (L':=λz=>cJ g {A with s:=z} {e with u:={e.u with aE:=e.u.aE.set k (lj 4 N eJ),bw:=(sz (er e.b e.u.b8 k 6) (e.u.bw.drop 1,e.u.waits.set k false)).1,waits:=(sz (er e.b e.u.b8 k 6) (e.u.bw.drop 1,e.u.waits.set k false)).2}}++[bs.box eW gR [de g],bs.box G9 nP (dJ N)]) [0,1,2,3,4,5,6,7,8,9,10,11,12] (λ_=>[]) (λw _ aI=>Zr.any (e:={e with u:={e.u with bw:=e.u.bw.drop 1,waits:=e.u.waits.set k false,aE:=e.u.aE.set k (lj 4 N eJ)}}) aI k af al hl (by show (e.u.waits.set k false).length=_;rw[List.length_set];exact hw) (by show (e.u.bw.drop 1).length<=_;omega)) λz=> ?_
     exact ts (λM bt=>by exact bt.pick mo rfl) ⟨{A with s:=z},rfl,rfl⟩
    ·rw[a' (by rw[hm];decide)]
     exact ts (λM bt=>by exact bt.pick mo rfl) ⟨{A with s:=y},rfl,rfl⟩
  ·have B6:¬0<e.u.bw.length:=by omega
   refine dn ?_;refine n9 (lF:=cJ g A e) (L':=λ_=>cJ g A e++[bs.box eW gR [de g]]) mo (λ_=>[.bool (decide (((e.u.reqs.length:Nat):Int)=0))]) (λw _ aI=>ZB.any aI) λ_=> ?_
   refine dn ?_;refine D6 rfl (λQ4=> ?_) λQ4=> ?_
   ·have Ee:0<e.u.reqs.length:=by omega
    have al:=G.reqs _ (by rw[dp,f_ Ee];exact List.getElem_mem Ee:e.u.reqs.getD 0 default∈e.u.reqs);unfold xr;rw[G6 sv B6 Ee];unfold K3;refine dn ?_;refine n9 (lF:=cJ g A e) (L':=λy=>cJ g {A with q:=y} {e with u:={e.u with reqs:=e.u.reqs.drop 1}}++[bs.box eW gR [de g]]) mo (λ_=>nc (e.u.reqs.getD 0 default)) (λw _ aI=>Zg.any aI Ee) λy=> ?_
    generalize aq:e.u.reqs.getD 0 default=x at al ⊢;have na:x.1<e.u.aE.length:=by omega
    have r3:x.1<e.u.lit.length:=by omega
    refine dn ?_;refine KU (K:=jN) (l:=e.u.aE) (j:=x.1) (c:=dJ (e.u.aE.getD x.1 default)) U U U o7 ?_;refine n9 (lF:=cJ g {A with q:=y} {e with u:={e.u with reqs:=e.u.reqs.drop 1}}) (L':=λz=>cJ g {A with q:=y,o:=z.1,g:=z.2} (QR {e with u:={e.u with reqs:=e.u.reqs.drop 1}} x.1 (e.u.aE.getD x.1 default))++[bs.box eW gR [de g]]) mo (λ_=>[]) (λw _ aI=>QT.any aI x.1 (e.u.aE.getD x.1 default) na (by show e.u.bH.length<=_;omega) (by show e.u.gone.length<=_;omega)) λz=> ?_
    refine dn ?_;refine BQ (K:=wb) (l:=e.u.lit) (j:=x.1) x.2.1 U U lI rfl (λ_ _=>rfl) ?_;refine dn ?_;refine BQ (K:=lk) (l:=e.u.b8) (j:=x.1) x.2.2 U U lI rfl (λ_ _=>rfl) ?_;exact ts (λM bt=>by exact bt.pick mo rfl) ⟨{A with q:=y,o:=z.1,g:=z.2},rfl,rfl⟩
   ·have Ee:¬0<e.u.reqs.length:=by omega
    unfold xr;rw[G7 sv B6 Ee];exact ts (λM bt=>by exact bt.pick mo rfl) ⟨A,rfl,rfl⟩
end ZC
end AE
end
end
namespace AE
namespace ZE
noncomputable def body:Code:=(Tryd.f78.body).getD .skip
def N:Nat:=14
noncomputable abbrev bz:=fj Tryd.prog Tryd.f78
def aN:b6:={sl:=b1 [(1,.agg ⟨[I 0,I 0,I 0,I 0,I 0,I 0]⟩),(0,.agg ⟨[0,1,2,3,4,5]⟩)],ms:=[],A:=start}
def bN:bd:=[(.eY #[3,3] 3 0 (I 0),6),
 (.eY #[3,3] 3 1 (I 0),7),
 (.eY #[3,3] 3 2 (I 0),8),
 (.lO #[3,3] 3 3 (I 0),9),
 (.lO #[3,3] 3 4 (I 0),10),
 (.lO #[3,3] 3 5 (I 0),11),
 (.bin .geq 3 6 6,.bool true),
 (.bin .lss 3 6 9,.bool true),
 (.bin .geq 3 7 7,.bool true),
 (.bin .lss 3 7 10,.bool true),
 (.bin .geq 3 8 8,.bool true),
 (.bin .lss 3 8 11,.bool true)]
theorem e0:bz (at' 14 bN [] body aN)=some (.agg ⟨[6,7,8,9,10,11]⟩):=au
def cb:bd:=[(.eY #[3,3] 3 0 (I 0),6),
 (.eY #[3,3] 3 1 (I 0),7),
 (.eY #[3,3] 3 2 (I 0),8),
 (.lO #[3,3] 3 3 (I 0),9),
 (.lO #[3,3] 3 4 (I 0),10),
 (.lO #[3,3] 3 5 (I 0),11),
 (.bin .geq 3 6 6,.bool true),
 (.bin .lss 3 6 9,.bool true),
 (.bin .geq 3 7 7,.bool true),
 (.bin .lss 3 7 10,.bool true),
 (.bin .geq 3 8 8,.bool true),
 (.bin .lss 3 8 11,.bool false)]
theorem e1:bz (at' 14 cb [] body aN)=some (.agg ⟨[I 0,I 0,I 0,I 0,I 0,I 0]⟩):=au
def dk:bd:=[(.eY #[3,3] 3 0 (I 0),6),
 (.eY #[3,3] 3 1 (I 0),7),
 (.eY #[3,3] 3 2 (I 0),8),
 (.lO #[3,3] 3 3 (I 0),9),
 (.lO #[3,3] 3 4 (I 0),10),
 (.lO #[3,3] 3 5 (I 0),11),
 (.bin .geq 3 6 6,.bool true),
 (.bin .lss 3 6 9,.bool true),
 (.bin .geq 3 7 7,.bool true),
 (.bin .lss 3 7 10,.bool false)]
theorem e2:bz (at' 14 dk [] body aN)=some (.agg ⟨[I 0,I 0,I 0,I 0,I 0,I 0]⟩):=au
def eg:bd:=[(.eY #[3,3] 3 0 (I 0),6),
 (.eY #[3,3] 3 1 (I 0),7),
 (.eY #[3,3] 3 2 (I 0),8),
 (.lO #[3,3] 3 3 (I 0),9),
 (.lO #[3,3] 3 4 (I 0),10),
 (.lO #[3,3] 3 5 (I 0),11),
 (.bin .geq 3 6 6,.bool true),
 (.bin .lss 3 6 9,.bool false)]
theorem e3:bz (at' 14 eg [] body aN)=some (.agg ⟨[I 0,I 0,I 0,I 0,I 0,I 0]⟩):=au
@[reducible] noncomputable def bB (b:bT):List J:=[I b.1,I b.2.1,I b.2.2.1,I b.2.2.2.1,I b.2.2.2.2.1,I b.2.2.2.2.2,I (max b.1 0),I (max b.2.1 0),I (max b.2.2.1 0),I (min b.2.2.2.1 0),I (min b.2.2.2.2.1 0),I (min b.2.2.2.2.2 0)]
theorem any (W:ax) (b:bT):Calls Tryd.prog 78 #[X.val b,.agg ⟨[I 0,I 0,I 0,I 0,I 0,I 0]⟩] W λe w'=>e= .returned (.agg ⟨[I 0,I 0,I 0,I 0,I 0,I 0]⟩)/\cg W.heap.size W w':=by
 refine jE (bB b) body aN N [.agg ⟨[ak 0,ak 1,ak 2,ak 3,ak 4,ak 5]⟩,.agg ⟨[I 0,I 0,I 0,I 0,I 0,I 0]⟩] Tryd.func78 λa ah=> ?_
 letI:=b4 ah;by_cases h0:(max b.1 0)<(min b.2.2.2.1 0)
 ·by_cases ad:(max b.2.1 0)<(min b.2.2.2.2.1 0)
  ·by_cases ag:(max b.2.2.1 0)<(min b.2.2.2.2.2 0)
   ·refine bx bN [] (ae (aT.pY U U U U U U) (ae (aT.pY U U U U U U) (ae (aT.pY U U U U U U) (ae (aT.s9 U U U U U U) (ae (aT.s9 U U U U U U) (ae (aT.s9 U U U U U U) (ae a8 (ae a8 (ae a8 (ae a8 (ae a8 (ae a8 aO)))))))))))) aP ?_ ah
    exact bR e0 λw2 bm=>(by (exfalso;omega))
   ·refine bx cb [] (ae (aT.pY U U U U U U) (ae (aT.pY U U U U U U) (ae (aT.pY U U U U U U) (ae (aT.s9 U U U U U U) (ae (aT.s9 U U U U U U) (ae (aT.s9 U U U U U U) (ae a8 (ae a8 (ae a8 (ae a8 (ae a8 (ae aS aO)))))))))))) aP ?_ ah
    exact bR e1 λw2 bm=>(by rfl)
  ·refine bx dk [] (ae (aT.pY U U U U U U) (ae (aT.pY U U U U U U) (ae (aT.pY U U U U U U) (ae (aT.s9 U U U U U U) (ae (aT.s9 U U U U U U) (ae (aT.s9 U U U U U U) (ae a8 (ae a8 (ae a8 (ae aS aO)))))))))) aP ?_ ah
   exact bR e2 λw2 bm=>(by rfl)
 ·refine bx eg [] (ae (aT.pY U U U U U U) (ae (aT.pY U U U U U U) (ae (aT.pY U U U U U U) (ae (aT.s9 U U U U U U) (ae (aT.s9 U U U U U U) (ae (aT.s9 U U U U U U) (ae a8 (ae aS aO)))))))) aP ?_ ah
  exact bR e3 λw2 bm=>(by rfl)
end ZE
end AE
namespace AE
def Q5:J:= .agg ⟨[.int .i64 0,.int .i64 0,.int .i64 0,.int .i64 0,.int .i64 0,.int .i64 0]⟩
variable [a1]
theorem ZF {x y r:J} {b:bT} (hp:dL [x,y]=true) (ao:aM r=true) (bp:eo [x,y]=[X.val b,Q5]) (b9:aJ r=Q5):i_ Tryd.prog (78,[x,y],r):=
 kK (a:= #[X.val b,Q5]) hp ao bp b9 λw _=>ZE.any w b
end AE
namespace AE
namespace ZG
noncomputable def body:Code:=(Tryd.f40.body).getD .skip
def N:Nat:=8
def aN:b6:={sl:=b1 [(0,0)],ms:=[],A:=start}
def bN:bd:=[(.bin .eql 45 0 (.slice none 0 0),.bool true)]
theorem e0:fj Tryd.prog Tryd.f40 (at' 8 bN [] body aN)=some (.slice none 0 0):=au
def cb:bd:=[(.bin .eql 45 0 (.slice none 0 0),.bool false)]
theorem e1:p0 45 (at' 8 cb [] body aN)=some (.slice (some ⟨0,0,none⟩) 0 0,0):=au
abbrev gy:=at' 8 cb [] body aN
def dD:List bu:=[]
def hd0:aF:=b1 [(2,.slice none 0 0)]
def hp0:aF:=e6 8 hd0 7 1
theorem e2:cp (b7 gy) hd0 dD=some []:=au
def dV:dU:=(body,[1,1,0],3)
theorem jJ:fj Tryd.prog Tryd.f40 (cI 8 [] [] dV (b3 hp0 dD))=some 1:=au
@[reducible] noncomputable def bB (l:List bO) (dR:ch) (ec:Nat) (ct:List bO:=[]) (a0:ch:=none) (dC:Nat:=0):List J:=[br dR l ec,br a0 ct dC]
theorem any (W:ax) {h_:J} {l:List bO} (hl:cF (aG W) 4 dJ h_ l) (av:l.length<=100000):Calls Tryd.prog 40 #[h_] W λe w'=>(∃a c,e= .returned (br a l c)/\dw W.heap.size (aG w') qa 4 dJ (br a l c) l)/\cg W.heap.size W w':=by
 obtain⟨dR,ec,rfl⟩:=hl.slice;refine jE (bB l dR ec) body aN N [ak 0] Tryd.func40 λa ah=> ?_
 letI:=b4 ah;by_cases h0:dR=none
 ·refine bx bN [] (ae (aT.Jw rfl n4 rfl h0) aO) aP ?_ ah
  exact bR e0 λw2 bm=>(by (subst h0;exact Jv hl.isNil))
 ·refine bx cb [] (ae (aT.Jx rfl n4 rfl h0) aO) aP ?_ ah
  obtain⟨ct,eX⟩:=h1 ([]++l);have e_:ct.length=0+l.length:=by rw[eX];simp
  refine A_ (l:=[]) (lx:=l) (l':=ct) (bj:=λpd pe=>(bB l dR ec ct pd pe)) (T:=none) eX e1 n4 Xa Xb Xc Xd aha cB yv ahb e2 (ep hp0 1) rfl (Ju au) (zE U U λw hw=>hl.reads yv hw) (yh (show 0+l.length<=1000000 by omega)) (show (0+l.length)*Km<=140737488355328 by unfold Km;omega) (λ_ _ _=>zC) (λ_ _ _=>rfl) ?_;intro jY a0 dC lK ju rC dz w ah;have uS:=ju.up rC (cj _) (λ_ _ h=>h);letI:=b4 ah;refine dO (dP dV) [] [] aO aP ?_ ah;exact bR jJ λw2 bm=>(by (exact Bb lK (by rw[eX];rfl) bm))
end ZG
namespace Hg
noncomputable def body:Code:=(Tryd.f33.body).getD .skip
def N:Nat:=8
def aN:b6:={sl:=b1 [(0,0)],ms:=[],A:=start}
def bN:bd:=[(.bin .eql 30 0 (.slice none 0 0),.bool true)]
theorem e0:fj Tryd.prog Tryd.f33 (at' 8 bN [] body aN)=some (.slice none 0 0):=au
def cb:bd:=[(.bin .eql 30 0 (.slice none 0 0),.bool false)]
theorem e1:p0 30 (at' 8 cb [] body aN)=some (.slice (some ⟨0,0,none⟩) 0 0,0):=au
abbrev gy:=at' 8 cb [] body aN
def dD:List bu:=[]
def hd0:aF:=b1 [(2,.slice none 0 0)]
def hp0:aF:=e6 8 hd0 7 1
theorem e2:cp (b7 gy) hd0 dD=some []:=au
def dV:dU:=(body,[1,1,0],3)
theorem jJ:fj Tryd.prog Tryd.f33 (cI 8 [] [] dV (b3 hp0 dD))=some 1:=au
@[reducible] noncomputable def bB (l:List Bool) (dR:ch) (ec:Nat) (ct:List Bool:=[]) (a0:ch:=none) (dC:Nat:=0):List J:=[br dR l ec,br a0 ct dC]
theorem any (W:ax) {h_:J} {l:List Bool} (hl:cF (aG W) 1 iL h_ l) (av:l.length<=100000):Calls Tryd.prog 33 #[h_] W λe w'=>(∃a c,e= .returned (br a l c)/\dw W.heap.size (aG w') n3 1 iL (br a l c) l)/\cg W.heap.size W w':=by
 obtain⟨dR,ec,rfl⟩:=hl.slice;refine jE (bB l dR ec) body aN N [ak 0] Tryd.func33 λa ah=> ?_
 letI:=b4 ah;by_cases h0:dR=none
 ·refine bx bN [] (ae (aT.Jw rfl mj rfl h0) aO) aP ?_ ah
  exact bR e0 λw2 bm=>(by (subst h0;exact Jv hl.isNil))
 ·refine bx cb [] (ae (aT.Jx rfl mj rfl h0) aO) aP ?_ ah
  obtain⟨ct,eX⟩:=h1 ([]++l);have e_:ct.length=0+l.length:=by rw[eX];simp
  refine A_ (l:=[]) (lx:=l) (l':=ct) (bj:=λpd pe=>(bB l dR ec ct pd pe)) (T:=none) eX e1 mj O6 O7 O8 O9 ag5 cB kn O' e2 (ep hp0 1) rfl (Ju au) (zE U U λw hw=>hl.reads kn hw) (yh (show 0+l.length<=1000000 by omega)) (show (0+l.length)*Gg<=140737488355328 by unfold Gg;omega) (λ_ _ _=>zC) (λ_ _ _=>rfl) ?_;intro jY a0 dC lK ju rC dz w ah;have uS:=ju.up rC (cj _) (λ_ _ h=>h);letI:=b4 ah;refine dO (dP dV) [] [] aO aP ?_ ah;exact bR jJ λw2 bm=>(by (exact Bb lK (by rw[eX];rfl) bm))
end Hg
namespace Q6
noncomputable def body:Code:=(Tryd.f77.body).getD .skip
def N:Nat:=8
def aN:b6:={sl:=b1 [(0,0)],ms:=[],A:=start}
def bN:bd:=[(.bin .eql 26 0 (.slice none 0 0),.bool true)]
theorem e0:fj Tryd.prog Tryd.f77 (at' 8 bN [] body aN)=some (.slice none 0 0):=au
def cb:bd:=[(.bin .eql 26 0 (.slice none 0 0),.bool false)]
theorem e1:p0 26 (at' 8 cb [] body aN)=some (.slice (some ⟨0,0,none⟩) 0 0,0):=au
abbrev gy:=at' 8 cb [] body aN
def dD:List bu:=[]
def hd0:aF:=b1 [(2,.slice none 0 0)]
def hp0:aF:=e6 8 hd0 7 1
theorem e2:cp (b7 gy) hd0 dD=some []:=au
def dV:dU:=(body,[1,1,0],3)
theorem jJ:fj Tryd.prog Tryd.f77 (cI 8 [] [] dV (b3 hp0 dD))=some 1:=au
@[reducible] noncomputable def bB (l:List Int) (dR:ch) (ec:Nat) (ct:List Int:=[]) (a0:ch:=none) (dC:Nat:=0):List J:=[br dR l ec,br a0 ct dC]
theorem any (W:ax) {h_:J} {l:List Int} (hl:cF (aG W) 1 gf h_ l) (av:l.length<=100000):Calls Tryd.prog 77 #[h_] W λe w'=>(∃a c,e= .returned (br a l c)/\dw W.heap.size (aG w') kJ 1 gf (br a l c) l)/\cg W.heap.size W w':=by
 obtain⟨dR,ec,rfl⟩:=hl.slice;refine jE (bB l dR ec) body aN N [ak 0] Tryd.func77 λa ah=> ?_
 letI:=b4 ah;by_cases h0:dR=none
 ·refine bx bN [] (ae (aT.Jw rfl iA rfl h0) aO) aP ?_ ah
  exact bR e0 λw2 bm=>(by (subst h0;exact Jv hl.isNil))
 ·refine bx cb [] (ae (aT.Jx rfl iA rfl h0) aO) aP ?_ ah
  obtain⟨ct,eX⟩:=h1 ([]++l);have e_:ct.length=0+l.length:=by rw[eX];simp
  refine A_ (l:=[]) (lx:=l) (l':=ct) (bj:=λpd pe=>(bB l dR ec ct pd pe)) (T:=none) eX e1 iA JF JG JH JI JJ cB kk JK e2 (ep hp0 1) rfl (Ju au) (zE U U λw hw=>hl.reads kk hw) (yh (show 0+l.length<=1000000 by omega)) (show (0+l.length)*yk<=140737488355328 by unfold yk;omega) (λ_ _ _=>zC) (λ_ _ _=>rfl) ?_;intro jY a0 dC lK ju rC dz w ah;have uS:=ju.up rC (cj _) (λ_ _ h=>h);letI:=b4 ah;refine dO (dP dV) [] [] aO aP ?_ ah;exact bR jJ λw2 bm=>(by (exact Bb lK (by rw[eX];rfl) bm))
end Q6
namespace ZH
noncomputable def body:Code:=(Tryd.f32.body).getD .skip
def N:Nat:=8
def aN:b6:={sl:=b1 [(0,0)],ms:=[],A:=start}
def bN:bd:=[(.bin .eql 29 0 (.slice none 0 0),.bool true)]
theorem e0:fj Tryd.prog Tryd.f32 (at' 8 bN [] body aN)=some (.slice none 0 0):=au
def cb:bd:=[(.bin .eql 29 0 (.slice none 0 0),.bool false)]
theorem e1:p0 29 (at' 8 cb [] body aN)=some (.slice (some ⟨0,0,none⟩) 0 0,0):=au
abbrev gy:=at' 8 cb [] body aN
def dD:List bu:=[]
def hd0:aF:=b1 [(2,.slice none 0 0)]
def hp0:aF:=e6 8 hd0 7 1
theorem e2:cp (b7 gy) hd0 dD=some []:=au
def dV:dU:=(body,[1,1,0],3)
theorem jJ:fj Tryd.prog Tryd.f32 (cI 8 [] [] dV (b3 hp0 dD))=some 1:=au
@[reducible] noncomputable def bB (l:List cU) (dR:ch) (ec:Nat) (ct:List cU:=[]) (a0:ch:=none) (dC:Nat:=0):List J:=[br dR l ec,br a0 ct dC]
theorem any (W:ax) {h_:J} {l:List cU} (hl:cF (aG W) 8 jB h_ l) (av:l.length<=100000):Calls Tryd.prog 32 #[h_] W λe w'=>(∃a c,e= .returned (br a l c)/\dw W.heap.size (aG w') ox 8 jB (br a l c) l)/\cg W.heap.size W w':=by
 obtain⟨dR,ec,rfl⟩:=hl.slice;refine jE (bB l dR ec) body aN N [ak 0] Tryd.func32 λa ah=> ?_
 letI:=b4 ah;by_cases h0:dR=none
 ·refine bx bN [] (ae (aT.Jw rfl lU rfl h0) aO) aP ?_ ah
  exact bR e0 λw2 bm=>(by (subst h0;exact Jv hl.isNil))
 ·refine bx cb [] (ae (aT.Jx rfl lU rfl h0) aO) aP ?_ ah
  obtain⟨ct,eX⟩:=h1 ([]++l);have e_:ct.length=0+l.length:=by rw[eX];simp
  refine A_ (l:=[]) (lx:=l) (l':=ct) (bj:=λpd pe=>(bB l dR ec ct pd pe)) (T:=none) eX e1 lU afv afw afx afy afz cB JM afA e2 (ep hp0 1) rfl (Ju au) (zE U U λw hw=>hl.reads JM hw) (yh (show 0+l.length<=1000000 by omega)) (show (0+l.length)*Ob<=140737488355328 by unfold Ob;omega) (λ_ _ _=>zC) (λ_ _ _=>rfl) ?_;intro jY a0 dC lK ju rC dz w ah;have uS:=ju.up rC (cj _) (λ_ _ h=>h);letI:=b4 ah;refine dO (dP dV) [] [] aO aP ?_ ah;exact bR jJ λw2 bm=>(by (exact Bb lK (by rw[eX];rfl) bm))
end ZH
end AE
namespace AE
namespace ZI
noncomputable def body:Code:=(Tryd.f51.body).getD .skip
def N:Nat:=16
def aN:b6:={sl:=b1 [(1,.func (.func 52) ⟨[]⟩ ⟨[0,1]⟩),(0,.agg ⟨[2,3,4,5,6,7,8]⟩)],ms:=[],A:=start}
theorem e0:g_ (at' 16 [] [] body aN)=some (77,[8]):=au
abbrev gy:=at' 16 [] [] body aN
def dD:List bu:=[⟨.cells [2,3,4,5,6,7,8],28,0⟩,⟨.cells [I 0,I 0,I 0,I 0,I 0,I 0,.slice none 0 0],28,0⟩]
def hd0:aF:=b1 [(4,df 1 0),(2,df 0 0),(1,.func (.func 52) ⟨[]⟩ ⟨[0,1]⟩)]
def hp0:aF:=e6 16 hd0 8 9
theorem e3:cp (kL Tryd.prog gy) hd0 dD=some [(0,0),(1,1),(2,2),(3,3),(4,4),(5,5),(6,6),(7,7),(8,8)]:=au
def dV:dU:=(body,[1,0],3)
def cb:bd:=[(.bA 28 0,.agg ⟨[2,3,4,5,6,7,8]⟩),
 (.cn 28 1 0,1),
 (.bA 25 1,.agg ⟨[I 0,I 0,I 0,I 0,I 0,I 0]⟩)]
def h':dX:=[(78,[.agg ⟨[2,3,4,5,6,7]⟩,.agg ⟨[I 0,I 0,I 0,I 0,I 0,I 0]⟩],.agg ⟨[I 0,I 0,I 0,I 0,I 0,I 0]⟩)]
theorem mB:fj Tryd.prog Tryd.f51 (cI 16 cb h' dV (b3 hp0 dD))=some (.agg ⟨[2,3,4,5,6,7,9]⟩):=au
@[reducible] noncomputable def bB (bP:ch) (bJ bQ qU:Nat) (b:bT) (qV:Nat) (sB:List Int:=[]) (ia:ch:=none) (ib:Nat:=0):List J:=[df qU 0,df qV 0,I b.1,I b.2.1,I b.2.2.1,I b.2.2.2.1,I b.2.2.2.2.1,I b.2.2.2.2.2,.slice bP bJ bQ,br ia sB ib]
theorem any (W:ax) {bP:ch} {bJ bQ:Nat} {cells:List Int} (hX:cF (aG W) 1 gf (.slice bP bJ bQ) cells) {qU:Nat} {b:bT} (aka:jo 0 (aG W) (df qU 0) 28 [I b.1,I b.2.1,I b.2.2.1,I b.2.2.2.1,I b.2.2.2.2.1,I b.2.2.2.2.2,.slice bP bJ bQ]) {qV:Nat} (akb:jo 0 (aG W) (df qV 0) 28 [I 0,I 0,I 0,I 0,I 0,I 0,.slice none 0 0]) (av:cells.length<=100000):Calls Tryd.prog 51 #[.agg ⟨[I b.1,I b.2.1,I b.2.2.1,I b.2.2.2.1,I b.2.2.2.2.1,I b.2.2.2.2.2,.slice bP bJ bQ]⟩,.func (.func 52) #[] #[df qU 0,df qV 0]] W λe w'=>(∃a c,e= .returned (oK b (br a cells c))/\dw W.heap.size (aG w') kJ 1 gf (br a cells c) cells)/\cg W.heap.size W w':=by
 refine jE (bB bP bJ bQ qU b qV) body aN N [.agg ⟨[ak 2,ak 3,ak 4,ak 5,ak 6,ak 7,ak 8]⟩,.func (.func 52) ⟨[]⟩ ⟨[ak 0,ak 1]⟩] Tryd.func51 λa ah=> ?_
 letI:=b4 ah;have aI:=bI.o1 W;refine bx [] [] aO aP ?_ ah;obtain⟨sB,Af⟩:=h1 (cells);refine hF (Y:=eD) (bj:=λaV=>(bB bP bJ bQ qU b qV sB aV.1 aV.2)) aI [] (λaV=>[]) (λaV=>[qh aV.1 sB aV.2]) e0 e3 (ep hp0 9) (fA:=λw hw cT aw=>by rw[Af];exact FP (Q6.any _ ((hX.mono aI.ext).mono hw) av)) (rest:= ?_);intro jY ⟨ia,ib⟩ dr dz w ah;replace dr:=dr.KZ;letI:=b4 ah;refine dO (dP dV) cb h' (ae (aT.JV (g:=qU) (o:=0) (n:=7) (aka.up dr.ext) U U U au au U U U) (ae (fa 25 0 6) (ae (aT.JV (g:=qV) (o:=0) (n:=6) (akb.up dr.ext) U U U au au U U U) aO))) (cD (ZF U U U U) aP) ?_ ah;exact bR mB λw2 bm=>(by subst Af;exact⟨_,_,rfl,(dr.arr 0 rfl).mono (cj _) λ_ _ _ h=>bm _ _ h⟩)
end ZI
namespace Q7
noncomputable def body:Code:=(Tryd.f31.body).getD .skip
def N:Nat:=8
def aN:b6:={sl:=b1 [(1,.agg ⟨[I 0,I 0,I 0,I 0,I 0,I 0,.slice none 0 0]⟩),(0,.agg ⟨[0,1,2,3,4,5,6]⟩)],ms:=[],A:=start}
def bN:bd:=[(.d' (I 28),I 28)]
theorem e0:uB (at' 8 bN [] body aN)=some (28,(.agg ⟨[0,1,2,3,4,5,6]⟩)):=au
abbrev gy:=at' 8 bN [] body aN
def dD:List bu:=[]
def hd0:aF:=b1 [(1,.agg ⟨[I 0,I 0,I 0,I 0,I 0,I 0,.slice none 0 0]⟩)]
def hp0:aF:=e6 8 hd0 2 7
theorem e1:cp (b7 gy) hd0 dD=some []:=au
def dV:dU:=(body,[0],1)
theorem h2:uB (cI 8 bN [] dV (b3 hp0 dD))=some (28,(.agg ⟨[I 0,I 0,I 0,I 0,I 0,I 0,.slice none 0 0]⟩)):=au
abbrev jv:=cI 8 bN [] dV {sl:=hp0,ms:=[],A:=c6 dD}
def hy:List bu:=[]
def hv:aF:=b1 [(2,7)]
def hp1:aF:=e6 8 hv 3 8
theorem jJ:cp (b7 jv) hv hy=some [(7,7)]:=au
def iB:dU:=(body,[0],2)
theorem kR:FF (cI 8 bN [] iB (b3 hp1 hy))=some 28:=au
abbrev pg:=cI 8 bN [] iB {sl:=hp1,ms:=[],A:=c6 hy}
def kf:List bu:=[]
def kS:aF:=b1 [(3,8),(2,7)]
def hp2:aF:=e6 8 kS 4 9
theorem ql:cp (b7 pg) kS kf=some [(8,8),(7,7)]:=au
def je:dU:=(body,[0],3)
def cb:bd:=[(.d' (I 28),I 28),
 (.bA 28 7,.agg ⟨[0,1,2,3,4,5,6]⟩)]
theorem tC:g_ (cI 8 cb [] je (b3 hp2 kf))=some (51,[.agg ⟨[0,1,2,3,4,5,6]⟩,.func (.func 52) ⟨[]⟩ ⟨[7,8]⟩]):=au
abbrev yQ:=cI 8 cb [] je {sl:=hp2,ms:=[],A:=c6 kf}
def rD:List bu:=[]
def uT:aF:=b1 [(4,9)]
def hp3:aF:=e6 8 uT 7 (.agg ⟨[0,1,2,3,4,5,10]⟩)
theorem rE:cp (b7 yQ) uT rD=some [(9,9)]:=au
def tD:dU:=(body,[1,0],3)
theorem B7:nG (cI 8 bN [] tD (b3 hp3 rD))=some (28,9,(.agg ⟨[0,1,2,3,4,5,10]⟩)):=au
abbrev tE:=cI 8 bN [] tD {sl:=hp3,ms:=[],A:=c6 rD}
def tF:List bu:=[]
def tG:aF:=b1 [(4,9)]
def p9:aF:=match gZ 8 tG none (.tuple ⟨[]⟩) with|some s=>s|none=> .nil
theorem Hh:cp (b7 tE) tG tF=some [(9,9)]:=au
def Hi:dU:=(body,[1,0],4)
theorem B8:endCell Tryd.f31 (cI 8 bN [] Hi (b3 p9 tF))=some (28,9):=au
@[reducible] noncomputable def bB (bP:ch) (bJ bQ:Nat) (b:bT) (eF:Nat:=0) (g1:Nat:=0) (g2:Nat:=0) (qm:List Int:=[]) (tH:ch:=none) (tI:Nat:=0):List J:=[I b.1,I b.2.1,I b.2.2.1,I b.2.2.2.1,I b.2.2.2.2.1,I b.2.2.2.2.2,.slice bP bJ bQ,df eF 0,df g1 0,df g2 0,br tH qm tI]
theorem any (W:ax) {b:bT} {bP:ch} {bJ bQ:Nat} {cells:List Int} (hX:cF (aG W) 1 gf (.slice bP bJ bQ) cells) (av:cells.length<=100000):Calls Tryd.prog 31 #[.agg ⟨[I b.1,I b.2.1,I b.2.2.1,I b.2.2.2.1,I b.2.2.2.2.1,I b.2.2.2.2.2,.slice bP bJ bQ]⟩,.agg ⟨[I 0,I 0,I 0,I 0,I 0,I 0,.slice none 0 0]⟩] W λe w'=>(∃a c,e= .returned (oK b (br a cells c))/\dw W.heap.size (aG w') kJ 1 gf (br a cells c) cells)/\cg W.heap.size W w':=by
 refine jE (bB bP bJ bQ b) body aN N [.agg ⟨[ak 0,ak 1,ak 2,ak 3,ak 4,ak 5,ak 6]⟩,.agg ⟨[I 0,I 0,I 0,I 0,I 0,I 0,.slice none 0 0]⟩] Tryd.func31 λa ah=> ?_
 letI:=b4 ah;have aI:=bI.o1 W;refine bx bN [] (ae (gB _) aO) aP ?_ ah;refine w7 (u:= .agg ⟨[I b.1,I b.2.1,I b.2.2.1,I b.2.2.2.1,I b.2.2.2.2.1,I b.2.2.2.2.2,.slice bP bJ bQ]⟩) (cs:=[I b.1,I b.2.1,I b.2.2.1,I b.2.2.2.1,I b.2.2.2.2.1,I b.2.2.2.2.2,.slice bP bJ bQ]) (bj:=λfJ=>(bB bP bJ bQ b fJ)) e0 U U U e1 (ep hp0 7) rfl (λ_ fJ=>zC) (λ_ _=>rfl) ?_;intro jY eF e_ B9 ju dz w ah;have dr:=aI.new (td B9 e_ ju);replace dr:=dr.KZ;letI:=b4 ah;refine dO (dP dV) bN [] (ae (gB _) aO) aP ?_ ah;refine w7 (u:= .agg ⟨[I 0,I 0,I 0,I 0,I 0,I 0,.slice none 0 0]⟩) (cs:=[I 0,I 0,I 0,I 0,I 0,I 0,.slice none 0 0]) (bj:=λfJ=>(bB bP bJ bQ b eF fJ)) h2 U U U jJ (ep hp1 8) rfl (λ_ fJ=>fq) (λ_ _=>rfl) ?_;intro nf g1 h5 rl mq dz w ah;have gq:=dr.new (td rl h5 mq);replace gq:=gq.GY;letI:=b4 ah;refine dO (dP iB) bN [] (ae (gB _) aO) aP ?_ ah;refine Oo (z:= .agg ⟨[I 0,I 0,I 0,I 0,I 0,I 0,.slice none 0 0]⟩) (bj:=λfJ=>(bB bP bJ bQ b eF g1 fJ)) kR au ql (ep hp2 9) rfl (λ_ fJ=>fq) (λ_ _=>rfl) ?_;intro ng g2 vn l8 Q8 Hj dz w ah;have ic:=gq.new (td (ty:=28) (cs:=[I 0,I 0,I 0,I 0,I 0,I 0,.slice none 0 0]) (jo.mk' vn Q8) l8 Hj);replace ic:=ic.vZ;letI:=b4 ah;refine dO (dP je) cb [] (ae (gB _) (ae (vY 0 7 0 ic) aO)) aP ?_ ah;obtain⟨qm,Hk⟩:=h1 (cells);refine hF (Y:=eD) (bj:=λaV=>(bB bP bJ bQ b eF g1 g2 qm aV.1 aV.2)) ic [0,1] (λaV=>[_,_]) (λaV=>[qh aV.1 qm aV.2]) tC rE (ep hp3 (.agg ⟨[0,1,2,3,4,5,10]⟩)) (fA:=λw hw cT aw=>by rw[Hk];exact aj9 (F:=oK b) aw (ZI.any _ ((hX.mono ic.ext).mono hw) (aw.box 0 rfl) (aw.box 1 rfl) av)) (rest:= ?_);intro Q9 ⟨tH,tI⟩ oL dz w ah;replace oL:=oL.BU;letI:=b4 ah;refine dO (dP tD) bN [] (ae (gB _) aO) aP ?_ ah;refine Oy (g:=g2) (j:=0) (n:=7) (us:=[I b.1,I b.2.1,I b.2.2.1,I b.2.2.2.1,I b.2.2.2.2.1,I b.2.2.2.2.2,br tH qm tI]) (cs:=[I 0,I 0,I 0,I 0,I 0,I 0,.slice none 0 0]) (cs':=[I b.1,I b.2.1,I b.2.2.1,I b.2.2.2.1,I b.2.2.2.2.1,I b.2.2.2.2.2,br tH qm tI]) (bj:=(bB bP bJ bQ b eF g1 g2 qm tH tI)) rfl B7 au Hh (ep p9 (.tuple ⟨[]⟩)) U U U U U (p6 rfl (p6 rfl (p6 rfl (p6 rfl (p6 rfl (p6 rfl (p6 rfl FO))))))) (oL.box 2 rfl) (gG rfl) (λ_=>fq) ?_;intro Lc Q' B' dz w ah;have ph:=oL.lV 2 rfl (vC Q' B');replace ph:=ph.BU;letI:=b4 ah;refine dO (dP Hi) bN [] (ae (gB _) aO) aP ?_ ah;exact OE (v:= .agg ⟨[ak 0,ak 1,ak 2,ak 3,ak 4,ak 5,ak 10]⟩) (cs:=[I b.1,I b.2.1,I b.2.2.1,I b.2.2.2.1,I b.2.2.2.2.1,I b.2.2.2.2.2,br tH qm tI]) B8 U U (ph.box 2 rfl) au (show bg Tryd.prog (sizeOf 28)=some 7 by kernel_rfl) U U λw2 eS bm=>⟨(by subst Hk;exact⟨_,_,rfl,(ph.arr 3 rfl).mono (cj _) λ_ _ _ h=>bm _ _ h⟩),eS⟩
end Q7
end AE
end Go.Proofs.YtepcfjbfkedlpaaDoor
namespace Go.Proofs.YtepcfjbfkedlpaaDoor
open Go Go.Proofs Go.Shelf Go.RowKit Go.Lib
section
def akc:Go.Shelf.Ren:=⟨λ|212=>56|263=>82|264=>83|n=>n,λ|46=>104|51=>127|146=>128|53=>130|148=>131|n=>n,λ|n=>n⟩
theorem akd:Go.Proofs.Lays.n212 Tryd.prog akc:={
 mixed:=by kernel_rfl
 f212:=Tryd.func56.trans (congrArg some au)
 f263:=Tryd.func82.trans (congrArg some au)
 f264:=Tryd.func83.trans (congrArg some au)
 t46:=Tryd.underlying104
 a46:=Tryd.isAgg104
 z46:=Tryd.sizeOf104
 v46:=Tryd.zeroValue104
 t51:=Tryd.underlying127
 a51:=Tryd.isAgg127
 z51:=Tryd.sizeOf127
 v51:=Tryd.zeroValue127
 t53:=Tryd.underlying130
 a53:=Tryd.isAgg130
 z53:=Tryd.sizeOf130
 v53:=Tryd.zeroValue130
 t146:=Tryd.underlying128
 a146:=Tryd.isAgg128
 z146:=Tryd.sizeOf128
 v146:=Tryd.zeroValue128
 t148:=Tryd.underlying131
 a148:=Tryd.isAgg131
 z148:=Tryd.sizeOf131
 v148:=Tryd.zeroValue131}
open Go.RowKit Go.Lib in
theorem bits_Mul (x y:Nat) (aq:x<18446744073709551616) (bE:y<18446744073709551616) (w:ax):
 Calls Tryd.prog 56 #[.int .u64 x,.int .u64 y] w λe w'=>e= .returned (.tuple #[.int .u64 ((x*y/18446744073709551616:Nat):Int),.int .u64 ((x*y%18446744073709551616:Nat):Int)])/\w'=w:=Any.bits_Mul akd x y aq bE w
namespace AE
def jO (n i:Nat):List Bool:=List.replicate i true++List.replicate (n-i) false
theorem ZJ (n:Nat):jO n n=List.replicate n true:=by simp [jO]
theorem ake (n:Nat):(List.replicate n vM).take 0++[true].take (min [true].length ((List.replicate n vM).length-0))++(List.replicate n vM).drop (0+min [true].length ((List.replicate n vM).length-0))=jO n (min [true].length ((List.replicate n vM).length-0)):=by
 have bU:vM=false:=rfl;rw[bU,mw];cases n with
 |zero=>rfl
 |succ n=>
  have:min [true].length (n+1-0)=1:=by simp
  rw[this];simp [jO]
theorem akf {n i:Nat} (h:i<=n):(jO n i).take i++((jO n i).take i).take (min ((jO n i).take i).length ((jO n i).length-i))++(jO n i).drop (i+min ((jO n i).take i).length ((jO n i).length-i))=jO n (i+min ((jO n i).take i).length ((jO n i).length-i)):=by
 have ad:(jO n i).take i=List.replicate i true:=by
  unfold jO;rw[List.take_append_of_le_length (by simp)];simp
 have ag:(jO n i).length=n:=by simp [jO];omega
 rw[ad,ag,mw];generalize hm:min i (n-i)=m;have akg:m<=i:=by omega
 have Ka:m<=n-i:=by omega
 unfold jO;rw[List.drop_append,mw,List.drop_of_length_le (by simp),Nat.add_sub_cancel_left,List.take_replicate,List.drop_replicate,Nat.min_eq_left akg,List.nil_append,List.replicate_append_replicate];congr 2;omega
theorem akh {α:Type} {B:Nat} {M:Mem} {e:aK} {k:Nat} {enc:α->List J} {a:Option Addr} {n c:Nat} {l:List α} (h:dw B M e k enc (.slice a n c) l):l.length<=c:=by
 obtain⟨a7,c',he,ar⟩:=h.queue.cap;cases he;exact ar
section
variable [a1]
theorem ZK {x y r:J} {p q:Nat} (hp:dL [x,y]=true) (ao:aM r=true) (bp:eo [x,y]=[.int .u64 ((p:Nat):Int),.int .u64 ((q:Nat):Int)]) (b9:aJ r= .tuple ⟨[.int .u64 0,.int .u64 ((q:Nat):Int)]⟩) (ad:p=1) (ag:q<=9000000000000000000):i_ Tryd.prog (56,[x,y],r):=
 kK (a:= #[.int .u64 ((p:Nat):Int),.int .u64 ((q:Nat):Int)]) hp ao bp b9 λw _=>(bits_Mul p q aj aj w).mono λe w' he=>by
  obtain⟨rfl,rfl⟩:=he;subst ad;refine⟨?_,⟨rfl,rfl,rfl,cj _,λ_ _=>rfl⟩,cj _⟩;rw[Nat.one_mul,Nat.div_eq_of_lt aj,Nat.mod_eq_of_lt aj];rfl
end
end AE
end
end Go.Proofs.YtepcfjbfkedlpaaDoor
