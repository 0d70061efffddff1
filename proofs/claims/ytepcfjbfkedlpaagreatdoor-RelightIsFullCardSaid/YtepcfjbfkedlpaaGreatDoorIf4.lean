/- Parts of the proof. -/
import Derived.Test.YtepcfjbfkedlpaaGreatDoorIf3
import Derived.ProofKit
import Derived.Shelf.Bits.Mul64
import Derived.Ground.Names2Prog
set_option maxRecDepth 100000
set_option maxHeartbeats 4000000
noncomputable section
namespace Go.Proofs.YtepcfjbfkedlpaaGreatDoor
open Go Go.Proofs Go.RowKit
namespace AE
variable {P:aQ} [Lib P] {cf:h4} {B:Nat} {W:au} {ax:List ca} {post:U->List (aF P)->Prop} {ro:List (iy P)}
omit [Lib P] in
theorem tF {N n:Nat} {s:b6} {dst:Option Tmp} {r:U} {q:aT×List bM} (h:rG N n s dst r=some q):∃dM bH,dy s dM q.2=some bH/\nG n bH/\ql q.2=true/\gy N dM dst r=some q.1/\Nat.blt n eD=true:=by
 unfold rG at h;dsimp only at h;cases ad:Nat.blt n eD&&(zn s&&rF n (zm n s).2) with
 |false=>rw[ad] at h;cases h
 |true=>
  rw[ad,bw] at h;simp only [c0] at ad;obtain⟨az,av,ad⟩:=ad;obtain⟨bH,ho,h1,ae⟩:=OQ av ad;split at h
  ·rename_i sl hp
   cases h;exact⟨_,bH,ho,h1,ae,hp,az⟩
  ·cases h
theorem O1 (M M':Mem) {env:List U} {n:Nat} (aq:env.length=n):nb n (cA M env) (cA M' env):=tC M M' (cT:=[]) aq
theorem sD {M:Mem} {n:Nat} {env:List U} {v:U} (az:Nat.blt n eD=true) (aq:env.length=n) (ho:eV env) (h1:mA v=v): @aK (cA M (v::env)) (aj n)=v:=by
 rw[ld M (env:=v::env) (n:=n+1) ⟨h1,ho⟩ (by simp [aq])];show (bif Nat.beq 0 0 then (bif Nat.blt n eD then look (v::env) (n+1) n else .pointer (some ⟨n-eD,0,none⟩)) else .complex .f64 n 0)=v;rw[show Nat.beq 0 0=true from rfl,bw,az,bw];unfold look;rw[show Nat.beq (n+1-1) n=true by rw[Nat.add_sub_cancel];exact Nat.beq_refl n,bw]
omit [Lib P] in
theorem tG (L:List (aF P)) (i:Nat) (r:aF P):b3 (L.set i r)=(b3 L).set i r.res:=List.map_set
structure n5 (cf:h4) (B:Nat) (W:au) (ax:List ca) (ro:List (iy P)) (post:U->List (aF P)->Prop) (NX:Nat->aT->List bM->Option bs) (o:Option bP) (n:Nat) (env:List U) (L:List (aF P)) (aL:List (eK P)) (Q:Exit->Act->au->Prop) (M:Mem):Prop where
 dC:∀M,pb (aG W) ax M->fB ro M
 aq:env.length=n
 ho:eV env
 bj:bW B (aG W) ax M (b3 L)
 cont:∀{m:Nat} {sl:aT} {aU:List bM} {k:bs} {cT:List U} {L':List (aF P)} {M':Mem} {a:Act} {w:au},NX (n+m) sl aU=some k->dd B W ax ro post (n+m) (cT++env) L' aL k->cT.length=m->eV cT->bW B (aG W) ax M' (b3 L')->lC cf B W M' (cT++env) (db sl aU) a w->wpListIn (Fr none) 0 P (jS o) (dS P (gX o) Q) (jR o) a w
section
variable {NX:Nat->aT->List bM->Option bs} {n:Nat} {env:List U} {L:List (aF P)} {aL:List (eK P)} {Q:Exit->Act->au->Prop} {M:Mem} {o:Option bP}
omit [Lib P] in
theorem n5.rest (H:n5 cf B W ax ro post NX o n env L aL Q M) {m:Nat} {sl:aT} {aU:List bM} {k:bs} (h:NX (n+m) sl aU=some k) {cT:List U} {L':List (aF P)} (hw:dd B W ax ro post (n+m) (cT++env) L' aL k) (hm:cT.length=m) (h1:eV cT) {M':Mem} (tA:bW B (aG W) ax M' (b3 L')) {a:Act} {w:au} (ai:lC cf B W M' (cT++env) (db sl aU) a w):
 wpListIn (Fr none) 0 P (jS o) (dS P (gX o) Q) (jR o) a w:=H.cont h hw hm h1 tA ai
omit [Lib P] in
theorem agm (H:n5 cf B W ax ro post NX o n env L aL Q M) {e:jO} (he:N_ cf n o=some e) {k:bs} (h:NX (n+e.2.2.2) e.2.1 e.2.2.1=some k) (hw:dd B W ax ro post n env L aL (e.1 k)): @e0 (cA M env) fc P cf.N B W Q o:=by
 unfold N_ at he;split at he
 ·rename_i t p x cB
  cases ad:aM p&&aM x with
  |false=>rw[ad] at he;cases he
  |true=>
   rw[ad,bw] at he;simp only [c0] at ad;obtain⟨hp,ak⟩:=ad;obtain⟨q,a1,rfl⟩:=Option.map_eq_some_iff.1 he;obtain⟨dM,bH,c1,gW,hU,eg,_⟩:=tF a1;letI:=fc;have hm:∀M',fm (cA M env) (cA M' env) bH:=λM'=>C9 (O1 M M' H.aq) gW
   have gj:=λv=>ld M H.ho H.aq v
   cases hw with
   |OM i hL Bh Bi hj hu h1 cb ag=>
    refine Ua (bx:=env.reverse) rfl cB cb c1 eg hp ak ((gj p).trans Bh) ((gj x).trans Bi) hu h1 (H.bj.box i (kF hL)) hj hm (λM' jM b0 aS w ai=> ?_) (Nat.zero_le _) (f_ hU);refine H.rest (m:=0) (cT:=[]) h ag rfl trivial (M':=M') ?_ ai;rw[tG];exact H.bj.l_ i (kF hL) (v' jM b0)
   |VN i hL Bh Bi hj hu h1 cb ag=>
    refine M9 (bx:=env.reverse) rfl cB cb c1 eg hp ak ((gj p).trans Bh) ((gj x).trans Bi) hu h1 (H.bj.box i (kF hL)) hj hm (λM' jM b0 aS w ai=> ?_) (Nat.zero_le _) (f_ hU);refine H.rest (m:=0) (cT:=[]) h ag rfl trivial (M':=M') ?_ ai;rw[tG];exact H.bj.l_ i (kF hL) (v' jM b0)
   | @VO _ _ _ _ _ _ _ _ d K v l i j y u hL Bh af Bi hj hu h1 bg cb ag=>
     refine Uh (bx:=env.reverse) rfl cB cb K.len hj bg c1 eg hp ak ((gj p).trans Bh) ((gj x).trans Bi) hu h1 (H.bj.arr d (kF hL)) af hm (λM' jM b0 aS w ai=> ?_) (Nat.zero_le _) (f_ hU);refine H.rest (m:=0) (cT:=[]) h ag rfl trivial (M':=M') ?_ ai;rw[tG];exact H.bj.l_ d (kF hL) (EX jM b0)
   | @af1 _ _ _ _ _ _ _ _ d K v l i y hL Bh af Bi cb ag=>
     refine adk (bx:=env.reverse) rfl cB cb K.len K.one c1 eg hp ak ((gj p).trans Bh) ((gj x).trans Bi) (H.bj.arr d (kF hL)) af hm (λM' jM b0 aS w ai=> ?_) (Nat.zero_le _) (f_ hU);refine H.rest (m:=0) (cT:=[]) h ag rfl trivial (M':=M') ?_ ai;rw[tG];exact H.bj.l_ d (kF hL) (EX jM b0)
 ·cases he
omit [Lib P] in
theorem uX (H:n5 cf B W ax ro post NX o n env L aL Q M) {bH:ev} (gW:nG n bH) (M':Mem) (v:U):fm (cA M env) (cA M' (v::env)) bH:=C9 (tC M M' (cT:=[v]) H.aq) gW
omit [Lib P] in
theorem agn (H:n5 cf B W ax ro post NX o n env L aL Q M) {e:jO} (he:Ob P cf n o=some e) {k:bs} (h:NX (n+e.2.2.2) e.2.1 e.2.2.1=some k) (hw:dd B W ax ro post n env L aL (e.1 k)): @e0 (cA M env) fc P cf.N B W Q o:=by
 unfold Ob at he;split at he
 ·rename_i vs x s8
  cases hp:aM vs with
  |false=>rw[hp] at he;cases he
  |true=>
   rw[hp,bw] at he;split at he
   ·rename_i c gv
    cases yR:dW c with
    |false=>rw[yR] at he;cases he
    |true=>
     rw[yR,bw] at he;obtain⟨q,a1,rfl⟩:=Option.map_eq_some_iff.1 he;obtain⟨dM,bH,c1,gW,hU,eg,az⟩:=tF a1;letI:=fc;have gj:=λv=>ld M H.ho H.aq v
     have Jp:=λv=>sy M H.ho H.aq v
     have cb:∀K:hP P,P.underlying (xE o)=some (.slice K.e)->Oa P (xE o)=K.k:=λK aI=>by
      unfold Oa elemOf;rw[aI];simp only;rw[K.size]
     cases hw with
     | @VP _ _ _ _ _ _ _ _ d K v l lx hL av ak aI ie ad ag=>
       obtain⟨Jq,z,af,bG,uY,jv,lu⟩:=K.info;refine TK (l':=l++lx) (bx:=λa c=>(.slice a (l++lx).length c::env).reverse) (ec:=aj n) rfl s8 aI af bG uY jv lu K.pos K.len K.one c1 eg rfl (eF v)
        (TD hp ((gj vs).trans av) (H.bj.arr d (kF hL))) (ME (by rw[cb K aI] at gv;exact gv) K.len K.pos ((Jp c).trans ak)) ie ad (λM' a c=>uX H gW M' _) (λM' a c=>sD az H.aq H.ho rfl)
        (λM' a c jM b0 eb aP aS w ai=> ?_) (Nat.zero_le _) (f_ hU)
       refine H.rest (m:=1) (cT:=[.slice a (l++lx).length c]) h (ag a c) rfl ⟨rfl,trivial⟩ (M':=M') ?_ ai;rw[tG];exact H.bj.l_ d (kF hL) (M8 jM b0 aP)
     | @af2 _ _ _ _ _ _ _ _ d K v l lx hL av ak aI ie ad ag=>
       obtain⟨Jq,z,af,bG,uY,jv,lu⟩:=K.info;refine M_ (l':=l++lx) (bx:=λa c=>(.slice a (l++lx).length c::env).reverse) (ec:=aj n) rfl s8 aI af bG uY jv lu K.pos K.len K.one c1 eg rfl (eF v)
        (Nb hp ((gj vs).trans av) (H.bj.jh d (kF hL))) (ME (by rw[cb K aI] at gv;exact gv) K.len K.pos ((Jp c).trans ak)) ie ad (λM' a c=>uX H gW M' _) (λM' a c=>sD az H.aq H.ho rfl)
        (λM' a c jM b0 aP aS w ai=> ?_) (Nat.zero_le _) (f_ hU)
       refine H.rest (m:=1) (cT:=[.slice a (l++lx).length c]) h (ag a c) rfl ⟨rfl,trivial⟩ (M':=M') ?_ ai;rw[tG];exact H.bj.l_ d (kF hL) (Io jM b0 aP)
   ·cases he
 ·cases he
omit [Lib P] in
theorem ago (H:n5 cf B W ax ro post NX o n env L aL Q M) {e:jO} (he:Oc cf n o=some e) {k:bs} (h:NX (n+e.2.2.2) e.2.1 e.2.2.1=some k) (hw:dd B W ax ro post n env L aL (e.1 k)): @e0 (cA M env) fc P cf.N B W Q o:=by
 unfold Oc at he;split at he
 ·rename_i vs x s8
  cases ad:aM vs&&aM x with
  |false=>rw[ad] at he;cases he
  |true=>
   rw[ad,bw] at he;simp only [c0] at ad;obtain⟨hp,mb⟩:=ad;obtain⟨q,a1,rfl⟩:=Option.map_eq_some_iff.1 he;obtain⟨dM,bH,c1,gW,hU,eg,az⟩:=tF a1;letI:=fc;have gj:=λv=>ld M H.ho H.aq v
   cases hw with
   | @af3 _ _ _ _ _ _ _ _ d K v l ji lx hL av ak aI iU ie ad ag=>
     obtain⟨Jq,z,af,bG,uY,jv,lu⟩:=K.info;refine TK (l':=l++lx) (bx:=λa c=>(.slice a (l++lx).length c::env).reverse) (ec:=aj n) rfl s8 aI af bG uY jv lu K.pos K.len K.one c1 eg rfl (eF v)
      (TD hp ((gj vs).trans av) (H.bj.arr d (kF hL))) (AS mb ((gj x).trans ak) λw hw=>(iU M H.bj (H.dC M (Fo H.bj))).reads K.len hw) ie ad (λM' a c=>uX H gW M' _) (λM' a c=>sD az H.aq H.ho rfl)
      (λM' a c jM b0 eb aP aS w ai=> ?_) (Nat.zero_le _) (f_ hU)
     refine H.rest (m:=1) (cT:=[.slice a (l++lx).length c]) h (ag a c) rfl ⟨rfl,trivial⟩ (M':=M') ?_ ai;rw[tG];exact H.bj.l_ d (kF hL) (M8 jM b0 aP)
   | @VQ _ _ _ _ _ _ _ _ d K v l ji lx hL av ak aI iU ie ad ag=>
     obtain⟨Jq,z,af,bG,uY,jv,lu⟩:=K.info;refine M_ (l':=l++lx) (bx:=λa c=>(.slice a (l++lx).length c::env).reverse) (ec:=aj n) rfl s8 aI af bG uY jv lu K.pos K.len K.one c1 eg rfl (eF v)
      (Nb hp ((gj vs).trans av) (H.bj.jh d (kF hL))) (AS mb ((gj x).trans ak) λw hw=>(iU M H.bj (H.dC M (Fo H.bj))).reads K.len hw) ie ad (λM' a c=>uX H gW M' _) (λM' a c=>sD az H.aq H.ho rfl)
      (λM' a c jM b0 aP aS w ai=> ?_) (Nat.zero_le _) (f_ hU)
     refine H.rest (m:=1) (cT:=[.slice a (l++lx).length c]) h (ag a c) rfl ⟨rfl,trivial⟩ (M':=M') ?_ ai;rw[tG];exact H.bj.l_ d (kF hL) (Io jM b0 aP)
 ·cases he
omit [Lib P] in
theorem Bj (L:List (aF P)) (r:aF P):b3 (L++[r])=b3 L++[r.res]:=List.map_append
omit [Lib P] in
theorem agp (H:n5 cf B W ax ro post NX o n env L aL Q M) {e:jO} (he:Od cf n o=some e) {k:bs} (h:NX (n+e.2.2.2) e.2.1 e.2.2.1=some k) (hw:dd B W ax ro post n env L aL (e.1 k)): @e0 (cA M env) fc P cf.N B W Q o:=by
 unfold Od at he;split at he
 ·rename_i t x cB
  cases mb:aM x with
  |false=>rw[mb] at he;cases he
  |true=>
   rw[mb,bw] at he;obtain⟨q,a1,rfl⟩:=Option.map_eq_some_iff.1 he;obtain⟨dM,bH,c1,gW,hU,eg,az⟩:=tF a1;letI:=fc;have gj:=λv=>ld M H.ho H.aq v
   cases hw with
   | @mk _ _ _ _ _ _ _ K z m aI bG ak ie ad al ag=>
     obtain⟨Jq,V3,af,bG,uY,jv,pB⟩:=bG;refine Um (l':=List.replicate m z) (bx:=λa c=>(.slice a (List.replicate m z).length c::env).reverse) (ec:=aj n) rfl cB aI af bG uY jv pB K.len c1 eg rfl mb ((gj x).trans ak) ie ad al (λM' a c=>uX H gW M' _) (λM' a c=>sD az H.aq H.ho rfl)
      (λM' a c jM b0 aP aS w ai=> ?_) (Nat.zero_le _) (f_ hU)
     refine H.rest (m:=1) (cT:=[.slice a (List.replicate m z).length c]) h (ag a c) rfl ⟨rfl,trivial⟩ (M':=M') ?_ ai;rw[Bj];exact H.bj.new (Ip jM b0 aP)
 ·cases he
omit [Lib P] in
theorem agq (H:n5 cf B W ax ro post NX o n env L aL Q M) {e:jO} (he:Oe cf n o=some e) {k:bs} (h:NX (n+e.2.2.2) e.2.1 e.2.2.1=some k) (hw:dd B W ax ro post n env L aL (e.1 k)): @e0 (cA M env) fc P cf.N B W Q o:=by
 unfold Oe at he;split at he
 ·rename_i t x cB
  cases mb:aM x with
  |false=>rw[mb] at he;cases he
  |true=>
   rw[mb,bw] at he;obtain⟨q,a1,rfl⟩:=Option.map_eq_some_iff.1 he;obtain⟨dM,bH,c1,gW,hU,eg,az⟩:=tF a1;letI:=fc;have gj:=λv=>ld M H.ho H.aq v
   cases hw with
   | @lt _ _ _ _ _ _ _ K y u aI bG nn ak hu ag=>
     obtain⟨V3,bG⟩:=bG;refine aej (l':=[y]) (bx:=λa c=>(.slice a [y].length c::env).reverse) (ec:=aj n) rfl cB aI K.size bG K.pos nn K.len c1 eg rfl mb ((gj x).trans ak) hu (λM' a c=>uX H gW M' _) (λM' a c=>sD az H.aq H.ho rfl)
      (λM' a c jM b0 aP aS w ai=> ?_) (Nat.zero_le _) (f_ hU)
     refine H.rest (m:=1) (cT:=[.slice a [y].length c]) h (ag a c) rfl ⟨rfl,trivial⟩ (M':=M') ?_ ai;rw[Bj];exact H.bj.new (Ip jM b0 aP)
 ·cases he
omit [Lib P] in
theorem agr (H:n5 cf B W ax ro post NX o n env L aL Q M) {e:jO} (he:Og cf n o=some e) {k:bs} (h:NX (n+e.2.2.2) e.2.1 e.2.2.1=some k) (hw:dd B W ax ro post n env L aL (e.1 k)): @e0 (cA M env) fc P cf.N B W Q o:=by
 unfold Og at he;split at he
 ·rename_i t xs cB
  cases mb:dW xs with
  |false=>rw[mb] at he;cases he
  |true=>
   rw[mb,bw] at he;obtain⟨q,a1,rfl⟩:=Option.map_eq_some_iff.1 he;obtain⟨dM,bH,c1,gW,hU,eg,az⟩:=tF a1;letI:=fc;cases hw with
   | @oL _ _ _ _ _ _ _ K l us aI bG nn ak hu ag=>
     obtain⟨V3,bG⟩:=bG;refine afH (bx:=λa c=>(.slice a l.length c::env).reverse) (ec:=aj n) cB aI K.size bG K.pos nn K.len c1 eg rfl mb ((sy M H.ho H.aq xs).trans ak) hu (λM' a c=>uX H gW M' _) (λM' a c=>sD az H.aq H.ho rfl)
      (λM' a c jM b0 aP aS w ai=> ?_) (Nat.zero_le _) (f_ hU)
     refine H.rest (m:=1) (cT:=[.slice a l.length c]) h (ag a c) rfl ⟨rfl,trivial⟩ (M':=M') ?_ ai;rw[Bj];exact H.bj.new (Ip jM b0 aP)
 ·cases he
omit [Lib P] in
theorem ags (H:n5 cf B W ax ro post NX o n env L aL Q M) {e:jO} (he:Oh cf n o=some e) {k:bs} (h:NX (n+e.2.2.2) e.2.1 e.2.2.1=some k) (hw:dd B W ax ro post n env L aL (e.1 k)): @e0 (cA M env) fc P cf.N B W Q o:=by
 unfold Oh at he;split at he
 ·rename_i vs x s8
  cases hp:aM vs with
  |false=>rw[hp] at he;cases he
  |true=>
   rw[hp,bw] at he;split at he
   ·rename_i c gv
    cases yR:dW c with
    |false=>rw[yR] at he;cases he
    |true=>
     rw[yR,bw] at he;obtain⟨q,a1,rfl⟩:=Option.map_eq_some_iff.1 he;obtain⟨dM,bH,c1,gW,hU,eg,_⟩:=tF a1;letI:=fc;have hm:∀M',fm (cA M env) (cA M' env) bH:=λM'=>C9 (O1 M M' H.aq) gW
     have gj:=λv=>ld M H.ho H.aq v
     have Jp:=λv=>sy M H.ho H.aq v
     cases hw with
     | @rq _ _ _ _ _ _ _ _ i g ty e cs us j m vB hL av ak aI bG aJ rW h1 hj ag=>
       have hlen:us.length=c.length:=by rw[<-ak,Vl]
       refine aeo (bx:=env.reverse) (n:=us.length) rfl s8 aI bG c1 (by rw[hlen];exact eg) hp ((gj vs).trans av) (ME (enc:=λu:U=>[u]) gv (λ_=>rfl) cv ((Jp c).trans (ak.trans (by simp)))) rfl aJ rW h1 (H.bj.box i (kF hL)) hj hm (λM' jM b0 aS w ai=> ?_) (Nat.zero_le _) (f_ hU);refine H.rest (m:=0) (cT:=[]) h ag rfl trivial (M':=M') ?_ ai;rw[tG];exact H.bj.l_ i (kF hL) (v' jM b0)
   ·cases he
 ·cases he
omit [Lib P] in
theorem agt (H:n5 cf B W ax ro post NX o n env L aL Q M) {e:jO} (he:Oi cf n o=some e) {k:bs} (h:NX (n+e.2.2.2) e.2.1 e.2.2.1=some k) (hw:dd B W ax ro post n env L aL (e.1 k)): @e0 (cA M env) fc P cf.N B W Q o:=by
 unfold Oi at he;split at he
 ·rename_i t x cB
  cases mb:aM x with
  |false=>rw[mb] at he;cases he
  |true=>
   rw[mb,bw] at he;obtain⟨q,a1,rfl⟩:=Option.map_eq_some_iff.1 he;obtain⟨dM,bH,c1,gW,hU,eg,az⟩:=tF a1;letI:=fc;have gj:=λv=>ld M H.ho H.aq v
   cases hw with
   | @pc _ _ _ _ _ _ _ u cs ak hu ag=>
     refine CK (bx:=λg=>(.pointer (some ⟨g,0,none⟩)::env).reverse) (ec:=aj n) cB mb ((gj x).trans ak) hu c1 eg rfl (λM' g=>uX H gW M' _) (λM' g=>sD az H.aq H.ho rfl)
      (λM' g xB jM b0 aS w ai=> ?_) (Nat.zero_le _) (f_ hU)
     refine H.rest (m:=1) (cT:=[.pointer (some ⟨g,0,none⟩)]) h (ag g) rfl ⟨rfl,trivial⟩ (M':=M') ?_ ai;rw[Bj];exact H.bj.new (xq jM xB b0)
 ·cases he
omit [Lib P] in
theorem agu (H:n5 cf B W ax ro post NX o n env L aL Q M) {e:jO} (he:Oj cf n o=some e) {k:bs} (h:NX (n+e.2.2.2) e.2.1 e.2.2.1=some k) (hw:dd B W ax ro post n env L aL (e.1 k)): @e0 (cA M env) fc P cf.N B W Q o:=by
 unfold Oj at he;split at he
 ·rename_i t cB
  obtain⟨q,a1,rfl⟩:=Option.map_eq_some_iff.1 he;obtain⟨dM,bH,c1,gW,hU,eg,az⟩:=tF a1;letI:=fc;cases hw with
  | @nE _ _ _ _ _ _ z cs bG hu ag=>
    refine M1 (bx:=λg=>(.pointer (some ⟨g,0,none⟩)::env).reverse) (ec:=aj n) cB bG c1 eg rfl (λM' g=>uX H gW M' _) (λM' g=>sD az H.aq H.ho rfl)
     (λM' g vZ xB agv b0 aS w ai=> ?_) (Nat.zero_le _) (f_ hU)
    refine H.rest (m:=1) (cT:=[.pointer (some ⟨g,0,none⟩)]) h (ag g) rfl ⟨rfl,trivial⟩ (M':=M') ?_ ai;rw[Bj];exact H.bj.new (xq (B:=B) (iJ.mk' vZ (by rw[agv,hu])) xB b0)
 ·cases he
omit [Lib P] in
theorem agw (H:n5 cf B W ax ro post NX o n env L aL Q M) {e:jO} (he:Ok cf n o=some e) {k:bs} (h:NX (n+e.2.2.2) e.2.1 e.2.2.1=some k) (hw:dd B W ax ro post n env L aL (e.1 k)): @e0 (cA M env) fc P cf.N B W Q o:=by
 unfold Ok at he;split at he
 ·rename_i t cB
  obtain⟨q,a1,rfl⟩:=Option.map_eq_some_iff.1 he;obtain⟨dM,bH,c1,gW,hU,eg,az⟩:=tF a1;letI:=fc;cases hw with
  | @zj _ _ _ _ _ _ ag=>
    refine afC (bx:=λg=>(.map (some g)::env).reverse) (ec:=aj n) cB c1 eg rfl (λM' g=>uX H gW M' _) (λM' g=>sD az H.aq H.ho rfl)
     (λM' g xB vZ jM b0 aS w ai=> ?_) (Nat.zero_le _) (f_ hU)
    refine H.rest (m:=1) (cT:=[.map (some g)]) h (ag g) rfl ⟨rfl,trivial⟩ (M':=M') ?_ ai;rw[Bj];exact H.bj.new (afF jM xB b0)
 ·cases he
omit [Lib P] in
theorem agx (H:n5 cf B W ax ro post NX o n env L aL Q M) {e:jO} (he:Ol cf n o=some e) {k:bs} (h:NX (n+e.2.2.2) e.2.1 e.2.2.1=some k) (hw:dd B W ax ro post n env L aL (e.1 k)): @e0 (cA M env) fc P cf.N B W Q o:=by
 unfold Ol at he;split at he
 ·rename_i t m i x cB
  cases ad:aM m&&(aM i&&aM x) with
  |false=>rw[ad] at he;cases he
  |true=>
   rw[ad,bw] at he;simp only [c0] at ad;obtain⟨hV,iH,mc⟩:=ad;obtain⟨q,a1,rfl⟩:=Option.map_eq_some_iff.1 he;obtain⟨dM,bH,c1,gW,hU,eg,az⟩:=tF a1;letI:=fc;have hm:∀M',fm (cA M env) (cA M' env) bH:=λM'=>C9 (O1 M M' H.aq) gW
   have gj:=λv=>ld M H.ho H.aq v
   cases hw with
   | @zk _ _ _ _ _ eR uG _ _ _ FH jT _ d g es K b0 aI hL v_ af ak ag aP al=>
     have hx:=kF hL;refine afD (bx:=env.reverse) (g:=g) (es:=es) b0 cB aI c1 eg hV iH mc ((gj m).trans v_) ((gj i).trans af) ((gj x).trans ak) (H.bj.sp.ok d _ hx) (H.bj.low g ⟨d,_,hx,rfl⟩) ag aP hm (λM' jM agy aS w ai=> ?_) (Nat.zero_le _) (f_ hU);refine H.rest (m:=0) (cT:=[]) h al rfl trivial (M':=M') ?_ ai;rw[tG];exact H.bj.l_ d hx (afE jM agy)
 ·cases he
theorem agz (H:n5 cf B W ax ro post NX o n env L aL Q M) {e:jO} (he:Om P cf n o=some e) {k:bs} (h:NX (n+e.2.2.2) e.2.1 e.2.2.1=some k) (hw:dd B W ax ro post n env L aL (e.1 k)): @e0 (cA M env) fc P cf.N B W Q o:=by
 unfold Om at he;split at he
 ·rename_i f args r m nU
  cases ad:aM r&&(n3 n args&&dW args) with
  |false=>rw[ad] at he;cases he
  |true=>
   rw[ad,bw] at he;simp only [c0] at ad;obtain⟨Ai,alH,O2⟩:=ad;obtain⟨q,a1,rfl⟩:=Option.map_eq_some_iff.1 he;obtain⟨dM,bH,c1,gW,hU,eg,az⟩:=tF a1;letI:=fc;have yE:∃bt,uE P o=some (f,args,bt):=by
    unfold N5 at nU;split at nU
    ·rename_i iC fM bt yE
     cases ad:dW fM&&n3 n fM with
     |false=>rw[ad] at nU;cases nU
     |true=>
      rw[ad,bw] at nU;split at nU
      ·cases nU;exact⟨bt,yE⟩
      ·cases nU
    ·cases nU
   obtain⟨bt,yE⟩:=yE;have Is:rm P o=(f,args,bt):=by unfold rm;rw[yE];rfl
   cases hw with
   | @call _ _ _ _ _ _ _ _ _ Y is ij vs kS uW hl hm h1 AF ag=>
     refine Un (bx:=λy=>((vs y).reverse++env).reverse) (r:=λy=>ex ((vs y).reverse++env) (n+m) r) (A6:=λy=>b3 (kS y++uW y)) H.bj is (λy=>b3 (kS y)) (λy=>b3 (uW y)) (by rw[yE];rfl) (by rw[Is]) (by rw[Is]) c1 eg (by rw[List.length_map];exact ij)
      (λM' y=>ld M' (rC (oK (h1 y)) H.ho) (by have:=H.aq;simp only [List.length_append,List.length_reverse,hm];omega) r) (λy=>List.map_append) (λw hw dI aA=> ?_) (λy M'=>C9 (tC M M' H.aq) gW) (λM' y cm aS w ai=> ?_) (λy=>by rw[List.length_map];exact hl y) O2 Ai (Nat.zero_le _) (f_ hU)
     ·rw[sy M H.ho H.aq args]
      exact AF w (VX H.dC H.bj hw) dI aA
     ·refine H.rest (m:=m) (cT:=(vs y).reverse) h (ag y) (by rw[List.length_reverse,hm]) (oK (h1 y)) (M':=M') ?_ ai
      rw[show b3 (uV L is (kS y)++uW y)=b3 (uV L is (kS y))++b3 (uW y) from List.map_append,VM];exact cm
 ·cases he
theorem agA {G:iX} {cs:List iE} (H:n5 cf B W ax ro post NX o n env L aL Q M) (eL:oN cf B W ax ro post G) (al:mi cf B W ax post cs aL Q env) {op:Oper} {r:List Oper} {os:Array Oper} {s:b6} {ks:List fe} {e:jO} (he:On n (some (.oper op r os s ks))=some e) {k:bs} (h:qz P cf G (n+e.2.2.2) cs (.ops (op::r) os ks) e.2.1 e.2.2.1=some k) (hw:dd B W ax ro post n env L aL (e.1 k)): @e0 (cA M env) fc P cf.N B W Q (some (.oper op r os s ks)):=by
 unfold On at he;split at he
 ·rename_i t b Mi
  split at he
  ·rename_i c m cap O2
   split at he
   ·rename_i bH gW
    cases ad:N6 n bH&&(ql (sA (cW (some (.oper op r os s ks))).A b 0)&&(dW c&&(Nat.blt n eD&&(Nat.ble (sA (cW (some (.oper op r os s ks))).A b 0).length b&&(Nat.blt 0 m&&Nat.ble m cap))))) with
    |false=>rw[ad] at he;cases he
    |true=>
     rw[ad,bw] at he;simp only [c0] at ad;obtain⟨jK,jY,rY,t_,GX,Kt,Ku⟩:=ad;obtain⟨sl,eZ,rfl⟩:=Option.map_eq_some_iff.1 he;letI:=fc;cases hw with
     | @sz _ _ _ _ _ _ _ _ K xs ak hm ag=>
       refine Nj (q:=n) (bx:=λg=>(.slice (some ⟨g,0,none⟩) m cap::env).reverse) O2 K.len hm (Nat.blt_eq.mp Kt) (Nat.ble_eq.mp Ku) rY ((sy M H.ho H.aq c).trans ak) (Nat.ble_eq.mp GX) gW (λM' g=>uX H (af4 jK) M' _) eZ (λg=> ?_) (λM' g j3 vZ xB b0 Im=> ?_) (Nat.zero_le _) (f_ jY)
       ·exact(@Hp (cA M (.slice (some ⟨g,0,none⟩) m cap::env)) n).symm.trans (sD t_ H.aq H.ho rfl)
       ·refine⟨_,rfl,λa w ai=> ?_⟩
        refine tE eL h (ag g) (by simp [H.aq]) ⟨rfl,H.ho⟩ (al.ext [_]) (M:=M') ?_ ai;rw[Bj];exact H.bj.new (Nl j3 xB b0 Im)
   ·cases he
  ·cases he
 ·cases he
omit [Lib P] in
theorem uZ {a b:Option jO} {e:jO} (h:sB a b=some e):a=some e\/b=some e:=by
 unfold sB at h;split at h
 ·exact .inl h
 ·exact .inr h
theorem V4 (H:n5 cf B W ax ro post NX o n env L aL Q M) {e:jO} (he:Jf P cf n o=some e) {k:bs} (h:NX (n+e.2.2.2) e.2.1 e.2.2.1=some k) (hw:dd B W ax ro post n env L aL (e.1 k)): @e0 (cA M env) fc P cf.N B W Q o:=by
 unfold Jf at he;rcases uZ he with he|he
 ·exact agm H he h hw
 rcases uZ he with he|he
 ·exact agn H he h hw
 rcases uZ he with he|he
 ·exact ago H he h hw
 rcases uZ he with he|he
 ·exact agp H he h hw
 rcases uZ he with he|he
 ·exact agq H he h hw
 rcases uZ he with he|he
 ·exact agr H he h hw
 rcases uZ he with he|he
 ·exact ags H he h hw
 rcases uZ he with he|he
 ·exact agt H he h hw
 rcases uZ he with he|he
 ·exact agu H he h hw
 rcases uZ he with he|he
 ·exact agw H he h hw
 rcases uZ he with he|he
 ·exact agx H he h hw
 ·exact agz H he h hw
end
section
variable {G:iX} {n:Nat} {env:List U} {L:List (aF P)} {aL:List (eK P)} {cs:List iE} {Q:Exit->Act->au->Prop} {M:Mem}
structure Bk (cf:h4) (B:Nat) (W:au) (ax:List ca) (ro:List (iy P)) (post:U->List (aF P)->Prop) (G:iX) (n:Nat) (env:List U) (L:List (aF P)) (aL:List (eK P)) (cs:List iE) (Q:Exit->Act->au->Prop) (M:Mem):Prop where
 dC:∀M,pb (aG W) ax M->fB ro M
 eL:oN cf B W ax ro post G
 aq:env.length=n
 ho:eV env
 al:mi cf B W ax post cs aL Q env
 bj:bW B (aG W) ax M (b3 L)
theorem Bk.nF (H:Bk cf B W ax ro post G n env L aL cs Q M) (o:Option bP):n5 cf B W ax ro post (λfz sl aU=>qz P cf G fz cs (Vz o) sl aU) o n env L aL Q M where
 dC:=H.dC
 aq:=H.aq
 ho:=H.ho
 bj:=H.bj
 cont h hw hm h1 tA ai:=tE H.eL h hw (by have:=H.aq;simp only [List.length_append];omega) (rC h1 H.ho) (H.al.ext _) tA ai
theorem agB (H:Bk cf B W ax ro post G n env L aL cs Q M) {o:Option bP} {t:bs} (h:OD P cf G n cs o=some t) (hw:dd B W ax ro post n env L aL t): @e0 (cA M env) fc P cf.N B W Q o:=by
 unfold OD at h;split at h
 ·rename_i oy sl aU m he
  obtain⟨k,ag,rfl⟩:=Option.map_eq_some_iff.1 h;exact V4 (H.nF o) he ag hw
 ·cases h
end
omit [Lib P] in
theorem O3:∀(a b:bs),jx a b=true->a=b:=by
 intro a
 induction a<;>intro b h<;>cases b<;>simp only [jx,c0,Bool.false_eq_true,Oy,decide_eq_true_eq] at h
 case o.o cd _ _ _ _ _=>rw[Lx h.1,gx _ _ h.2.1,ct h.2.2.1,h.2.2.2.1,cd _ h.2.2.2.2]
 case s.s rS rT _ _ _ _=>rw[Lx h.1,h.2.1,rS _ h.2.2.1,rT _ h.2.2.2]
 case c.c cd _ _ _ _ _=>rw[ct h.1,qc _ _ h.2.1,gx _ _ h.2.2.1,ct h.2.2.2.1,cd _ h.2.2.2.2]
 case cs.cs rS rT _ _ _ _=>rw[ct h.1,qc _ _ h.2.1,rS _ h.2.2.1,rT _ h.2.2.2]
 case c6.c6 rS rT _ _ _=>rw[gx _ _ h.1,rS _ h.2.1,rT _ h.2.2]
 case rD.rD rS rT agC _ _ _ _ _=>rw[gx _ _ h.1,rS _ h.2.1,rT _ h.2.2.1,ct h.2.2.2.1,agC _ h.2.2.2.2]
 case no.no=>rfl
 case oL.oL cd _ _ _=>rw[ct h.1,qc _ _ h.2.1,cd _ h.2.2]
 case alt.alt rS rT _ _=>rw[rS _ h.1,rT _ h.2]
 case pM.pM=>rw[ct h.1,gx _ _ h.2]
 case rq.rq cd _ _ _ _=>rw[ct h.1,gx _ _ h.2.1,qc _ _ h.2.2.1,cd _ h.2.2.2]
 case ret.ret=>rw[gx _ _ h]
 case back.back=>rw[qc _ _ h]
 case loop.loop cd _ _ _=>rw[qc _ _ h.1,ct h.2.1,cd _ h.2.2]
 case gJ.gJ cd _=>rw[cd _ h]
 case st.st cd _ _ _ _=>rw[ct h.1,gx _ _ h.2.1,gx _ _ h.2.2.1,cd _ h.2.2.2]
 case uR.uR cd _ _ _ _=>rw[ct h.1,gx _ _ h.2.1,qc _ _ h.2.2.1,cd _ h.2.2.2]
 case uS.uS cd _ _ _ _=>rw[ct h.1,gx _ _ h.2.1,gx _ _ h.2.2.1,cd _ h.2.2.2]
 case mk.mk cd _ _ _=>rw[ct h.1,gx _ _ h.2.1,cd _ h.2.2]
 case sz.sz cd _ _ _ _=>rw[qc _ _ h.1,ct h.2.1,ct h.2.2.1,cd _ h.2.2.2]
 case lt.lt cd _ _ _=>rw[ct h.1,gx _ _ h.2.1,cd _ h.2.2]
 case pc.pc cd _ _ _=>rw[ct h.1,gx _ _ h.2.1,cd _ h.2.2]
 case nE.nE cd _ _=>rw[ct h.1,cd _ h.2]
 case zj.zj cd _ _=>rw[ct h.1,cd _ h.2]
 case zk.zk cd _ _ _ _ _=>rw[ct h.1,gx _ _ h.2.1,gx _ _ h.2.2.1,gx _ _ h.2.2.2.1,cd _ h.2.2.2.2]
 case call.call cd _ _ _ _ _=>rw[ct h.1,qc _ _ h.2.1,gx _ _ h.2.2.1,ct h.2.2.2.1,cd _ h.2.2.2.2]
omit [Lib P] in
theorem agD {x:bs} {n:Nat} {env:List U} {L:List (aF P)} {aL:List (eK P)}:∀(t:bs),FC x t=true->dd B W ax ro post n env L aL t->dd B W ax ro post n env L aL x:=by
 intro t
 induction t with
 |alt a b _ cd=>
  intro h hw;cases hw with
  |alt h1 ae=>
   have h:(jx x a||FC x b)=true:=h;rw[Bool.or_eq_true] at h;rcases h with h|h
   ·rw[O3 _ _ h];exact h1
   ·exact cd h ae
 |_=>exact λh hw=>by rw[O3 _ _ h];exact hw
omit [Lib P] in
theorem O4 {n:Nat} {env:List U} {L:List (aF P)} {aL:List (eK P)}:∀{l:List (Option bs)} {t:bs},Jk l=some t->dd B W ax ro post n env L aL t->∀x∈l,∃y,x=some y/\dd B W ax ro post n env L aL y
 |[],_,h,_=>by cases h
 |[a],t,h,hw=>λx ak=>by
  rw[List.mem_singleton] at ak;rw[ak];exact⟨t,h,hw⟩
 |a::b::r,t,h,hw=>by
  unfold Jk at h;split at h
  ·rename_i x y hr
   cases he:FC x y with
   |false=>
    rw[he,ei,cx] at h;subst h;cases hw with
    |alt h1 ae=>
     intro z bG;rcases List.mem_cons.1 bG with rfl|bG
     ·exact⟨x,rfl,h1⟩
     ·exact O4 hr ae z bG
   |true=>
    rw[he,bw,cx] at h;subst h;intro z bG;rcases List.mem_cons.1 bG with rfl|bG
    ·exact⟨x,rfl,agD _ he hw⟩
    ·exact O4 hr hw z bG
  ·cases h
omit [Lib P] in
theorem agE {os:Array Oper} {K:Act->au->Prop} {Q:Exit->Act->au->Prop} {i:Nat} {o:Oper} {a:Act} {w:au} (ho:os[i]? =some o) (h:wpListIn (Fr none) 0 P os (Exit.then K Q) [o] a w):wpOpIn (Fr none) 0 P os Q i K a w:=by
 unfold wpListIn at h;unfold wpOpIn;rw[ho];simp only;split at h
 ·rename_i iv
  rw[aN iv];unfold Oper.wpIn at h ⊢;refine⟨h.1,?_⟩;have ae:=h.2;generalize (o.semAt (Fr none).round a.eval).run P w=r at ae;cases r with
  |ok x w'=>cases x<;>exact ae
  |halt x w'=>cases x<;>exact ae
 ·rename_i iv
  rw[aO iv];exact h
section
variable {G:iX} {n:Nat} {env:List U} {L:List (aF P)} {aL:List (eK P)} {cs:List iE} {Q:Exit->Act->au->Prop} {M:Mem}
omit [Lib P] in
theorem V5 (eL:oN cf B W ax ro post G) {dK:iI} {F:jF} {T:jN} {sl:aT} {aU:List bM} {t:bs} (h:FD G n cs dK F T sl aU=some t) (hw:dd B W ax ro post n env L aL t) (aq:env.length=n) (ho:eV env) (al:mi cf B W ax post cs aL Q env) (cF:nc B W ax L env F) (eb:nf B W ax L env T) (bj:bW B (aG W) ax M (b3 L)) {a:Act} {w:au} (ai:lC cf B W M env (db sl aU) a w):dK.kE P Q a w:=
 Jo eL h hw aq ho al cF eb bj λad=>C' (FJ n _) (VW ad) ai
omit [Lib P] in
theorem V6 (eL:oN cf B W ax ro post G) {dK:iI} {F:jF} {T:jN} {s:b6} {t:bs} (h:Jl G n cs dK F T s=some t) (hw:dd B W ax ro post n env L aL t) (aq:env.length=n) (ho:eV env) (al:mi cf B W ax post cs aL Q env) (cF:nc B W ax L env F) (eb:nf B W ax L env T) (bj:bW B (aG W) ax M (b3 L)) {a:Act} {w:au} (ai:lC cf B W M env s a w):dK.kE P Q a w:=by
 unfold Jl at h;cases av:zn s with
 |false=>rw[av] at h;cases h
 |true=>
  rw[av,bw] at h;exact Jo eL h hw aq ho al cF eb bj λad=>C' (FJ n _) (OQ av ad) ai
omit [Lib P] in
theorem O5 [dX P] {N:Nat} {os:Array Oper} {l:Array Bool} {sl:aT}:∀{q8:List Nat} {i:Nat} {eu:aT},FE P N os l sl q8=some (i,eu)->i∈q8/\Jm P N os l sl i=some eu
 |[],i,eu,h=>by cases h
 |j::r,i,eu,h=>by
  unfold FE at h;split at h
  ·rename_i q a1
   cases h;exact⟨List.mem_cons_self,a1⟩
  ·obtain⟨h1,ae⟩:=O5 h
   exact⟨List.mem_cons_of_mem _ h1,ae⟩
omit [Lib P] in
theorem agF [aY] {φ:bQ} {ρ':Operand->U} {o:Oper} {t:Operand} {i:Nat} {x v:U} (ak:aD φ x (ρ' t)) (h:DS x i=some v) (cj:o.op= .extract t i):∃aB,(∀w,(execOp ρ' o).run P w= .ok (.value aB) w)/\aD φ v aB:=by
 cases x with
 |tuple cs=>
  obtain⟨cs⟩:=cs;have h:cs[i]? =some v:=h;cases a1:ρ' t with
  |tuple cs'=>
   rw[a1] at ak;cases ak with
   |tuple _ _ h1 ae=>
    obtain⟨b8,_⟩:=List.getElem?_eq_some_iff.1 h;have q2:i<cs'.size:=by rw[<-h1];simpa using b8
    refine⟨cs'[i],λw=> ?_,?_⟩
    ·unfold execOp
     rw[cj];simp [a1,Instr.extract,q2,Sem.run,pure]
    ·have:=ae i (by simpa using b8)
     simp only [e5,List.getElem?_toArray,h,Option.getD_some] at this;simpa [q2] using this
  |_=>rw[a1] at ak;cases ak
 |_=>cases h
omit [Lib P] in
theorem agG [aY] [dX P] (cF:qe P) {φ:bQ} {ρ ρ':Operand->U} {o:Oper} {v:U} (cJ:∀x,aD φ (ρ x) (ρ' x)) (h:OA P ρ o=some v):(∃aB,(∀w,(execOp ρ' o).run P w= .ok (.value aB) w)/\aD φ v aB)/\C7 o=true:=by
 unfold OA at h;unfold C7;split at h
 ·rename_i c x y cj
  split at h
  ·rename_i b al
   cases h;have ad:=cJ c;rw[al] at ad;have dN:ρ' c= .bool b:=by
    generalize ρ' c=u at ad;cases ad;rfl
   refine⟨⟨bif b then ρ' x else ρ' y,λw=> ?_,?_⟩,by rw[cj]⟩
   ·unfold execOp
    rw[cj];simp only [dN];cases b<;>rfl
   ·cases b
    ·exact cJ y
    ·exact cJ x
  ·cases h
 ·rename_i t i cj
  refine⟨agF (cJ t) h cj,by rw[cj]⟩
 case h_9 c cj=>
  split at h
  ·rename_i b ad
   split at h
   ·rename_i f aP
    cases hp:B_ f with
    |false=>rw[hp] at h;cases h
    |true=>
     rw[hp,bw] at h;exact⟨Cc cF cJ h λiC nt=>by rw[aP] at nt;cases nt;exact hp,by rw[cj];dsimp only;rw[ad]⟩
   ·cases h
  ·cases h
 case h_10 cj=>exact⟨Cc cF cJ h λf aP=>by unfold qd at aP;rw[cj] at aP;cases aP;rfl,by rw[cj]⟩
 all_goals first
  |(rename_i cj;refine⟨Eb cF cJ h,by rw[cj]⟩)
  |cases h
omit [Lib P] in
theorem V7 [aY] {N:Nat} {ds:List Deferred} {os:Array Oper} {φ:bQ} {sl:aT} {a:Act} {o:Oper} {b:Bool} (av:fu N ds φ sl a) (h:Oz N os sl o=some b):Region.wanted o (yielded os a.tmps)=b:=by
 unfold Oz at h;unfold Region.wanted;split at h
 ·rename_i az
  rw[az];cases h;rfl
 ·rename_i j want az
  rw[az];dsimp only;split at h
  ·rename_i t aI
   cases b8:Nat.blt t N with
   |false=>rw[b8] at h;cases h
   |true=>
    rw[b8,bw] at h;split at h
    ·rename_i b' dN
     cases h;have aC:=av.get t _ dN;have ad:a.tmps.getD t undef= .bool b':=by
      generalize a.tmps.getD t undef=u at aC;cases aC;rfl
     have Jr:t<a.tmps.size:=by rw[av.size];exact Nat.blt_eq.mp b8
     have bg:yielded os a.tmps j=some b':=by
      unfold yielded;have a_:((os[j]?).bind (·.dst)).bind (a.tmps[·]?)=some (.bool b'):=by
       have:(os[j]?).bind (·.dst)=some t:=aI;rw[this];simp only [Option.bind_some];rw[e5,Array.getElem?_eq_getElem Jr] at ad;rw[Array.getElem?_eq_getElem Jr];exact congrArg some ad
      rw[a_]
     rw[bg];cases b'<;>cases want<;>rfl
    ·cases h
  ·cases h
omit [Lib P] in
theorem V8 [aY] [dX P] (cF:qe P) {N:Nat} {ds:List Deferred} {os:Array Oper} {Q:Exit->Act->au->Prop} (nW:Region.noSelect os=true) (pE:∀c a w,¬Q (.panic c) a w) {φ:bQ} {w:au} {bb:Nat} {l:Array Bool} {sl eu:aT} {i:Nat} {a:Act} (av:fu N ds φ sl a) (af:i∈Region.ready .any os l) (h:Jm P N os l sl i=some eu)
  (ag:∀aS,fu N ds φ eu aS->wpAnyIn (Fr none) 0 P .any os Q bb (l.setIfInBounds i true) aS w):wpAnyIn (Fr none) 0 P .any os Q (bb+1) l a w:=by
 have about:∀{o:Oper},C7 o=true->∀w,o.about P w a.eval=none:=by
  intro o ho w;unfold Oper.about;unfold C7 at ho;split at ho
  ·rename_i c al
   split at ho
   ·rename_i b ad
    unfold resolve;simp only [al,ad];rfl
   ·cases ho
  ·rename_i aq
   split
   ·rename_i c al
    exact absurd al (aq c)
   ·rfl
 unfold Jm at h;split at h
 ·rename_i o ho
  split at h
  ·rename_i az
   have vR:=V7 av az;split at h
   ·rename_i v uj
    cases Av:Region.free .any os l i with
    |false=>rw[Av] at h;cases h
    |true=>
     rw[Av,bw] at h;obtain⟨⟨aB,eQ,aC⟩,iD⟩:=agG cF (gg (hX φ) av.get) uj;exact wpAnyIn_take (F:=Fr none) rfl ho nW Av (List.contains_iff_mem.2 af) (λc a w h=>absurd h (pE c _ w)) ⟨.inl ⟨vR,eQ⟩,about iD⟩ (ag _ (av.put aC h))
   ·cases h
  ·rename_i az
   have vR:=V7 av az;cases ad:C7 o&&Region.free .any os l i with
   |false=>rw[ad] at h;cases h
   |true=>
    rw[ad,bw] at h;rw[c0] at ad;exact wpAnyIn_take (F:=Fr none) rfl ho nW ad.2 (List.contains_iff_mem.2 af) (λc a w h=>absurd h (pE c _ w)) ⟨.inr ⟨vR,rfl⟩,about ad.1⟩ (ag _ (av.put (aD.yw φ) h))
  ·cases h
 ·cases h
omit [Lib P] in
theorem V9 [aY] [dX P] (cF:qe P) {N:Nat} {ds:List Deferred} {os:Array Oper} {Q:Exit->Act->au->Prop} (nW:Region.noSelect os=true) (pE:∀c a w,¬Q (.panic c) a w) {φ:bQ} {w:au}:∀(bb:Nat) (l:Array Bool) (sl:aT) (a:Act),fu N ds φ sl a->
  (∀aS,fu N ds φ (C8 P N os bb l sl).2.2 aS->wpAnyIn (Fr none) 0 P .any os Q (C8 P N os bb l sl).1 (C8 P N os bb l sl).2.1 aS w)->wpAnyIn (Fr none) 0 P .any os Q bb l a w
 |0,l,sl,a,av,ag=>ag a av
 |bb+1,l,sl,a,av,ag=>by
  unfold C8 at ag;split at ag
  ·rename_i i eu af
   obtain⟨h1,ae⟩:=O5 af;exact V8 cF nW pE av h1 ae λaS mQ=>V9 cF nW pE bb _ eu aS mQ ag
  ·exact ag a av
theorem agH (cD:P.follows .mixedOrders=true) (H:Bk cf B W ax ro post G n env L aL cs Q M) {bb:Nat} {os:Array Oper} {listed:Array Bool} {ks:List fe} {s:b6} {F:jF} {T:jN} {i:Nat} {t:bs} (h:anyOp P cf G n cs bb os listed ks s F T i=some t) (hw:dd B W ax ro post n env L aL t) (cF:nc B W ax L env F) (eb:nf B W ax L env T) {a:Act} {w:au} (ai:lC cf B W M env s a w):
  wpOpIn (Fr none) 0 P os (dS P ks Q) i (wpAnyIn (Fr none) 0 P .any os (dS P ks Q) bb (listed.setIfInBounds i true)) a w:=by
 unfold anyOp at h;split at h
 ·cases h
 ·rename_i o ho
  refine agE ho ?_;letI:=cA M env;letI:=fc;split at h
  ·rename_i eu bt cB
   letI:dX P:=⟨F⟩;letI:r' P:=⟨T⟩;have cH:=yU (gl:= .nil) (bb:=1000) cD (cF M H.bj []) (λp hp=>(eb M H.bj [] p hp).Mm) cf.d;exact Th (l1:=[o]) (s:=s) cH [] (by simp only [vI,cB]) ai λaS w' xf=>V6 (dK:= .any bb os (listed.setIfInBounds i true) ks) H.eL h hw H.aq H.ho H.al cF eb H.bj xf
  ·split at h
   ·rename_i oy dT VJ m he
    obtain⟨k,ag,rfl⟩:=Option.map_eq_some_iff.1 h;have agI:n5 cf B W ax ro post (λfz sl aU=>FD G fz cs (.any bb os (listed.setIfInBounds i true) ks) (Ft cf.marks) [] sl aU) (some (.oper o [] os s [])) n env L aL (Exit.then (wpAnyIn (Fr none) 0 P .any os (dS P ks Q) bb (listed.setIfInBounds i true)) (dS P ks Q)) M:=
     {dC:=H.dC,aq:=H.aq,ho:=H.ho,bj:=H.bj
      cont:=λh hw hm h1 tA ai=>V5 (dK:= .any bb os (listed.setIfInBounds i true) ks) H.eL h hw (by have:=H.aq;simp only [List.length_append];omega) (rC h1 H.ho) (H.al.ext _) (nc.marks _ _ _) (nf.nil _ _) tA ai}
    obtain⟨st,cB,hM⟩:=V4 agI he ag hw;cases cB;exact hM a w ai
   ·cases h
theorem agJ (cD:P.follows .mixedOrders=true) (H:Bk cf B W ax ro post G n env L aL cs Q M) {bb:Nat} {os:Array Oper} {listed:Array Bool} {ks:List fe} {sl:aT} {aU:List bM} {F:jF} {T:jN} {t:bs} (h:OB P cf G n cs bb os listed ks sl aU F T=some t) (hw:dd B W ax ro post n env L aL t) (cF:nc B W ax L env F) (eb:nf B W ax L env T) {a:Act} {w:au} (ai:lC cf B W M env (db sl aU) a w):
  wpAnyIn (Fr none) 0 P .any os (dS P ks Q) bb listed a w:=by
 unfold OB at h;split at h
 ·rename_i hr
  exact wpAnyIn_done hr (tE (dK:= .k .normal ks) H.eL h hw H.aq H.ho H.al H.bj ai) bb
 ·rename_i q8 cC
  split at h
  ·cases h
  ·rename_i bb
   split at h
   ·rename_i i eu uY
    cases nW:Region.noSelect os with
    |false=>rw[nW] at h;cases h
    |true=>
     rw[nW,bw] at h;obtain⟨h1,ae⟩:= @O5 P ⟨F⟩ _ _ _ _ _ _ _ uY;obtain⟨⟨φ,ds,q1,aE,b9,ey,hv⟩,lJ,qa⟩:=ai;letI:=cA M env;letI:=fc;have V':ny (dS P ks Q):=H.al.calm.uC ks;refine @V8 P (cA M env) ⟨F⟩ (cF M H.bj []) _ _ _ _ nW V' _ _ _ _ _ _ _ _ aE h1 ae λaS mQ=> ?_
     refine @V9 P (cA M env) ⟨F⟩ (cF M H.bj []) _ _ _ _ nW V' _ _ bb _ _ aS mQ λej agK=> ?_
     exact V5 (dK:= .any _ os _ ks) H.eL h hw H.aq H.ho H.al cF eb H.bj ⟨⟨φ,ds,q1,agK,b9,ey,hv⟩,lJ,qa⟩
   ·refine wpAnyIn_all rfl cC λi af=> ?_
    obtain⟨y,e,bg⟩:=O4 h hw _ (List.mem_map.2 ⟨i,af,rfl⟩);exact agH cD H e bg cF eb ai
end
theorem agL (cD:P.follows .mixedOrders=true) {G:iX} {n:Nat} {env:List U} {L:List (aF P)} {aL:List (eK P)} {cs:List iE} {Q:Exit->Act->au->Prop} {M:Mem} (H:Bk cf B W ax ro post G n env L aL cs Q M) {OF:Option U} {F:jF} {T:jN} {o:Option bP} {t:bs} (h:OE P cf G n cs OF F T o=some t) (hw:dd B W ax ro post n env L aL t) (cF:nc B W ax L env F) (eb:nf B W ax L env T): @e0 (cA M env) fc P cf.N B W Q o:=by
 letI:=fc;unfold OE at h;split at h
 ·rename_i id os s ks
  split at h
  ·rename_i v
   refine⟨_,rfl,λa w ai=> ?_⟩;obtain⟨b,ad,ag⟩:=O0 H.eL h hw H.aq H.ho H.al H.bj ai;cases b with
   |true=>exact ag
   |false=>exact ag
  ·refine⟨_,rfl,λa w ai=>wpIn_region_any cD ?_⟩
   have a1:lC cf B W M env s a {w with drawn:=w.drawn+1}:= @Here.quiet (cA M env) fc _ _ _ _ _ _ _ ai ⟨⟨rfl,rfl,rfl,bY _,λ_ _=>rfl⟩,bY _⟩;exact V6 (dK:= .any os.size os (Array.replicate os.size false) ks) H.eL h hw H.aq H.ho H.al cF eb H.bj a1
 ·exact⟨_,rfl,λa w ai=>agf H.eL h hw H.aq H.ho H.al H.bj ai⟩
 ·exact⟨_,rfl,λa w ai=>agj H.eL h hw H.aq H.ho H.al H.bj ai⟩
 ·rename_i c x y s ks
  cases hp:aM (ea .nil s.sl c) with
  |false=>rw[hp] at h;cases h
  |true=>
   rw[hp,bw] at h;refine⟨_,rfl,λa w ai=> ?_⟩;split at h
   ·obtain⟨b,ad,ag⟩:=agl H.eL h hw H.aq H.ho H.al H.bj ai
    exact wpIn_cond (t:=b) ((V2 hp ai).trans ad) ag
   obtain⟨b,ad,ag⟩:=O0 H.eL h hw H.aq H.ho H.al H.bj ai;refine wpIn_cond (t:=b) ((V2 hp ai).trans ad) ?_;cases b with
   |true=>exact ag
   |false=>exact ag
 ·rename_i op r os s ks
  split at h
  ·rename_i v aC
   refine⟨_,rfl,λa w ai=> ?_⟩;obtain⟨b,ad,ag⟩:=O0 H.eL h hw H.aq H.ho H.al H.bj ai;cases b with
   |true=>exact ag
   |false=>exact ag
  ·split at h
   ·rename_i oy sl aU m he
    obtain⟨k,ag,rfl⟩:=Option.map_eq_some_iff.1 h;exact agA (H.nF (some (.oper op r os s ks))) H.eL H.al he ag hw
   ·exact agB H h hw
 ·cases h
theorem agM (cD:P.follows .mixedOrders=true) (dC:∀M,pb (aG W) ax M->fB ro M) {G:iX} (eL:oN cf B W ax ro post G):oN cf B W ax ro post (OI P cf G):=by
 intro n cs dK dt sl aU F T o t h mu hd cT L aL Q hw aq fO ho al cF eb M bj a w ai;unfold OI at h;split at h
 ·exact OV dC eL h mu hw aq fO ho al cF eb M bj a w ai
 ·exact OW dC eL h mu hw aq fO ho al cF eb M bj a w ai
 ·split at h
  ·exact OV dC eL h mu hw aq fO ho al cF eb M bj a w ai
  ·exact OW dC eL h mu hw aq fO ho al cF eb M bj a w ai
  ·have H:Bk cf B W ax ro post G n (cT++hd) L aL cs Q M:=⟨dC,eL,aq,ho,al.ext cT,bj⟩
   letI:=cA M (cT++hd);letI:=fc;exact iI.agd al.calm cD (cF M bj []) (λp hp=>(eb M bj [] p hp).Mm) dK (agL cD H h hw cF eb) (C' (e1:=hd) (e2:=cT++hd) (tC M M fO) mu ai)
theorem agN (cD:P.follows .mixedOrders=true) (dC:∀M,pb (aG W) ax M->fB ro M) {G:iX} (eL:oN cf B W ax ro post G):oN cf B W ax ro post (OL P cf G):=by
 intro n cs dK dt sl aU F T o t h mu hd cT L aL Q hw aq fO ho al cF eb M bj a w ai;unfold OL at h;split at h
 ·rename_i bb os listed ks
  split at h
  ·exact OV dC eL h mu hw aq fO ho al cF eb M bj a w ai
  ·exact OW dC eL h mu hw aq fO ho al cF eb M bj a w ai
  ·exact agJ cD ⟨dC,eL,aq,ho,al.ext cT,bj⟩ h hw cF eb (C' (e1:=hd) (e2:=cT++hd) (tC M M fO) mu ai)
 ·exact agM cD dC eL n cs dK dt sl aU F T o t h mu hd cT L aL Q hw aq fO ho al cF eb M bj a w ai
theorem O6 (cD:P.follows .mixedOrders=true) (dC:∀M,pb (aG W) ax M->fB ro M):∀bb,oN cf B W ax ro post (gen P cf bb)
 |0=>λ_ _ _ _ _ _ _ _ _ _ h=>by cases h
 |bb+1=>agN cD dC (O6 cD dC bb)
def V_ (a:Option bs) (t:bs):Bool:=match a with
 |some x=>jx x t
 |none=>false
theorem gE {a:Option bs} {t:bs} (h:V_ a t=true):a=some t:=by
 unfold V_ at h;split at h
 ·rw[O3 _ _ h]
 ·cases h
theorem agO (cD:P.follows .mixedOrders=true) {f:FuncId} {h:Ba} {args vs:List U} {n:Nat} {t:bs} (az:fJ P f h args n=some t) (dC:∀M,pb (aG W) [] M->fB ro M) (aq:vs.length=n) (ho:eV vs)
  (hw:dd W.heap.size W [] ro post n vs.reverse [] [] t):Calls P f ⟨fU vs.reverse n args⟩ W λe w=>Jn W [] post e w/\ch W.heap.size W w:=by
 unfold fJ at az;split at az
 ·rename_i fn l4
  split at az
  ·rename_i c O7
   split at az
   ·rename_i sl gH
    dsimp only at az;cases hp:dW args with
    |false=>rw[hp] at az;cases az
    |true=>
     rw[hp,bw] at az;have hl:vs.reverse.length=n:=by simpa using aq
     have ln:=oK ho;letI:=cA (aG W) vs.reverse;rw[<-sy (aG W) ln hl args];refine Ty l4 O7 gH hp rfl (λi o h=>h) λa ai=> ?_
     letI:=fc;exact tE (cf:=⟨h,args.length+(fn.ntmps-args.length),fn⟩) (dK:= .k .normal [.l5 c]) (O6 cD dC 10000) az hw hl ln (.nil _) (bW.qs W) ai
   ·cases az
  ·cases az
 ·cases az
theorem agP (cD:P.follows .mixedOrders=true) {f:FuncId} {h:Ba} {args vs:List U} {n:Nat} {t:bs} (az:fJ P f h args n=some t) (L:List (aF P)) (aA:b_ (aG W) (b3 L)) (dC:∀M,pb (aG W) (b3 L) M->fB ro M) (aq:vs.length=n) (ho:eV vs)
  (hw:dd 0 W (b3 L) ro post n vs.reverse L [] t):Calls P f ⟨fU vs.reverse n args⟩ W λe w=>Jn W (b3 L) post e w/\ch 0 W w:=by
 unfold fJ at az;split at az
 ·rename_i fn l4
  split at az
  ·rename_i c O7
   split at az
   ·rename_i sl gH
    dsimp only at az;cases hp:dW args with
    |false=>rw[hp] at az;cases az
    |true=>
     rw[hp,bw] at az;have hl:vs.reverse.length=n:=by simpa using aq
     have ln:=oK ho;letI:=cA (aG W) vs.reverse;rw[<-sy (aG W) ln hl args];refine TI l4 O7 gH hp rfl (λi o h=>h) λa ai=> ?_
     letI:=fc;exact tE (cf:=⟨h,args.length+(fn.ntmps-args.length),fn⟩) (dK:= .k .normal [.l5 c]) (O6 cD dC 10000) az hw hl ln (.nil _) (bW.start W _ aA) ai
   ·cases az
  ·cases az
 ·cases az
end AE
namespace AE
variable {P:aQ} {B:Nat} {W:au} {ax:List ca} {ro:List (iy P)} {post:U->List (aF P)->Prop}
structure X (B:Nat) (W:au) (ax:List ca) (ro:List (iy P)) (post:U->List (aF P)->Prop) (n:Nat) (env:List U) (L:List (aF P)) (aL:List (eK P)) (t:bs):Prop where
 go:env.length=n->eV env->dd B W ax ro post n env L aL t
instance alI {n:Nat} {env:List U} {L:List (aF P)} {aL:List (eK P)} {t:bs}:CoeFun (X B W ax ro post n env L aL t) λ_=>env.length=n->eV env->dd B W ax ro post n env L aL t:=⟨X.go⟩
inductive kW.{u} {α:Type u}:List α->α->Prop
 |z {a:α} {r:List α}:kW (a::r) a
 |s {x a:α} {r:List α} (h:kW r a):kW (x::r) a
inductive n7.{u} {α:Type u}:List α->Nat->α->α->List α->Prop
 |z {a b:α} {r:List α}:n7 (a::r) 0 a b (b::r)
 |s {d:Nat} {x a b:α} {r dY:List α} (h:n7 r d a b dY):n7 (x::r) (d+1) a b (x::dY)
inductive u0.{u} {α:Type u}:List α->Nat->α->List α->Prop
 |z {a b:α} {r:List α}:u0 (a::r) 0 b (b::r)
 |s {x b:α} {i:Nat} {r dY:List α} (h:u0 r i b dY):u0 (x::r) (i+1) b (x::dY)
inductive qA.{u} {α:Type u}:List α->α->List α->Prop
 |z {a:α}:qA [] a [a]
 |s {x a:α} {r dY:List α} (h:qA r a dY):qA (x::r) a (x::dY)
theorem kW.get.{u} {α:Type u} {l:List α} {a:α} (h:kW l a):∃i:Nat,l[i]? =some a:=by
 induction h with
 |z=>exact⟨0,rfl⟩
 |s _ cd=>obtain⟨i,af⟩:=cd;exact⟨i+1,by simpa using af⟩
theorem n7.get.{u} {α:Type u} {l l':List α} {d:Nat} {a b:α} (h:n7 l d a b l'):l[d]? =some a/\l'=l.set d b:=by
 induction h with
 |z=>exact⟨rfl,rfl⟩
 |s _ cd=>exact⟨by simpa using cd.1,by rw[cd.2];rfl⟩
theorem u0.eq.{u} {α:Type u} {l l':List α} {i:Nat} {b:α} (h:u0 l i b l'):l'=l.set i b/\i<l.length:=by
 induction h with
 |z=>exact⟨rfl,by simp⟩
 |s _ cd=>exact⟨by rw[cd.1];rfl,by simp;exact cd.2⟩
theorem qA.eq.{u} {α:Type u} {l l':List α} {a:α} (h:qA l a l'):l'=l++[a]:=by
 induction h with
 |z=>rfl
 |s _ cd=>rw[cd];rfl
inductive iO (ro:List (iy P)) (L:List (aF P)) (K:hP P) (v:U) (l:List K.α):Prop
 |ro (h:kW ro ⟨K,v,l⟩)
 |arr (h:kW L (.arr K v l))
 |jh (h:kW L (.jh K v l))
 |red (h:kW L (.red K v l))
theorem iO.rp {ro:List (iy P)} {L:List (aF P)} {K:hP P} {v:U} {l:List K.α} (h:iO ro L K v l) {M:Mem} (bj:bW B (aG W) ax M (b3 L)) (dC:fB ro M):b7 M K.k K.enc v l:=by
 cases h with
 |ro h=>obtain⟨i,af⟩:=h.get;exact dC i _ af
 |arr h=>obtain⟨i,af⟩:=h.get;exact NZ bj af rfl
 |jh h=>obtain⟨i,af⟩:=h.get;exact NZ bj af rfl
 |red h=>obtain⟨i,af⟩:=h.get;exact NZ bj af rfl
theorem iO.at {ro:List (iy P)} {L:List (aF P)} {K:hP P} {v:U} {l:List K.α} (h:iO ro L K v l) {w:au} (hw:kV W ax ro L w):b7 (aG w) K.k K.enc v l:=by
 cases h with
 |ro h=>obtain⟨i,af⟩:=h.get;exact hw.ro i _ af
 |arr h=>obtain⟨i,af⟩:=h.get;exact N0 hw.own af rfl
 |jh h=>obtain⟨i,af⟩:=h.get;exact N0 hw.own af rfl
 |red h=>obtain⟨i,af⟩:=h.get;exact N0 hw.own af rfl
theorem C_ {ro:List (iy P)} {L:List (aF P)} {K:hP P} {v:U} {l:List K.α} (h:iO ro L K v l:=by first|(apply iO.ro;(repeat (first|exact kW.z|apply kW.s));done)|(apply iO.arr;(repeat (first|exact kW.z|apply kW.s));done)|(apply iO.jh;(repeat (first|exact kW.z|apply kW.s));done)|(apply iO.red;(repeat (first|exact kW.z|apply kW.s));done)):iO ro L K v l:=h
theorem has {α:Type 1} {l:List α} {a:α} (h:kW l a:=by repeat (first|exact kW.z|apply kW.s)):kW l a:=h
section
variable {n q:Nat} {ai:List Nat} {env:List U} {L:List (aF P)} {aL:List (eK P)} {k cV df:bs}
theorem FM {f':aY} {f:fH} {r dY:U} (h: @aR f' P (f,r)) (he: @aK f' dY= @aK f' r) (hr:aM dY=true:=by rfl): @aR f' P (f,dY):=by
 obtain⟨h1,ae,ay⟩:=h;refine⟨h1,hr,?_⟩;simp only at ay ⊢;rw[he];exact ay
theorem O8:∀(m q:Nat),aM (.agg ⟨h5 m q⟩)=true
 |0,_=>rfl
 |m+1,q=>by
  have:=O8 m (q+1);unfold aM at this ⊢;unfold h5 dW;rw[this];rfl
theorem Wa {env:List U} {n:Nat}:∀(m i:Nat) (c:List U),(∀j,j<m->ex env n (aj (i+j))=c.getD j undef)->c.length=m->fU env n (h5 m i)=c
 |0,i,c,_,al=>by rw[List.length_eq_zero_iff.1 al];rfl
 |m+1,i,[],_,al=>by simp at al
 |m+1,i,u::c,h,al=>by
  unfold h5 fU;have aJ:=h 0 ao;rw[Nat.add_zero] at aJ;rw[aJ,Wa m (i+1) c (λj hj=>by have:=h (j+1) ao;rw[show i+(j+1)=i+1+j by omega] at this;simpa using this) (by simpa using al)];rfl
theorem agQ {env c:List U} {n m:Nat} (aq:env.length=n) (al:c.length=m) (az:n+m<eD):fU (c.reverse++env) (n+m) (h5 m n)=c:=by
 refine Wa m n c (λj hj=> ?_) al;show (bif Nat.beq 0 0 then (bif Nat.blt (n+j) eD then look (c.reverse++env) (n+m) (n+j) else .pointer (some ⟨n+j-eD,0,none⟩)) else .complex .f64 (n+j) 0)=_;rw[show Nat.beq 0 0=true from rfl,bw,show Nat.blt (n+j) eD=true from Nat.blt_eq.mpr ao,bw,I_ _ _ _ (by simp [aq,al];omega),List.reverse_append,List.reverse_reverse,dr,List.getElem?_append_right (by simp [aq]),show n+j-env.reverse.length=j by simp [aq],dr,fP ao];rfl
theorem mH {f:fH} (v:U) (aP:∀M,bW B (aG W) ax M (b3 L)->fB ro M->(∀x,@aK (cA M (v::env)) x=ex (v::env) (q+1) x)-> @aK (cA M (v::env)) (aj q)=v-> @aR (cA M (v::env)) P (f,aj q)) (h:X B W ax ro post (q+1) (v::env) L aL k) (h1:mA v=v) (az:Nat.blt q eD=true) (a1:n=q):X B W ax ro post n env L aL (.o f (aj q) 1 ai k):=by
 subst a1;refine⟨λaq ho=> ?_⟩;have ln:eV (v::env):=⟨h1,ho⟩;have fa:(v::env).length=n+1:=by simp [aq]
 exact .o [v] rfl ⟨h1,trivial⟩ (λM bj hr=>aP M bj hr (λx=>ld M ln fa x) (sD az aq ho h1)) (h fa ln)
section
variable {t:aH} {x y:U} {gM:IntKind} {a b:Int}
theorem xH {op:BinOp} {v:U} (cj:yY op=true) (aC:xk op gM a b=v) (h1:mA v=v) (ak:ex (v::env) (q+1) x= .int gM a) (bg:ex (v::env) (q+1) y= .int gM b) (h:X B W ax ro post (q+1) (v::env) L aL k) (eM:aM x=true) (jG:aM y=true) (az:Nat.blt q eD=true) (a1:n=q):X B W ax ro post n env L aL (.o (.bin op t x y) (aj q) 1 ai k):=
 mH v (λM _ _ af av=> @aR.bi (cA M (v::env)) P op t x y (aj q) gM a b eM jG rfl cj ((af x).trans ak) ((af y).trans bg) (av.trans aC.symm)) h h1 az a1
theorem agR (ak:ex (.bool (decide (a<b))::env) (q+1) x= .int gM a) (bg:ex (.bool (decide (a<b))::env) (q+1) y= .int gM b) (h:X B W ax ro post (q+1) (.bool (decide (a<b))::env) L aL k) (eM:aM x=true:=by rfl) (jG:aM y=true:=by rfl) (az:Nat.blt q eD=true:=by rfl) (a1:n=q:=by rfl):X B W ax ro post n env L aL (.o (.bin .lss t x y) (aj q) 1 ai k):=xH J J J ak bg h eM jG az a1
theorem agS (ak:ex (.bool (decide (a<=b))::env) (q+1) x= .int gM a) (bg:ex (.bool (decide (a<=b))::env) (q+1) y= .int gM b) (h:X B W ax ro post (q+1) (.bool (decide (a<=b))::env) L aL k) (eM:aM x=true:=by rfl) (jG:aM y=true:=by rfl) (az:Nat.blt q eD=true:=by rfl) (a1:n=q:=by rfl):X B W ax ro post n env L aL (.o (.bin .leq t x y) (aj q) 1 ai k):=xH J J J ak bg h eM jG az a1
theorem agT (ak:ex (.bool (decide (b<a))::env) (q+1) x= .int gM a) (bg:ex (.bool (decide (b<a))::env) (q+1) y= .int gM b) (h:X B W ax ro post (q+1) (.bool (decide (b<a))::env) L aL k) (eM:aM x=true:=by rfl) (jG:aM y=true:=by rfl) (az:Nat.blt q eD=true:=by rfl) (a1:n=q:=by rfl):X B W ax ro post n env L aL (.o (.bin .gtr t x y) (aj q) 1 ai k):=xH J J J ak bg h eM jG az a1
theorem agU (ak:ex (.bool (decide (b<=a))::env) (q+1) x= .int gM a) (bg:ex (.bool (decide (b<=a))::env) (q+1) y= .int gM b) (h:X B W ax ro post (q+1) (.bool (decide (b<=a))::env) L aL k) (eM:aM x=true:=by rfl) (jG:aM y=true:=by rfl) (az:Nat.blt q eD=true:=by rfl) (a1:n=q:=by rfl):X B W ax ro post n env L aL (.o (.bin .geq t x y) (aj q) 1 ai k):=xH J J J ak bg h eM jG az a1
theorem O9 (ak:ex (.bool (decide (a=b))::env) (q+1) x= .int gM a) (bg:ex (.bool (decide (a=b))::env) (q+1) y= .int gM b) (h:X B W ax ro post (q+1) (.bool (decide (a=b))::env) L aL k) (eM:aM x=true:=by rfl) (jG:aM y=true:=by rfl) (az:Nat.blt q eD=true:=by rfl) (a1:n=q:=by rfl):X B W ax ro post n env L aL (.o (.bin .eql t x y) (aj q) 1 ai k):=xH J J J ak bg h eM jG az a1
theorem Bl (ak:ex (.bool (decide (a≠b))::env) (q+1) x= .int gM a) (bg:ex (.bool (decide (a≠b))::env) (q+1) y= .int gM b) (h:X B W ax ro post (q+1) (.bool (decide (a≠b))::env) L aL k) (eM:aM x=true:=by rfl) (jG:aM y=true:=by rfl) (az:Nat.blt q eD=true:=by rfl) (a1:n=q:=by rfl):X B W ax ro post n env L aL (.o (.bin .neq t x y) (aj q) 1 ai k):=xH (op:= .neq) rfl (congrArg Value.bool (by by_cases h:a=b<;>simp [h])) rfl ak bg h eM jG az a1
theorem O' (ak:ex (.int .i64 (a+b)::env) (q+1) x= .int .i64 a) (bg:ex (.int .i64 (a+b)::env) (q+1) y= .int .i64 b) (h:X B W ax ro post (q+1) (.int .i64 (a+b)::env) L aL k) (rH: -9223372036854775808<=a+b:=by omega) (FN:a+b<=9223372036854775807:=by omega) (eM:aM x=true:=by rfl) (jG:aM y=true:=by rfl) (az:Nat.blt q eD=true:=by rfl) (a1:n=q:=by rfl):X B W ax ro post n env L aL (.o (.bin .add t x y) (aj q) 1 ai k):=xH rfl (congrArg (Value.int .i64) (wrap64 rH FN)) rfl ak bg h eM jG az a1
theorem Bm (ak:ex (.int .i64 (a-b)::env) (q+1) x= .int .i64 a) (bg:ex (.int .i64 (a-b)::env) (q+1) y= .int .i64 b) (h:X B W ax ro post (q+1) (.int .i64 (a-b)::env) L aL k) (rH: -9223372036854775808<=a-b:=by omega) (FN:a-b<=9223372036854775807:=by omega) (eM:aM x=true:=by rfl) (jG:aM y=true:=by rfl) (az:Nat.blt q eD=true:=by rfl) (a1:n=q:=by rfl):X B W ax ro post n env L aL (.o (.bin .sub t x y) (aj q) 1 ai k):=xH rfl (congrArg (Value.int .i64) (wrap64 rH FN)) rfl ak bg h eM jG az a1
theorem FO (ak:ex (.int .i64 (a*b)::env) (q+1) x= .int .i64 a) (bg:ex (.int .i64 (a*b)::env) (q+1) y= .int .i64 b) (h:X B W ax ro post (q+1) (.int .i64 (a*b)::env) L aL k) (rH: -9223372036854775808<=a*b:=by omega) (FN:a*b<=9223372036854775807:=by omega) (eM:aM x=true:=by rfl) (jG:aM y=true:=by rfl) (az:Nat.blt q eD=true:=by rfl) (a1:n=q:=by rfl):X B W ax ro post n env L aL (.o (.bin .mul t x y) (aj q) 1 ai k):=xH rfl (congrArg (Value.int .i64) (wrap64 rH FN)) rfl ak bg h eM jG az a1
theorem O_ (ak:ex (.int .i64 (a/b)::env) (q+1) x= .int .i64 a) (bg:ex (.int .i64 (a/b)::env) (q+1) y= .int .i64 b) (h:X B W ax ro post (q+1) (.int .i64 (a/b)::env) L aL k) (aJ:0<=a/\a<=9223372036854775807:=by omega) (ad:1<=b:=by omega) (eM:aM x=true:=by rfl) (jG:aM y=true:=by rfl) (az:Nat.blt q eD=true:=by rfl) (a1:n=q:=by rfl):X B W ax ro post n env L aL (.o (.bin .quo t x y) (aj q) 1 ai k):=
 mH _ (λM _ _ af av=> @aR.quo (cA M (_::env)) P t x y (aj q) a b aJ ad eM jG rfl ((af x).trans ak) ((af y).trans bg) av) h rfl az a1
theorem Pa (ak:ex (.int .i64 (a%b)::env) (q+1) x= .int .i64 a) (bg:ex (.int .i64 (a%b)::env) (q+1) y= .int .i64 b) (h:X B W ax ro post (q+1) (.int .i64 (a%b)::env) L aL k) (aJ:0<=a/\a<=9223372036854775807:=by omega) (ad:1<=b:=by omega) (eM:aM x=true:=by rfl) (jG:aM y=true:=by rfl) (az:Nat.blt q eD=true:=by rfl) (a1:n=q:=by rfl):X B W ax ro post n env L aL (.o (.bin .rem t x y) (aj q) 1 ai k):=
 mH _ (λM _ _ af av=> @aR.rem (cA M (_::env)) P t x y (aj q) a b aJ ad eM jG rfl ((af x).trans ak) ((af y).trans bg) av) h rfl az a1
theorem wg {cM:Array aH} (ak:ex (.int gM (max a b)::env) (q+1) x= .int gM a) (bg:ex (.int gM (max a b)::env) (q+1) y= .int gM b) (h:X B W ax ro post (q+1) (.int gM (max a b)::env) L aL k) (eM:aM x=true:=by rfl) (jG:aM y=true:=by rfl) (az:Nat.blt q eD=true:=by rfl) (a1:n=q:=by rfl):X B W ax ro post n env L aL (.o (.d_ cM t x y) (aj q) 1 ai k):=
 mH _ (λM _ _ af av=> @aR.o5 (cA M (_::env)) P cM t x y (aj q) gM a b eM jG rfl ((af x).trans ak) ((af y).trans bg) av) h rfl az a1
theorem agV {cM:Array aH} (ak:ex (.int gM (min a b)::env) (q+1) x= .int gM a) (bg:ex (.int gM (min a b)::env) (q+1) y= .int gM b) (h:X B W ax ro post (q+1) (.int gM (min a b)::env) L aL k) (eM:aM x=true:=by rfl) (jG:aM y=true:=by rfl) (az:Nat.blt q eD=true:=by rfl) (a1:n=q:=by rfl):X B W ax ro post n env L aL (.o (.k7 cM t x y) (aj q) 1 ai k):=
 mH _ (λM _ _ af av=> @aR.sd (cA M (_::env)) P cM t x y (aj q) gM a b eM jG rfl ((af x).trans ak) ((af y).trans bg) av) h rfl az a1
end
theorem Js {x:U} {b:Bool} (ak:ex (.bool (!b)::env) (q+1) x= .bool b) (h:X B W ax ro post (q+1) (.bool (!b)::env) L aL k) (eM:aM x=true:=by rfl) (az:Nat.blt q eD=true:=by rfl) (a1:n=q:=by rfl):X B W ax ro post n env L aL (.o (.un .not x) (aj q) 1 ai k):=
 mH _ (λM _ _ af av=>by
  have:= @aR.MJ (cA M (_::env)) P x b (!b) eM ((af x).trans ak) rfl
  exact FM this (by rw[av];rfl)) h rfl az a1
theorem agW {t:aH} {x y:U} {a b:Bool} (ak:ex (.bool (a==b)::env) (q+1) x= .bool a) (bg:ex (.bool (a==b)::env) (q+1) y= .bool b) (h:X B W ax ro post (q+1) (.bool (a==b)::env) L aL k) (aI:P.underlying t=some .bool:=by kernel_rfl) (eM:aM x=true:=by rfl) (jG:aM y=true:=by rfl) (az:Nat.blt q eD=true:=by rfl) (a1:n=q:=by rfl):X B W ax ro post n env L aL (.o (.bin .eql t x y) (aj q) 1 ai k):=
 mH _ (λM _ _ af av=>FM (@aR.EM (cA M (_::env)) P t x y a b _ aI eM jG ((af x).trans ak) ((af y).trans bg) rfl) (by rw[av];rfl)) h rfl az a1
theorem agX {t:aH} {x y:U} {a b:Bool} (ak:ex (.bool (!(a==b))::env) (q+1) x= .bool a) (bg:ex (.bool (!(a==b))::env) (q+1) y= .bool b) (h:X B W ax ro post (q+1) (.bool (!(a==b))::env) L aL k) (aI:P.underlying t=some .bool:=by kernel_rfl) (eM:aM x=true:=by rfl) (jG:aM y=true:=by rfl) (az:Nat.blt q eD=true:=by rfl) (a1:n=q:=by rfl):X B W ax ro post n env L aL (.o (.bin .neq t x y) (aj q) 1 ai k):=
 mH _ (λM _ _ af av=>FM (@aR.adn (cA M (_::env)) P t x y a b _ aI eM jG ((af x).trans ak) ((af y).trans bg) rfl) (by rw[av];rfl)) h rfl az a1
def nH (v:U) (j k o:Nat):U:=iS v (j*k+o)
def iP (c:List U):Nat->List U->List U
 |0,e=>e
 |m+1,e=>c.getD m undef::iP c m e
theorem xI:∀(m:Nat) (c e:List U),iP c m e=((List.range m).map λi=>c.getD i undef).reverse++e
 |0,c,e=>rfl
 |m+1,c,e=>by
  unfold iP;rw[xI m c e,List.range_succ];simp
theorem zq (c:List U) (m:Nat) (h:c.length=m):(List.range m).map (λi=>c.getD i undef)=c:=by
 apply List.ext_getElem
 ·simp [h]
 ·intro i h1 ae
  simp only [List.getElem_map,List.getElem_range];rw[dr,fP ae];rfl
theorem Wb {α:Type} {l:List α} {j:Nat} (d:α) (h:j<l.length):l[j]? =some (l.getD j d):=by
 rw[dr,fP h];rfl
section
variable {t:aH} {x y i:U} {gM:IntKind} {K:hP P} {v:U} {l:List K.α}
theorem agY {a:Option Addr} {m c e:Nat} {ty:aH} (ak:ex (.int .i64 (m:Nat)::env) (q+1) x= .slice a m c) (h:X B W ax ro post (q+1) (.int .i64 (m:Nat)::env) L aL k) (aI:P.underlying t=some (.slice e):=by kernel_rfl) (eM:aM x=true:=by rfl) (az:Nat.blt q eD=true:=by rfl) (a1:n=q:=by rfl):X B W ax ro post n env L aL (.o (.len #[t] ty x) (aj q) 1 [0,e] k):=
 mH _ (λM _ _ af av=> @aR.len (cA M (_::env)) P t ty e x (aj q) a m c eM rfl aI ((af x).trans ak) av) h rfl az a1
theorem mI {j e aZ:Nat} (ak:ex (nH v j K.k 0::env) (q+1) x=v) (af:ex (nH v j K.k 0::env) (q+1) i= .int gM (j:Nat)) (h:X B W ax ro post (q+1) (nH v j K.k 0::env) L aL k) (av:iO ro L K v l:=by exact C_) (hj:j<l.length:=by omega) (aI:P.underlying t=some (.slice K.e):=by kernel_rfl) (eM:aM x=true:=by rfl) (pi:aM i=true:=by rfl) (az:Nat.blt q eD=true:=by rfl) (a1:n=q:=by rfl):
  X B W ax ro post n env L aL (.o (.cP t x i) (aj q) 1 [0,e,aZ] k):=
 mH _ (λM bj hr pR sE=> @aR.EH (cA M (_::env)) P K.α K.k K.enc v l (av.rp bj hr) t K.e x i (aj q) j gM hj eM pi rfl aI K.size ((pR x).trans ak) ((pR i).trans af) sE) h rfl az a1
theorem agZ {a:Int} {e aZ:Nat} (ak:ex (nH v a.toNat K.k 0::env) (q+1) x=v) (af:ex (nH v a.toNat K.k 0::env) (q+1) i= .int gM a) (h:X B W ax ro post (q+1) (nH v a.toNat K.k 0::env) L aL k) (av:iO ro L K v l:=by exact C_) (aJ:0<=a:=by omega) (hj:a.toNat<l.length:=by omega) (aI:P.underlying t=some (.slice K.e):=by kernel_rfl) (eM:aM x=true:=by rfl) (pi:aM i=true:=by rfl) (az:Nat.blt q eD=true:=by rfl) (a1:n=q:=by rfl):
  X B W ax ro post n env L aL (.o (.cP t x i) (aj q) 1 [0,e,aZ] k):=
 mI ak (by rw[af,Int.toNat_of_nonneg aJ]) h av hj aI eM pi az a1
theorem ag0 {j o off ty aZ f:Nat} (ak:ex (nH v j K.k (o+off)::env) (q+1) x=nH v j K.k o) (h:X B W ax ro post (q+1) (nH v j K.k (o+off)::env) L aL k) (av:iO ro L K v l:=by exact C_) (hj:j<l.length:=by omega) (aP:((P.fieldsOf t)[f]?).map (λf=>(f.type,f.offset))=some (ty,off):=by kernel_rfl) (aI:a7 P (underlying t)=some (.struct (P.fieldsOf t)):=by kernel_rfl) (hm:a7 P (sizeOf ty)=some aZ:=by kernel_rfl) (aJ:aZ≠0:=by decide) (eM:aM x=true:=by rfl) (az:Nat.blt q eD=true:=by rfl) (a1:n=q:=by rfl):
  X B W ax ro post n env L aL (.o (.cu t x f) (aj q) 1 [off,ty,aZ] k):=
 mH _ (λM bj hr pR sE=>by
  obtain⟨hz,v8,ag1⟩:=Option.map_eq_some_iff.1 aP;cases ag1
  exact @aR.Ts (cA M (nH v j K.k (o+hz.offset)::env)) P t x (aj q) v f (j*K.k+o) (j*K.k+(o+hz.offset)) (P.fieldsOf t) hz aZ eM rfl aI v8 hm aJ (@MS (cA M (nH v j K.k (o+hz.offset)::env)) _ _ _ _ _ (av.rp bj hr) j hj) ao ((pR x).trans ak) sE) h rfl az a1
theorem Da {j o c m e aZ:Nat} (ak:ex (nH v j K.k (o+c*aZ)::env) (q+1) x=nH v j K.k o) (af:ex (nH v j K.k (o+c*aZ)::env) (q+1) i= .int gM (c:Nat)) (h:X B W ax ro post (q+1) (nH v j K.k (o+c*aZ)::env) L aL k) (av:iO ro L K v l:=by exact C_) (hj:j<l.length:=by omega) (al:c<m:=by omega) (aI:P.underlying t=some (.array m e):=by kernel_rfl) (bG:a7 P (sizeOf e)=some aZ:=by kernel_rfl) (eM:aM x=true:=by rfl) (pi:aM i=true:=by rfl) (az:Nat.blt q eD=true:=by rfl) (a1:n=q:=by rfl):
  X B W ax ro post n env L aL (.o (.cP t x i) (aj q) 1 [1,m,e,aZ] k):=
 mH _ (λM bj hr pR sE=> @aR.adp (cA M (nH v j K.k (o+c*aZ)::env)) P t e x i (aj q) v m aZ c (j*K.k+o) (j*K.k+(o+c*aZ)) gM eM pi rfl aI bG (@MS (cA M (nH v j K.k (o+c*aZ)::env)) _ _ _ _ _ (av.rp bj hr) j hj) al ao ((pR x).trans ak) ((pR i).trans af) sE) h rfl az a1
theorem sF {j o aZ:Nat} {u:U} (ak:ex (u::env) (q+1) x=nH v j K.k o) (hu:(K.enc (l.getD j K.Ja))[o]? =some u) (h:X B W ax ro post (q+1) (u::env) L aL k) (av:iO ro L K v l:=by exact C_) (hj:j<l.length:=by omega) (h1:mA u=u:=by rfl) (ha:a7 P (isAgg t)=some false:=by kernel_rfl) (eM:aM x=true:=by rfl) (az:Nat.blt q eD=true:=by rfl) (a1:n=q:=by rfl):
  X B W ax ro post n env L aL (.o (.bp t x) (aj q) 1 [aZ] k):=
 mH _ (λM bj hr pR sE=> @aR.Tt (cA M (_::env)) P K.α K.k K.enc v l (av.rp bj hr) t x (aj q) j (j*K.k+o) o (l.getD j K.Ja) u (Wb _ hj) eM rfl ha rfl hu ((pR x).trans ak) sE) h h1 az a1
theorem Wc {f:fH} {m:Nat} (c:List U) (al:c.length=m) (h1:eV c) (aP:∀M,bW B (aG W) ax M (b3 L)->fB ro M->(∀x,@aK (cA M (iP c m env)) x=ex (iP c m env) (q+m) x)-> @aK (cA M (iP c m env)) (.agg ⟨h5 m q⟩)= .agg ⟨c⟩-> @aR (cA M (iP c m env)) P (f,.agg ⟨h5 m q⟩)) (h:X B W ax ro post (q+m) (iP c m env) L aL k) (az:Nat.blt (q+m) eD=true) (a1:n=q):
  X B W ax ro post n env L aL (.o f (.agg ⟨h5 m q⟩) m ai k):=by
 subst a1;refine⟨λaq ho=> ?_⟩;have e:iP c m env=c.reverse++env:=by rw[xI,zq c m al]
 have ln:eV (c.reverse++env):=rC (oK h1) ho;have fa:(c.reverse++env).length=n+m:=by simp [aq,al];omega
 have ag:=h;rw[e] at ag;refine .o c al h1 (λM bj hr=> ?_) (ag fa ln);have:=aP M bj hr;rw[e] at this;refine this (λx=>ld M ln fa x) ?_;rw[ld M ln fa];show Value.agg ⟨fU (c.reverse++env) (n+m) (h5 m n)⟩= .agg ⟨c⟩;rw[agQ aq al (Nat.blt_eq.mp az)]
theorem qB {j o aZ:Nat} {c:List U} (ak:ex env n x=nH v j K.k o) (hu:c=((K.enc (l.getD j K.Ja)).drop o).take aZ) (al:c.length=aZ) (h1:eV c) (h:X B W ax ro post (q+aZ) (iP c aZ env) L aL k) (av:iO ro L K v l:=by exact C_) (hj:j<l.length:=by omega) (ha:a7 P (isAgg t)=some true:=by kernel_rfl) (bG:a7 P (sizeOf t)=some aZ:=by kernel_rfl) (eM:aM x=true:=by rfl) (Pb:kh n x=true:=by rfl) (az:Nat.blt (q+aZ) eD=true:=by rfl) (a1:n=q:=by rfl):
  X B W ax ro post n env L aL (.o (.bp t x) (.agg ⟨h5 aZ q⟩) aZ [aZ] k):=⟨λaq ho=>
 Wc c al h1 (λM bj hr pR sE=> @aR.ado (cA M (iP c aZ env)) P K.α K.k K.enc v l (av.rp bj hr) t x _ j (j*K.k+o) o aZ (l.getD j K.Ja) c (Wb _ hj) eM (O8 aZ q) ha bG rfl al (λi u af=>by
  rw[hu,List.getElem?_take] at af;split at af
  ·rw[List.getElem?_drop] at af;exact af
  ·cases af) (by
   have e:iP c aZ env=c.reverse++env:=by rw[xI,zq c aZ al]
   rw[e,<-ki (tC M M aq) x Pb,ld M ho aq,ak];rfl) sE) h az a1 aq ho⟩
end
section
variable {t:aH} {x y i:U} {g ty:Nat} {cs:List U}
theorem ag2 {a:Addr} (ak:ex (.pointer (some a)::env) (q+1) x= .pointer (some a)) (h:X B W ax ro post (q+1) (.pointer (some a)::env) L aL k) (eM:aM x=true:=by rfl) (az:Nat.blt q eD=true:=by rfl) (a1:n=q:=by rfl):X B W ax ro post n env L aL (.o (.dR x) (aj q) 1 ai k):=
 mH _ (λM _ _ af av=> @aR.T' (cA M (_::env)) P x (aj q) a eM rfl ((af x).trans ak) av) h rfl az a1
theorem ag3 {o off f:Nat} {Jt aZ:Nat} (ak:ex (.pointer (some ⟨g,o+off,none⟩)::env) (q+1) x= .pointer (some ⟨g,o,none⟩)) (h:X B W ax ro post (q+1) (.pointer (some ⟨g,o+off,none⟩)::env) L aL k) (aP:((P.fieldsOf t)[f]?).map (λf=>(f.type,f.offset))=some (Jt,off):=by kernel_rfl) (aI:a7 P (underlying t)=some (.struct (P.fieldsOf t)):=by kernel_rfl) (hm:a7 P (sizeOf Jt)=some aZ:=by kernel_rfl) (aJ:aZ≠0:=by decide) (eM:aM x=true:=by rfl) (az:Nat.blt q eD=true:=by rfl) (a1:n=q:=by rfl):
  X B W ax ro post n env L aL (.o (.cu t x f) (aj q) 1 [off,Jt,aZ] k):=
 mH _ (λM _ _ af av=> @aR.T_ (cA M (_::env)) P t x (aj q) f g o Jt off aZ aP aI hm aJ eM rfl ((af x).trans ak) av) h rfl az a1
theorem pS {o j m e aZ:Nat} {gM:IntKind} (ak:ex (.pointer (some ⟨g,o+j*aZ,none⟩)::env) (q+1) x= .pointer (some ⟨g,o,none⟩)) (af:ex (.pointer (some ⟨g,o+j*aZ,none⟩)::env) (q+1) i= .int gM (j:Nat)) (h:X B W ax ro post (q+1) (.pointer (some ⟨g,o+j*aZ,none⟩)::env) L aL k) (hj:j<m:=by omega) (aI:P.underlying t=some (.array m e):=by kernel_rfl) (bG:a7 P (sizeOf e)=some aZ:=by kernel_rfl) (eM:aM x=true:=by rfl) (pi:aM i=true:=by rfl) (az:Nat.blt q eD=true:=by rfl) (a1:n=q:=by rfl):
  X B W ax ro post n env L aL (.o (.cP t x i) (aj q) 1 [1,m,e,aZ] k):=
 mH _ (λM _ _ pR av=> @aR.TN (cA M (_::env)) P t e x i (aj q) g o m aZ j gM eM pi rfl aI bG ((pR x).trans ak) ((pR i).trans af) hj av) h rfl az a1
theorem nI {o aZ:Nat} {u:U} (ak:ex (u::env) (q+1) x= .pointer (some ⟨g,o,none⟩)) (hL:kW L (.box g ty cs)) (hu:cs[o]? =some u) (h:X B W ax ro post (q+1) (u::env) L aL k) (h1:mA u=u:=by rfl) (ha:a7 P (isAgg t)=some false:=by kernel_rfl) (eM:aM x=true:=by rfl) (az:Nat.blt q eD=true:=by rfl) (a1:n=q:=by rfl):
  X B W ax ro post n env L aL (.o (.bp t x) (aj q) 1 [aZ] k):=
 mH _ (λM bj _ pR sE=> @aR.T9 (cA M (_::env)) P B g o ty t cs x (aj q) u (hL.get.elim λd a_=>bj.box d (kF a_)) hu eM rfl ha ((pR x).trans ak) sE) h h1 az a1
theorem sG {o aZ:Nat} {c:List U} (ak:ex env n x= .pointer (some ⟨g,o,none⟩)) (hL:kW L (.box g ty cs)) (hu:c=(cs.drop o).take aZ) (al:c.length=aZ) (h1:eV c) (h:X B W ax ro post (q+aZ) (iP c aZ env) L aL k) (ha:a7 P (isAgg t)=some true:=by kernel_rfl) (bG:a7 P (sizeOf t)=some aZ:=by kernel_rfl) (eM:aM x=true:=by rfl) (Pb:kh n x=true:=by rfl) (az:Nat.blt (q+aZ) eD=true:=by rfl) (a1:n=q:=by rfl):
  X B W ax ro post n env L aL (.o (.bp t x) (.agg ⟨h5 aZ q⟩) aZ [aZ] k):=⟨λaq ho=>
 Wc c al h1 (λM bj hr pR sE=> @aR.Ir (cA M (iP c aZ env)) P B g o aZ ty t cs c x _ (hL.get.elim λd a_=>bj.box d (kF a_)) hu eM (O8 aZ q) ha bG al (by
   have e:iP c aZ env=c.reverse++env:=by rw[xI,zq c aZ al]
   rw[e,<-ki (tC M M aq) x Pb,ld M ho aq,ak]) sE) h az a1 aq ho⟩
end
theorem fV {x:U} {p:Prop} [Decidable p] (ak:ex env n x= .bool (decide p)) (h1:p->X B W ax ro post n env L aL cV) (ae:¬p->X B W ax ro post n env L aL df):X B W ax ro post n env L aL (.c6 x cV df):=⟨λaq ho=>
 .c6 _ ak (λh=>h1 (of_decide_eq_true h) aq ho) (λh=>ae (of_decide_eq_false h) aq ho)⟩
theorem xJ {x:U} {p:Prop} [Decidable p] (ak:ex env n x= .bool (!decide p)) (h1:¬p->X B W ax ro post n env L aL cV) (ae:p->X B W ax ro post n env L aL df):X B W ax ro post n env L aL (.c6 x cV df):=⟨λaq ho=>
 .c6 _ ak (λh=>h1 (by simpa using h) aq ho) (λh=>ae (by simpa using h) aq ho)⟩
theorem mJ {x:U} (ak:ex env n x= .bool true) (h:X B W ax ro post n env L aL cV):X B W ax ro post n env L aL (.c6 x cV df):=⟨λaq ho=> .c6 _ ak (λ_=>h aq ho) (λh=>by cases h)⟩
theorem xK {x:U} (ak:ex env n x= .bool false) (h:X B W ax ro post n env L aL df):X B W ax ro post n env L aL (.c6 x cV df):=⟨λaq ho=> .c6 _ ak (λh=>by cases h) (λ_=>h aq ho)⟩
theorem Ju {t:aH} {x:U} {a:Addr} (ak:ex (.bool false::env) (q+1) x= .pointer (some a)) (h:X B W ax ro post (q+1) (.bool false::env) L aL k) (aI:P.underlying t=some (.pointer (P.pointee t)):=by kernel_rfl) (eM:aM x=true:=by rfl) (az:Nat.blt q eD=true:=by rfl) (a1:n=q:=by rfl):X B W ax ro post n env L aL (.o (.bin .eql t x (.pointer none)) (aj q) 1 ai k):=
 mH _ (λM _ _ af av=>FM (@aR.afy (cA M (_::env)) P t x a eM aI ((af x).trans ak)) (by rw[av];rfl)) h rfl az a1
theorem Bn {x:U} {b:Bool} (ak:ex env n x= .bool b) (h1:b=true->X B W ax ro post n env L aL cV) (ae:b=false->X B W ax ro post n env L aL df):X B W ax ro post n env L aL (.c6 x cV df):=⟨λaq ho=>
 .c6 _ ak (λh=>h1 h aq ho) (λh=>ae h aq ho)⟩
theorem e3 {x:U} (h:post (ex env n x) L):X B W ax ro post n env L aL (.ret x):=⟨λ_ _=> .ret L (lf.refl L) h⟩
theorem xL {wc:eK P} (h:X B W ax ro post n env L aL k):X B W ax ro post n env L (wc::aL) (.gJ k):=⟨λaq ho=> .gJ (h aq ho)⟩
end
end AE
namespace AE
variable {P:aQ} {B:Nat} {W:au} {ax:List ca} {ro:List (iy P)} {post:U->List (aF P)->Prop}
theorem gO.{u} {α:Type u} {l l':List α} {d:Nat} {a b:α} (h:n7 l d a b l':=by repeat (first|exact n7.z|apply n7.s)):n7 l d a b l':=h
theorem qC.{u} {α:Type u} {l l':List α} {i:Nat} {b:α} (h:u0 l i b l':=by repeat (first|exact u0.z|apply u0.s)):u0 l i b l':=h
theorem j7.{u} {α:Type u} {l l':List α} {a:α} (h:qA l a l':=by repeat (first|exact qA.z|apply qA.s)):qA l a l':=h
theorem ik {l:List U} (h:eV l:=by repeat (first|exact trivial|refine⟨rfl,?_⟩)):eV l:=h
section
variable {n q:Nat} {env:List U} {L L':List (aF P)} {aL:List (eK P)} {k cV df:bs}
section
variable {t:aH} {p x:U}
theorem qD {d g ty j:Nat} {cs cs':List U} {u:U} (hp:ex env n p= .pointer (some ⟨g,j,none⟩)) (ak:ex env n x=u) (ek:n7 L d (.box g ty cs) (.box g ty cs') L') (av:u0 cs j u cs') (h:X B W ax ro post n env L' aL k) (hu:u.cells= #[u]:=by rfl) (h1:u.oneCell'=true:=by rfl) (bG:a7 P (sizeOf t)=some 1:=by kernel_rfl):
  X B W ax ro post n env L aL (.st t p x k):=⟨λaq ho=>by
 obtain⟨af,rfl⟩:=ek.get;obtain⟨rfl,hj⟩:=av.eq
 exact .OM d af hp ak hj hu h1 bG (h aq ho)⟩
theorem Wd {d g ty j:Nat} {cs cs':List U} {u:U} (hp:ex env n p= .pointer (some ⟨g,j,none⟩)) (ak:ex env n x=u) (ek:n7 L d (.box g ty cs) (.box g ty cs') L') (av:cs'=cs.set j u) (h:X B W ax ro post n env L' aL k) (hj:j<cs.length) (hu:u.cells= #[u]:=by rfl) (h1:u.oneCell'=true:=by rfl) (bG:a7 P (sizeOf t)=some 1:=by kernel_rfl):
  X B W ax ro post n env L aL (.st t p x k):=⟨λaq ho=>by
 obtain⟨af,rfl⟩:=ek.get;subst av
 exact .OM d af hp ak hj hu h1 bG (h aq ho)⟩
theorem xM {K:hP P} {v:U} {l lq:List K.α} {d j o:Nat} {u:U} (y:K.α) (hp:ex env n p=nH v j K.k o) (ak:ex env n x=u) (ek:n7 L d (.arr K v l) (.arr K v lq) L') (hl:lq=l.set j y) (bg:∀z,l[j]? =some z->K.enc y=(K.enc z).set o u) (h:X B W ax ro post n env L' aL k) (hj:j<l.length:=by omega) (ho:o<K.k:=by decide) (hu:u.cells= #[u]:=by rfl) (h1:u.oneCell'=true:=by rfl) (bG:a7 P (sizeOf t)=some 1:=by kernel_rfl):
  X B W ax ro post n env L aL (.st t p x k):=⟨λaq ln=>by
 obtain⟨af,rfl⟩:=ek.get;subst hl
 exact .VO d j o y af hp hj ak ho hu h1 bg bG (h aq ln)⟩
theorem wh {d g ty j m:Nat} {cs cs' us:List U} (hp:ex env n p= .pointer (some ⟨g,j,none⟩)) (ak:ex env n x= .agg ⟨us⟩) (ek:n7 L d (.box g ty cs) (.box g ty cs') L') (av:cs'=cs.take j++us++cs.drop (j+m)) (h:X B W ax ro post n env L' aL k) (hj:j+m<=cs.length:=by exact hJ rfl) (hu:us.length=m:=by rfl) (h1:∀u∈us,u.oneCell'=true:=by repeat (first|exact E2|refine o8 rfl ?_)) (bG:a7 P (sizeOf t)=some m:=by kernel_rfl):
  X B W ax ro post n env L aL (.st t p x k):=⟨λaq ho=>by
 obtain⟨af,rfl⟩:=ek.get;subst av
 exact .VN d af hp ak hj hu h1 bG (h aq ho)⟩
end
theorem ag4 {t:aH} {s:U} {c us cs cs':List U} {d g ty j m vB e:Nat} (av:ex env n s= .slice (some ⟨g,j,none⟩) m vB) (ak:fU env n c=us) (ek:n7 L d (.box g ty cs) (.box g ty cs') L') (he:cs'=cs.take j++us++cs.drop (j+us.length)) (h:X B W ax ro post n env L' aL k)
  (aJ:0<us.length:=by exact hJ rfl) (hm:us.length<=m:=by exact hJ rfl) (hj:j+us.length<=cs.length:=by exact hJ rfl) (h1:∀u∈us,u.oneCell'=true:=by repeat (first|exact E2|refine o8 rfl ?_)) (aI:P.underlying t=some (.slice e):=by kernel_rfl) (bG:(P.info? e).map (·.size)=some 1:=by kernel_rfl):
  X B W ax ro post n env L aL (.rq t s c k):=⟨λaq ho=>by
 obtain⟨af,rfl⟩:=ek.get;subst he
 exact .rq d af av ak aI bG aJ hm h1 hj (h aq ho)⟩
theorem Db {t:aH} {x:U} {g ty:Nat} {cs:List U} {L':List (aF P)} (ak:ex env n x= .pointer (some ⟨g,0,none⟩)) (hL:kW L (.box g ty cs)) (eb:∀M,bW B (aG W) ax M (b3 L)->bW B (aG W) ax M (b3 L')) (h:post (.agg ⟨cs⟩) L') (ha:a7 P (isAgg t)=some true:=by kernel_rfl) (av:a7 P (sizeOf t)=some cs.length:=by kernel_rfl) (aC:aM (.agg ⟨cs⟩)=true:=by rfl) (af:∀f',@aK f' (.agg ⟨cs⟩)= .agg ⟨cs⟩:=by exact λ_=>rfl):
 X B W ax ro post n env L aL (.pM t x):=⟨λ_ _=>hL.get.elim λi az=> .pM i az ak ha av aC af L' eb h⟩
section
variable {t:aH} {s x:U} {c:List U} {K:hP P} {v:U} {l:List K.α}
theorem Pc {d:Nat} {L':Option Addr->Nat->List (aF P)} (lx:List K.α) (av:ex env n s=v) (ek:∀a c,n7 L d (.arr K v l) (.arr K (.slice a (l++lx).length c) (l++lx)) (L' a c)) (ak:fU env n c=lx.flatMap K.enc) (h:∀a c,X B W ax ro post (n+1) (.slice a (l++lx).length c::env) (L' a c) aL k) (ie:l.length+lx.length<=maxLen) (ad:(l.length+lx.length)*K.bytes<=140737488355328) (aI:P.underlying t=some (.slice K.e):=by kernel_rfl):
  X B W ax ro post n env L aL (.uR t s c k):=⟨λaq ho=>
 .VP d lx (ek none 0).get.1 av ak aI ie ad λa c=>(ek a c).get.2▸h a c (by simp [aq]) ⟨rfl,ho⟩⟩
theorem Pd {d:Nat} {L':Option Addr->Nat->List (aF P)} {ji:U} {lx:List K.α} (av:ex env n s=v) (ak:ex env n x=ji) (ek:∀a c,n7 L d (.jh K v l) (.jh K (.slice a (l++lx).length c) (l++lx)) (L' a c)) (iU:iO ro L K ji lx) (h:∀a c,X B W ax ro post (n+1) (.slice a (l++lx).length c::env) (L' a c) aL k) (ie:l.length+lx.length<=maxLen) (ad:(l.length+lx.length)*K.bytes<=140737488355328) (aI:P.underlying t=some (.slice K.e):=by kernel_rfl):
  X B W ax ro post n env L aL (.uS t s x k):=⟨λaq ho=>
 .VQ d ji lx (ek none 0).get.1 av ak aI (λ_ bj hr=>iU.rp bj hr) ie ad λa c=>(ek a c).get.2▸h a c (by simp [aq]) ⟨rfl,ho⟩⟩
theorem zs {L':Option Addr->Nat->List (aF P)} {us xs:List U} (K:hP P) (l:List K.α) (ak:fU env n xs=us) (hu:us.map Value.cells=l.map λy=>⟨K.enc y⟩) (ek:∀a c,qA L (.arr K (.slice a l.length c) l) (L' a c)) (h:∀a c,X B W ax ro post (n+1) (.slice a l.length c::env) (L' a c) aL k) (bG:∃z,a7 P (zeroValue K.e)=some z) (ag:K.k<=1000:=by decide) (aI:P.underlying t=some (.slice K.e):=by kernel_rfl):
  X B W ax ro post n env L aL (.oL t xs k):=⟨λaq ho=>
 .oL K l aI bG ag ak hu λa c=>(ek a c).eq▸h a c (by simp [aq]) ⟨rfl,ho⟩⟩
theorem Pe {m cap:Nat} {L':Nat->List (aF P)} (K:hP P) (xs:List K.α) (ak:fU env n c=xs.flatMap K.enc) (ek:∀g,qA L (.red K (.slice (some ⟨g,0,none⟩) m cap) xs) (L' g)) (h:∀g,X B W ax ro post (n+1) (.slice (some ⟨g,0,none⟩) m cap::env) (L' g) aL k) (hm:xs.length=m:=by rfl):X B W ax ro post n env L aL (.sz c m cap k):=⟨λaq ho=>
 .sz K xs ak hm λg=>(ek g).eq▸h g (by simp [aq]) ⟨rfl,ho⟩⟩
theorem Bo {L':Nat->List (aF P)} {u:U} {cs:List U} (ak:ex env n x=u) (hu:u.cells=⟨cs⟩) (ek:∀g,qA L (.box g t cs) (L' g)) (h:∀g,X B W ax ro post (n+1) (.pointer (some ⟨g,0,none⟩)::env) (L' g) aL k):X B W ax ro post n env L aL (.pc t x k):=⟨λaq ho=>
 .pc ak hu λg=>(ek g).eq▸h g (by simp [aq]) ⟨rfl,ho⟩⟩
theorem wi {L':Nat->List (aF P)} {z:U} (cs:List U) (bG:a7 P (zeroValue t)=some z) (hu:z.cells=⟨cs⟩) (ek:∀g,qA L (.box g t cs) (L' g)) (h:∀g,X B W ax ro post (n+1) (.pointer (some ⟨g,0,none⟩)::env) (L' g) aL k):X B W ax ro post n env L aL (.nE t k):=⟨λaq ho=>
 .nE bG hu λg=>(ek g).eq▸h g (by simp [aq]) ⟨rfl,ho⟩⟩
end
section
variable {f:FuncId} {args:List U} {r:U} {m:Nat}
theorem iY {v:U} (al:∀w,kV W ax ro L w->Calls P f ⟨fU env n args⟩ w λe w'=>e= .returned v/\ch w.heap.size w w') (h:X B W ax ro post (q+1) (v::env) L aL k) (h1:mA v=v:=by rfl) (az:Nat.blt q eD=true:=by rfl) (a1:n=q:=by rfl):X B W ax ro post n env L aL (.c f args (aj q) 1 k):=by
 subst a1;refine⟨λaq ho=> ?_⟩;have fa:(v::env).length=n+1:=by simp [aq]
 refine .c [v] rfl ⟨h1,trivial⟩ (λw hw=> ?_) (h fa ⟨h1,ho⟩);have:=sD (M:=λ_=>none) az aq ho h1;rw[ld (λ_=>none) (env:=v::env) (n:=n+1) ⟨h1,ho⟩ fa] at this;show Calls P f _ w λe w'=>e= .returned (ex (v::env) (n+1) (aj n))/\_
 rw[this];exact al w hw
theorem qE (vs:List U) {rv:U} (al:∀w,kV W ax ro L w->Calls P f ⟨fU env n args⟩ w λe w'=>e= .returned rv/\ch w.heap.size w w') (hr:ex (iP vs m env) (n+m) r=rv) (h:X B W ax ro post (n+m) (iP vs m env) L aL k) (h1:eV vs:=by exact ik) (hm:vs.length=m:=by rfl):X B W ax ro post n env L aL (.c f args r m k):=by
 refine⟨λaq ho=> ?_⟩;have e:iP vs m env=vs.reverse++env:=by rw[xI,zq vs m hm]
 rw[e] at h hr;refine .c vs hm h1 (λw hw=> ?_) (h (by simp [aq,hm];omega) (rC (oK h1) ho));rw[hr];exact al w hw
theorem ag5 (Y:Type) (is:List Nat) (vs:Y->List U) (kS uW:Y->List (aF P)) {L':Y->List (aF P)} (al:∀w,kV W ax ro L w->b_ (aG w) (pick (b3 L) is)->Calls P f ⟨fU env n args⟩ w λe w'=>(∃y,e= .returned (ex (iP (vs y) m env) (n+m) r)/\dp (aG w) (pick (b3 L) is) (aG w') (b3 (kS y++uW y)))/\ch 0 w w')
  (hL:∀y,uV L is (kS y)++uW y=L' y) (h:∀y,X B W ax ro post (n+m) (iP (vs y) m env) (L' y) aL k) (ij:jU L.length is=true:=by rfl) (hl:∀y,(kS y).length=is.length:=by exact λ_=>rfl) (hm:∀y,(vs y).length=m:=by exact λ_=>rfl) (h1:∀y,eV (vs y):=by exact λ_=>ik):X B W ax ro post n env L aL (.call f args r m k):=by
 refine⟨λaq ho=> ?_⟩;have e:∀y,iP (vs y) m env=(vs y).reverse++env:=λy=>by rw[xI,zq _ m (hm y)]
 refine .call Y is ij vs kS uW hl hm h1 (λw hw _ aA=> ?_) (λy=> ?_)
 ·refine(al w hw aA).mono λe' w' h=> ?_
  obtain⟨⟨y,bg,av⟩,hl⟩:=h;exact⟨⟨y,by rw[<-e y];exact bg,av⟩,hl⟩
 ·have:=h y (by rw[e y];simp [aq,hm y];omega) (by rw[e y];exact rC (oK (h1 y)) ho)
  rw[e y,<-hL y] at this;exact this
end
theorem u1 {vs:List U} {m:Nat} (dQ:Type) (a':dQ->List U) (bX:dQ->List (aF P)) (eU:dQ->Prop) (gI:dQ->Nat) (iR:dQ) (aJ:fU env n vs=a' iR) (hL:L=bX iR) (bn:eU iR)
  (h:∀u,eU u->X B W ax ro post (n+m) (iP (a' u) m env) (bX u) ((λde L'=>∃u',eU u'/\gI u'<gI u/\de=a' u'/\lf B W ax L' (bX u'))::aL) k) (hm:∀u,(a' u).length=m:=by exact λ_=>rfl) (h1:∀u,eV (a' u):=by exact λ_=>ik):X B W ax ro post n env L aL (.loop vs m k):=⟨λaq ho=>by
 refine .loop dQ a' bX eU gI iR hm h1 aJ (hL▸lf.refl L) bn λu hu=> ?_
 have e:iP (a' u) m env=(a' u).reverse++env:=by rw[xI,zq _ m (hm u)]
 have:=h u hu (by rw[e];simp [aq,hm u];omega) (by rw[e];exact rC (oK (h1 u)) ho);rw[e] at this
 exact this⟩
theorem ng {dQ:Type} {a':dQ->List U} {bX:dQ->List (aF P)} {eU:dQ->Prop} {gI:dQ->Nat} {u:dQ} {vs:List U} (u':dQ) (aC:fU env n vs=a' u') (hL:L=bX u') (bn:eU u') (xv:gI u'<gI u):
 X B W ax ro post n env L ((λde L'=>∃u',eU u'/\gI u'<gI u/\de=a' u'/\lf B W ax L' (bX u'))::aL) (.back vs):=⟨λ_ _=> .back ⟨u',bn,xv,aC,hL▸lf.refl L⟩⟩
end
theorem Jv {n:Nat} {env:List U} {L:List (aF P)} {aL:List (eK P)} {k cV df:bs} {x:U} {m:Nat} {p:Prop} [Decidable p] (dQ:Type) (a':dQ->List U) (bX:dQ->List (aF P)) (eU:dQ->Prop) (ak:ex env n x= .bool (decide p))
  (h1:p->X B W ax ro post n env L ((λde L'=>∃u',eU u'/\de=a' u'/\lf B W ax L' (bX u'))::aL) cV) (ae:¬p->X B W ax ro post n env L ((λde L'=>∃u',eU u'/\de=a' u'/\lf B W ax L' (bX u'))::aL) df)
  (h:∀u,eU u->X B W ax ro post (n+m) (iP (a' u) m env) (bX u) aL k) (hm:∀u,(a' u).length=m:=by exact λ_=>rfl) (ho:∀u,eV (a' u):=by exact λ_=>ik):X B W ax ro post n env L aL (.rD x cV df m k):=⟨λaq ln=>by
 refine .rD _ ak dQ a' bX eU hm ho (λad=>h1 (of_decide_eq_true ad) aq ln) (λad=>ae (of_decide_eq_false ad) aq ln) λu hu=> ?_
 have e:iP (a' u) m env=(a' u).reverse++env:=by rw[xI,zq _ m (hm u)]
 have:=h u hu (by rw[e];simp [aq,hm u];omega) (by rw[e];exact rC (oK (ho u)) ln);rw[e] at this
 exact this⟩
theorem xN {n:Nat} {env:List U} {L:List (aF P)} {aL:List (eK P)} {dQ:Type} {a':dQ->List U} {bX:dQ->List (aF P)} {eU:dQ->Prop} {vs:List U} (u':dQ) (aC:fU env n vs=a' u') (hL:L=bX u') (bn:eU u'):
 X B W ax ro post n env L ((λde L'=>∃u',eU u'/\de=a' u'/\lf B W ax L' (bX u'))::aL) (.back vs):=⟨λ_ _=> .back ⟨u',bn,aC,hL▸lf.refl L⟩⟩
structure ag6 (q:Prop):Prop where
 go:q
theorem bK {p q:Prop} (k:q) (h:ag6 q->p:=by
 intro oq
 repeat (first
  |refine agR J J ?_|refine agS J J ?_|refine agT J J ?_|refine agU J J ?_|refine O9 J J ?_|refine Bl J J ?_
  |refine O' J J ?_|refine Bm J J ?_|refine FO J J ?_|refine wg J J ?_|refine agV J J ?_|refine O_ J J ?_|refine Pa J J ?_
  |refine Js rfl ?_|refine agY rfl ?_|refine ag2 rfl ?_|refine ag3 rfl ?_|refine nI rfl has rfl ?_|refine mI J J ?_|refine agZ J J ?_|refine ag0 rfl ?_|refine Da J J ?_|refine sF J J ?_|refine pS J J ?_
  |refine agW J J ?_|refine agX J J ?_|refine qD J J gO qC ?_|refine xL ?_)
 exact oq.go):p:=h ⟨k⟩
end AE
namespace AE
variable {P:aQ} {B:Nat} {W:au} {ax:List ca} {ro:List (iy P)} {post:U->List (aF P)->Prop}
def tH.{u} {α:Type u}:List α->List Nat->List α->List α
 |L,i::is,R::iM=>tH (L.set i R) is iM
 |L,[],iM=>L++iM
 |L,_::_,[]=>L
theorem We.{u} {α:Type u}:∀(is:List Nat) (L iM:List α),is.length<=iM.length->uV L is (iM.take is.length)++iM.drop is.length=tH L is iM
 |[],L,iM,_=>by simp [uV,tH]
 |i::is,L,[],h=>by simp at h
 |i::is,L,R::iM,h=>by
  simp only [List.length_cons,List.take_succ_cons,List.drop_succ_cons];exact We is (L.set i R) iM (by simpa using h)
def gY (P:aQ) (f:FuncId) (args:List U) (W:au) (L:List (aF P)) (Y:Type) (v:Y->U) (N:Y->List (aF P)):Prop:=
 Calls P f ⟨args⟩ W λx w'=>(∃y,x= .returned (v y)/\dp (aG W) (b3 L) (aG w') (b3 (N y)))/\ch 0 W w'
abbrev qF (P:aQ) (f:FuncId) (args:List U) (W:au) (v:U):Prop:=Calls P f ⟨args⟩ W λe w'=>e= .returned v/\ch W.heap.size W w'
section
variable {n:Nat} {env:List U} {L:List (aF P)} {aL:List (eK P)} {k:bs} {f:FuncId} {args:List U} {r:U} {m:Nat}
theorem il {dq:List (aF P)} {Y:Type} {v:Y->U} {N L':Y->List (aF P)} {aS:List U} (is:List Nat) (vs:Y->List U) (al:∀w,kV W ax ro L w->b_ (aG w) (b3 dq)->gY P f aS w dq Y v N)
  (h:∀y,X B W ax ro post (n+m) (iP (vs y) m env) (L' y) aL k) (hr:∀y,ex (iP (vs y) m env) (n+m) r=v y:=by exact λ_=>rfl) (hL:∀y,tH L is (N y)=L' y:=by exact λ_=>rfl) (hp:pick (b3 L) is=b3 dq:=by rfl) (ij:jU L.length is=true:=by rfl)
  (hl:∀y,is.length<=(N y).length:=by exact λ_=>hJ rfl) (hm:∀y,(vs y).length=m:=by exact λ_=>rfl) (h1:∀y,eV (vs y):=by exact λ_=>ik) (ha:fU env n args=aS:=by rfl):X B W ax ro post n env L aL (.call f args r m k):=
 ag5 Y is vs (λy=>(N y).take is.length) (λy=>(N y).drop is.length) (λw hw aA=>by
  rw[hp] at aA ⊢;rw[ha];refine(al w hw aA).mono λe w' ak=> ?_
  obtain⟨⟨y,bg,aI⟩,hl⟩:=ak
  exact⟨⟨y,by rw[bg,hr y],by rw[List.take_append_drop];exact aI⟩,hl⟩) (λy=>(We is L (N y) (hl y)).trans (hL y)) h ij (λy=>by rw[List.length_take];exact Nat.min_eq_left (hl y)) hm h1
end
theorem fB.nil (M:Mem):fB ([]:List (iy P)) M:=λi r h=>by simp at h
theorem fB.cons {r:iy P} {l:List (iy P)} {M:Mem} (h:r.ok M) (hl:fB l M):fB (r::l) M:=λi q a1=>by
 cases i with
 |zero=>simp only [List.getElem?_cons_zero,cx] at a1;subst a1;exact h
 |succ i=>exact hl i q (by simpa using a1)
theorem fB.ext {l:List (iy P)} (h:fB l (aG W)):∀M,pb (aG W) [] M->fB l M:=λ_ bj i r hr=>b7.mono (h i r hr) λi o af=>bj i o af (CL i)
theorem fB.none {ax:List ca}:∀M,pb (aG W) ax M->fB ([]:List (iy P)) M:=λM _=> .nil M
section
variable [Lib P] {f:FuncId} {h:Ba} {args aS:List U} {n:Nat} {t:bs}
theorem kG {L:List (aF P)} {Y:Type} {v:Y->U} {N:Y->List (aF P)} (cD:P.follows .mixedOrders=true) (az:fJ P f h args n=some t) (vs:List U) (aA:b_ (aG W) (b3 L)) (dC:∀M,pb (aG W) (b3 L) M->fB ro M)
  (ak:X 0 W (b3 L) ro (λx L'=>∃y,x=v y/\L'=N y) n vs.reverse L [] t) (ha:fU vs.reverse n args=aS:=by rfl) (aq:vs.length=n:=by rfl) (ho:eV vs:=by exact ik):gY P f aS W L Y v N:=by
 subst ha;refine(agP cD az L aA dC aq ho (ak (by simp [aq]) (oK ho))).mono λe w q=> ?_
 obtain⟨⟨x,L',rfl,⟨y,rfl,rfl⟩,eb⟩,ae⟩:=q;exact⟨⟨y,rfl,eb⟩,ae⟩
theorem n8 {v:U} (cD:P.follows .mixedOrders=true) (az:fJ P f h args n=some t) (vs:List U) (dC:fB ro (aG W))
  (ak:X W.heap.size W [] ro (λx _=>x=v) n vs.reverse [] [] t) (ha:fU vs.reverse n args=aS:=by rfl) (aq:vs.length=n:=by rfl) (ho:eV vs:=by exact ik):qF P f aS W v:=by
 subst ha;refine(agO cD az dC.ext aq ho (ak (by simp [aq]) (oK ho))).mono λe w q=> ?_
 obtain⟨⟨x,L',rfl,rfl,eb⟩,ae⟩:=q;exact⟨rfl,ae⟩
end
end AE
namespace AE
variable {P:aQ} {B:Nat} {W:au} {ax:List ca} {ro:List (iy P)} {post:U->List (aF P)->Prop}
theorem ag7 {t e:aH} {n j:Nat} {cs:List U} {k:IntKind} {u:U} (aI:P.underlying t=some (.array n e)) (cb:a7 P (sizeOf e)=some 1) (ha:a7 P (isAgg e)=some false) (hj:j<n) (hu:cs[j]? =some u) (w:au):(Instr.index t (.agg ⟨cs⟩) (.int k (j:Nat))).run P w= .ok u w:=by
 have h1:(asIntOf (.int k (j:Nat))).run P w= .ok (k,((j:Nat):Int)) w:=rfl;have ai:(0:Int)<=((j:Nat):Int)/\((j:Nat):Int)<((n:Nat):Int):=⟨ao,ao⟩;unfold Instr.index;simp only [Sem.run_bind,h1,Result.andThen_ok,run_underlying aI];rw[aN ai];simp only [Sem.run_bind,jc cb w,Result.andThen_ok];unfold part;simp only [Sem.run_bind,jc ha w,Result.andThen_ok];simp [hu]
theorem aR.ag8 [aY] {t e:aH} {x i r:U} {n j:Nat} {cs:List U} {k:IntKind} {u:U} (ak:aM x=true) (af:aM i=true) (hr:aM r=true) (aI:P.underlying t=some (.array n e)) (cb:a7 P (sizeOf e)=some 1) (ha:a7 P (isAgg e)=some false) (hj:j<n) (hu:cs[j]? =some u)
  (ex:aK x= .agg ⟨cs⟩) (gj:aK i= .int k (j:Nat)) (bX:aK r=u):aR P (.eA t x i,r):=by
 refine CD (by simp [nv,ak,af]) hr rfl λdO dP w _=> ?_
 show (fI dO dP (.eA t (aK x) (aK i))).run P w=_;rw[ex,gj,bX];unfold fI;simp only [Sem.run_bind,ag7 aI cb ha hj hu w,Result.andThen_ok];rfl
section
variable {n q:Nat} {ai:List Nat} {env:List U} {L:List (aF P)} {aL:List (eK P)} {k:bs} {t:aH} {x y i:U}
theorem Wf {m e j:Nat} {gM:IntKind} {cs:List U} {u:U} (ak:ex (u::env) (q+1) x= .agg ⟨cs⟩) (af:ex (u::env) (q+1) i= .int gM (j:Nat)) (hu:cs[j]? =some u) (h:X B W ax ro post (q+1) (u::env) L aL k) (hj:j<m:=by omega) (h1:mA u=u:=by rfl) (aI:P.underlying t=some (.array m e):=by kernel_rfl) (cb:a7 P (sizeOf e)=some 1:=by kernel_rfl) (ha:a7 P (isAgg e)=some false:=by kernel_rfl) (eM:aM x=true:=by rfl) (pi:aM i=true:=by rfl) (az:Nat.blt q eD=true:=by rfl) (a1:n=q:=by rfl):
  X B W ax ro post n env L aL (.o (.eA t x i) (aj q) 1 [1,m,e,1] k):=
 mH _ (λM _ _ lH av=> @aR.ag8 P (cA M (_::env)) t e x i (aj q) m j cs gM u eM pi rfl aI cb ha hj hu ((lH x).trans ak) ((lH i).trans af) av) h h1 az a1
theorem Pf {a:Option Addr} {m c j e aZ m':Nat} (hm:m-j=m') (ak:ex (.slice (kD a c j aZ) m' (c-j)::env) (q+1) x= .slice a m c) (af:ex (.slice (kD a c j aZ) m' (c-j)::env) (q+1) i= .int .i64 (j:Nat)) (h:X B W ax ro post (q+1) (.slice (kD a c j aZ) m' (c-j)::env) L aL k) (hj:j<=m:=by omega) (aI:P.underlying t=some (.slice e):=by kernel_rfl) (cb:a7 P (sizeOf e)=some aZ:=by kernel_rfl) (eM:aM x=true:=by rfl) (pi:aM i=true:=by rfl) (az:Nat.blt q eD=true:=by rfl) (a1:n=q:=by rfl):
  X B W ax ro post n env L aL (.o (.lr t x (some i) none none) (aj q) 1 [0,e,aZ] k):=
 mH _ (λM _ _ lH av=> @aR.TH (cA M (_::env)) P t e aZ x i (aj q) a m c j eM pi rfl aI cb ((lH x).trans ak) ((lH i).trans af) hj (by rw[av,hm])) h rfl az a1
theorem ag9 {g o m e aZ:Nat} (ak:ex (.slice (some ⟨g,o,none⟩) m m::env) (q+1) x= .pointer (some ⟨g,o,none⟩)) (h:X B W ax ro post (q+1) (.slice (some ⟨g,o,none⟩) m m::env) L aL k) (aJ:0<m:=by decide) (aI:P.underlying t=some (.array m e):=by kernel_rfl) (cb:a7 P (sizeOf e)=some aZ:=by kernel_rfl) (eM:aM x=true:=by rfl) (az:Nat.blt q eD=true:=by rfl) (a1:n=q:=by rfl):
  X B W ax ro post n env L aL (.o (.lr t x none none none) (aj q) 1 [1,m,e,aZ] k):=
 mH _ (λM _ _ lH av=> @aR.adq (cA M (_::env)) P t e x (aj q) g o m aZ eM rfl aI cb ((lH x).trans ak) aJ av) h rfl az a1
theorem Wg {xs ys:List U} {b:Bool} (ak:ex (.bool (!b)::env) (q+1) x= .agg ⟨xs⟩) (bg:ex (.bool (!b)::env) (q+1) y= .agg ⟨ys⟩) (he:rk P 10000 t (.agg ⟨xs⟩) (.agg ⟨ys⟩)=some b) (h:X B W ax ro post (q+1) (.bool (!b)::env) L aL k) (ag':P.eqGuardType P.depth t=false:=by kernel_rfl) (eM:aM x=true:=by rfl) (jG:aM y=true:=by rfl) (az:Nat.blt q eD=true:=by rfl) (a1:n=q:=by rfl):
  X B W ax ro post n env L aL (.o (.bin .neq t x y) (aj q) 1 ai k):=
 mH _ (λM _ _ af av=>FM (@aR.ML (cA M (_::env)) P t x y ⟨xs⟩ ⟨ys⟩ b ag' eM jG ((af x).trans ak) ((af y).trans bg) he) (by rw[av];rfl)) h rfl az a1
end
section
variable {n:Nat} {env:List U} {L:List (aF P)} {aL:List (eK P)}
theorem oO {x:U} {L':List (aF P)} (eb:∀M,bW B (aG W) ax M (b3 L)->bW B (aG W) ax M (b3 L')) (h:post (ex env n x) L'):X B W ax ro post n env L aL (.ret x):=⟨λ_ _=> .ret L' eb h⟩
end
theorem Wh.{u} {α:Type u}:∀(L R pre:List α),L.length=R.length->tH (pre++L) (List.range' pre.length L.length) R=pre++R
 |[],[],pre,_=>by simp [tH]
 |a::L,r::R,pre,h=>by
  have:=Wh L R (pre++[r]) (by simpa using h);rw[List.length_cons,List.range'_succ];show tH ((pre++a::L).set pre.length r) _ R=_;rw[List.set_append_right _ _ (bY _),Nat.sub_self,List.set_cons_zero];simpa using this
theorem FP.{u} {α:Type u} {n:Nat} {L R:List α} (hL:L.length=n) (hx:R.length=n):tH L (List.range' 0 n) R=R:=by
 subst hL;have:=Wh L R [] hx.symm;simpa using this
theorem Pg:∀(dq X pre:List ca),pick (pre++(dq++X)) (List.range' pre.length dq.length)=dq
 |[],_,_=>rfl
 |a::dq,X,pre=>by
  have:=Pg dq X (pre++[a]);rw[List.length_append,List.length_singleton,List.append_assoc] at this;rw[List.length_cons,List.range'_succ];unfold pick;rw[List.getElem?_append_right (bY _),Nat.sub_self];show a::pick (pre++([a]++(dq++X))) _=_;rw[this]
theorem Wi.{u} {α:Type u}:∀(dq R X pre:List α),dq.length=R.length->tH (pre++(dq++X)) (List.range' pre.length dq.length) R=pre++(R++X)
 |[],[],X,pre,_=>by simp [tH]
 |a::dq,r::R,X,pre,h=>by
  have:=Wi dq R X (pre++[r]) (by simpa using h);rw[List.length_append,List.length_singleton,List.append_assoc,List.append_assoc] at this;rw[List.length_cons,List.range'_succ];show tH ((pre++(a::(dq++X))).set pre.length r) _ R=_;rw[List.set_append_right _ _ (bY _),Nat.sub_self,List.set_cons_zero];exact this
theorem Ph (n:Nat):∀(m s:Nat),s+m<=n->jU n (List.range' s m)=true
 |0,_,_=>rfl
 |m+1,s,h=>by
  rw[List.range'_succ];unfold jU;rw[Ph n m (s+1) ao,Bool.and_true,c0];refine⟨Nat.blt_eq.mpr ao,?_⟩;rw[Bool.not_eq_true',<-Bool.not_eq_true];intro al;have:=List.mem_range'_1.1 (by simpa using al:s∈List.range' (s+1) m);omega
theorem bW.pre {M:Mem} {dq X:List (aF P)} (h:bW B (aG W) ax M (b3 (dq++X))):bW B (aG W) ax M (b3 dq):=by
 have e:=Pg (b3 dq) (b3 X) [];have:=h.pick (List.range' 0 dq.length) (Ph _ _ _ (by simp));rw[show b3 (dq++X)=b3 dq++b3 X from List.map_append] at this;rw[show (b3 dq).length=dq.length from List.length_map _] at e;rw[List.nil_append] at e;rw[show List.range' 0 dq.length=List.range' ([]:List ca).length dq.length from rfl,e] at this;exact this
theorem sH {n:Nat} {env:List U} {L:List (aF P)} {aL:List (eK P)} {k:bs} {f:FuncId} {args:List U} {r:U} {m:Nat} {dq Bp:List (aF P)} {Y:Type} {v:Y->U} {N:Y->List (aF P)} {aS:List U} (vs:Y->List U) (al:∀w,kV W ax ro L w->b_ (aG w) (b3 dq)->gY P f aS w dq Y v N)
  (h:∀y,X B W ax ro post (n+m) (iP (vs y) m env) (N y++Bp) aL k) (hr:∀y,ex (iP (vs y) m env) (n+m) r=v y:=by exact λ_=>rfl) (hL:L=dq++Bp:=by rfl) (hl:∀y,dq.length=(N y).length:=by exact λ_=>rfl) (hm:∀y,(vs y).length=m:=by exact λ_=>rfl) (h1:∀y,eV (vs y):=by exact λ_=>ik) (ha:fU env n args=aS:=by rfl):X B W ax ro post n env L aL (.call f args r m k):=by
 subst hL;refine il (dq:=dq) (L':=λy=>N y++Bp) (List.range' 0 dq.length) vs al h hr (λy=>Wi dq (N y) Bp [] (hl y)) ?_ (Ph _ _ _ (by simp)) (λy=>by rw[List.length_range',hl y];exact bY _) hm h1 ha;have e:=Pg (b3 dq) (b3 Bp) [];rw[show (b3 dq).length=dq.length from List.length_map _] at e;rw[show b3 (dq++Bp)=b3 dq++b3 Bp from List.map_append];exact e
theorem Pj {M:Mem} {L L':List (aF P)} (d:Nat) {K:hP P} {a:Option Addr} {m c j m':Nat} {l lq:List K.α} (ek:n7 L d (.jh K (.slice a m c) l) (.jh K (.slice (kD a c j K.k) m' (c-j)) lq) L') (hl:lq=l.drop j) (hm:m-j=m') (hj:j<=m) (h:bW B (aG W) ax M (b3 L)):bW B (aG W) ax M (b3 L'):=by
 obtain⟨af,rfl⟩:=ek.get;subst hl hm;rw[tG];exact h.l_ d (kF af) (Io ((h.jh d (kF af)).drop K.len hj) (λ_ _ h _=>h) λi af=> .inl (aen af))
end AE
section
noncomputable section
namespace AE
def u2 (P:aQ) (e k bytes:Nat):Bool:=match P.info? e with
 |some i=>(match i.zero with|some z=>Nat.beq z.cells.size k|none=>false)&&(Nat.beq i.size k&&(Nat.beq i.bytes bytes&&(match a7 P (sizeOf e) with|some m=>Nat.beq m k|none=>false)))
 |none=>false
theorem Wj {P:aQ} {e k bytes:Nat} (h:u2 P e k bytes=true):(∃i z,P.info? e=some i/\i.zero=some z/\i.size=k/\i.bytes=bytes/\z.cells.size=k)/\a7 P (sizeOf e)=some k:=by
 unfold u2 at h;split at h
 ·rename_i i af
  simp only [c0] at h;obtain⟨h1,ae,ay,bE⟩:=h;split at h1
  ·rename_i z bG
   split at bE
   ·rename_i m hm
    exact⟨⟨i,z,af,bG,ct ae,ct ay,ct h1⟩,by rw[hm,ct bE]⟩
   ·cases bE
  ·cases h1
 ·cases h
@[reducible] def xO {P:aQ} {α:Type} (d:α) (e k bytes:Nat) (enc:α->List U) (h:u2 P e k bytes=true) (ag:0<k:=by decide) (hl:∀x,(enc x).length=k:=by exact λ_=>rfl) (ho:∀x,∀u∈enc x,u.oneCell'=true:=by intro x;repeat (first|exact E2|refine o8 rfl ?_)):hP P:=
  ⟨α,d,e,k,bytes,enc,hl,ho,ag,(Wj h).2,(Wj h).1⟩
end AE
end
end
section
noncomputable section
namespace AE
abbrev bC:=List (fH×U)
abbrev ef:=List (FuncId×List U×U)
abbrev at' (N:Nat) (F:bC) (C:ef) (c:Code) (s:b6):Option bP:=Tw Tryz.prog F C N 1000 10 c s
abbrev qG (N:Nat) (F:bC) (C:ef) (ks:List fe) (o:Option bP):Option bP:=Tx Tryz.prog F C N 1000 10 ks o
abbrev sI (N:Nat) (F:bC) (C:ef) (m:Nat) (o:Option bP):Option bP:=Mx Tryz.prog F C N 1000 10 m o
abbrev Wk (N:Nat) (F:bC) (C:ef) (r:List Oper) (ops:Array Oper) (ks:List fe) (s:b6):Option bP:=AN Tryz.prog F C N 1000 10 r ops ks s
abbrev gm:=Code×List Nat×Nat
def nz (p:gm):Array Oper:=ad' p.1 p.2.1
def Wl (p:gm):List fe:=qp p.1 p.2.1 []
def Wm (p:gm):List Oper:=(nz p).toList.drop p.2.2
def Pk (o:Option bP):List Oper×Array Oper×List fe:=(jR o,jS o,gX o)
def Pl (p:gm):List Oper×Array Oper×List fe:=(Wm p,nz p,Wl p)
abbrev eS (N:Nat) (F:bC) (C:ef) (p:gm) (s:b6):Option bP:=AN Tryz.prog F C N 1000 10 (Wm p) (nz p) (Wl p) s
def iZ (N:Nat) (sl:aT) (dst:Nat) (v:U):aT:=match gy N sl (some dst) v with|some s=>s|none=> .nil
section
variable [aY] [cI] {N B:Nat} {w0 w:au} {a:Act} {Q:Exit->Act->au->Prop} [l7 Q]
theorem bO (F:bC) (T:ef) {c:Code} {s:b6} (cF:sf Tryz.prog F) (eb:ri Tryz.prog T) (h:e0 Tryz.prog N B w0 Q (at' N F T c s)) (ai:Here N s B w0 a w):c.wpIn (Fr none) 0 Tryz.prog Q a w:=ac7 mixed cF eb h ai
theorem gP {o:Option bP} {p:gm} {s:b6} (e:Pk o=Pl p) (F:bC) (T:ef) (cF:sf Tryz.prog F) (eb:ri Tryz.prog T) (h:e0 Tryz.prog N B w0 Q (eS N F T p s)) (ai:Here N s B w0 a w):wpListIn (Fr none) 0 Tryz.prog (jS o) (dS Tryz.prog (gX o) Q) (jR o) a w:=
 ad_ (congrArg Prod.fst e) (congrArg (λx=>x.2.1) e) (congrArg (λx=>x.2.2) e) mixed cF eb h ai
theorem rI {ks:List fe} {o:Option bP} {R:Act->au->Prop} (F:bC) (T:ef) (cF:sf Tryz.prog F) (eb:ri Tryz.prog T) (h:e0 Tryz.prog N B w0 Q (qG N F T ks o)):e0 Tryz.prog N B w0 (Exit.then R (dS Tryz.prog ks Q)) o:=ac8 mixed cF eb h
end
theorem jj {s1 s2:aY} {l:ev} (h:fm s1 s2 l:=by repeat (first|exact AO|refine ac9 (by first|exact aer J J J J|rfl|exact ac_ J J ao|exact ac' ao|exact aem rfl bB) ?_)):fm s1 s2 l:=h
theorem zt {s1:aY} [cI] {P:aQ} {N B:Nat} {w0:au} {X:Type} {f':X->aY} {eU:X->Prop} {gI:X->Nat} {m:Nat} {head:aT} {aU:List bM} {o:Option bP} (x':X) {bH:ev} {Q:Exit->Act->au->Prop} (ad:uD head aU o=some bH) (hm:fm s1 (f' x') bH)
 (bn:eU x') (xv:gI x'<m:=by (try dsimp only);omega) (pG:∀i o,(f' x').dg i=some o->s1.dg i=some o:=by exact λ_ _ h=>h) (aq:cI.dt<=aU.length:=by first|exact Nat.zero_le _|exact hJ rfl) (al:ic (cW o).A aU 0:=by exact f_ rfl):
 @e0 s1 _ P N B w0 (Exit.then (Np f' eU gI m N head aU B w0) Q) o:=aeq x' ad hm pG bn xv aq al
section
variable [aY] {P:aQ}
theorem bD {op:BinOp} {t:aH} {x y r:U} {k:IntKind} {a b:Int} (ex:aK x= .int k a:=by exact rfl) (hk:aK y= .int k b:=by exact rfl)
 (ak:aM x=true:=by exact rfl) (bg:aM y=true:=by exact rfl) (hr:aM r=true:=by exact rfl) (cj:yY op=true:=by exact rfl) (bX:aK r=xk op k a b:=by exact ads ao):aR P (.bin op t x y,r):=aR.bi ak bg hr cj ex hk bX
theorem a8 {op:BinOp} {t:aH} {x y r:U} {k:IntKind} {a b:Int} (ex:aK x= .int k a:=by exact rfl) (hk:aK y= .int k b:=by exact rfl)
 (ak:aM x=true:=by exact rfl) (bg:aM y=true:=by exact rfl) (hr:aM r=true:=by exact rfl) (cj:yY op=true:=by exact rfl) (bX:aK r=xk op k a b:=by exact adt ao):aR P (.bin op t x y,r):=aR.bi ak bg hr cj ex hk bX
theorem wj {op:BinOp} {t:aH} {x y r:U} {k:IntKind} {a b:Int} (ex:aK x= .int k a:=by exact rfl) (hk:aK y= .int k b:=by exact rfl)
 (ak:aM x=true:=by exact rfl) (bg:aM y=true:=by exact rfl) (hr:aM r=true:=by exact rfl) (cj:yY op=true:=by exact rfl) (bX:aK r=xk op k a b:=by exact adu ao):aR P (.bin op t x y,r):=aR.bi ak bg hr cj ex hk bX
theorem u3 {op:BinOp} {t:aH} {x y r:U} {k:IntKind} {a b:Int} (ex:aK x= .int k a:=by exact rfl) (hk:aK y= .int k b:=by exact rfl)
 (ak:aM x=true:=by exact rfl) (bg:aM y=true:=by exact rfl) (hr:aM r=true:=by exact rfl) (cj:yY op=true:=by exact rfl) (bX:aK r=xk op k a b:=by exact adv ao):aR P (.bin op t x y,r):=aR.bi ak bg hr cj ex hk bX
theorem mj {op:BinOp} {t:aH} {x y r:U} {k:IntKind} {a b:Int} (ex:aK x= .int k a:=by exact rfl) (hk:aK y= .int k b:=by exact rfl)
 (ak:aM x=true:=by exact rfl) (bg:aM y=true:=by exact rfl) (hr:aM r=true:=by exact rfl) (cj:yY op=true:=by exact rfl) (bX:aK r=xk op k a b:=by exact oB ao ao ao):aR P (.bin op t x y,r):=aR.bi ak bg hr cj ex hk bX
theorem kX {x r:U} {a:Addr} (ex:aK x= .pointer (some a):=by exact rfl) (bX:aK r= .pointer (some a):=by exact rfl) (ak:aM x=true:=by exact rfl) (hr:aM r=true:=by exact rfl):aR P (.dR x,r):=aR.T' ak hr ex bX
theorem jy {s:aH} {x r:U} {f g o:Nat} (ty off m:Nat) (ex:aK x= .pointer (some ⟨g,o,none⟩):=by exact rfl) (bX:aK r= .pointer (some ⟨g,o+off,none⟩):=by exact rfl) (ak:aM x=true:=by exact rfl) (hr:aM r=true:=by exact rfl)
 (aP:((P.fieldsOf s)[f]?).map (λf=>(f.type,f.offset))=some (ty,off):=by kernel_rfl) (av:a7 P (underlying s)=some (.struct (P.fieldsOf s)):=by kernel_rfl) (hm:a7 P (sizeOf ty)=some m:=by kernel_rfl) (aJ:m≠0:=by decide):aR P (.cu s x f,r):=aR.T_ aP av hm aJ ak hr ex bX
section
variable {B g:Nat} {eC:Mem} {cN L:List ca}
theorem pT {ty t:aH} {cs:List U} {p r u:U} (j i:Nat) (cQ:bW B eC cN aY.dg L) (af:L[i]? =some (hZ g ty cs):=by exact rfl) (lv:aK p= .pointer (some ⟨g,j,none⟩):=by exact rfl) (hj:cs[j]? =some u:=by exact rfl) (bX:aK r=u:=by exact rfl)
 (hp:aM p=true:=by exact rfl) (hr:aM r=true:=by exact rfl) (ha:a7 P (isAgg t)=some false:=by kernel_rfl):aR P (.bp t p,r):=aR.T9 (cQ.box i af) hj hp hr ha lv bX
theorem FQ {ty t:aH} {cs us:List U} {p r:U} (o n i:Nat) (cQ:bW B eC cN aY.dg L) (af:L[i]? =some (hZ g ty cs):=by exact rfl) (lv:aK p= .pointer (some ⟨g,o,none⟩):=by exact rfl) (hu:us=(cs.drop o).take n:=by exact rfl) (bX:aK r= .agg ⟨us⟩:=by exact rfl)
 (hp:aM p=true:=by exact rfl) (hr:aM r=true:=by exact rfl) (ha:a7 P (isAgg t)=some true:=by kernel_rfl) (aq:a7 P (sizeOf t)=some n:=by kernel_rfl) (hl:us.length=n:=by exact rfl):aR P (.bp t p,r):=aR.Ir (cQ.box i af) hu hp hr ha aq hl lv bX
end
section
variable {α:Type} {k:Nat} {enc:α->List U} {v:U} {l:List α}
theorem Wn {t e:aH} {x i r:U} {j:Nat} {gM:IntKind} (h:b7 aY.dg k enc v l) (hj:j<l.length) (aI:P.underlying t=some (.slice e)) (cb:a7 P (sizeOf e)=some k) (ex:aK x=v:=by exact rfl) (gj:aK i= .int gM j:=by exact rfl) (bX:aK r=iS v (j*k):=by exact rfl)
 (ak:aM x=true:=by exact rfl) (af:aM i=true:=by exact rfl) (hr:aM r=true:=by exact rfl):aR P (.cP t x i,r):=aR.EH h hj ak af hr aI cb ex gj bX
theorem wk {t e:aH} {x i r:U} {j:Nat} {gM:IntKind} (h:b7 aY.dg k enc v l) (aI:P.underlying t=some (.slice e)) (cb:a7 P (sizeOf e)=some k) (ex:aK x=v:=by exact rfl) (gj:aK i= .int gM j:=by exact rfl) (bX:aK r=iS v (j*k):=by exact rfl) (hj:j<l.length:=by omega)
 (ak:aM x=true:=by exact rfl) (af:aM i=true:=by exact rfl) (hr:aM r=true:=by exact rfl):aR P (.cP t x i,r):=aR.EH h hj ak af hr aI cb ex gj bX
theorem Bq {t:aH} {p r:U} {i o:Nat} {x:α} {u:U} (j:Nat) (h:b7 aY.dg k enc v l) (af:l[i]? =some x) (ha:a7 P (isAgg t)=some false) (hu:(enc x)[j]? =some u:=by exact rfl) (ho:o=i*k+j:=by exact rfl) (ex:aK p=iS v o:=by exact rfl) (bX:aK r=u:=by exact rfl)
 (hp:aM p=true:=by exact rfl) (hr:aM r=true:=by exact rfl):aR P (.bp t p,r):=aR.Tt h af hp hr ha ho hu ex bX
theorem fW {t ty e:aH} {x r:U} (h:b7 aY.dg k enc v l) (aI:P.underlying t=some (.slice e)) (ex:aK x=v:=by exact rfl) (bX:aK r= .int .i64 l.length:=by exact rfl) (ak:aM x=true:=by exact rfl) (hr:aM r=true:=by exact rfl):aR P (.len #[t] ty x,r):=aR.acW h ak hr aI ex bX
end
end
abbrev _root_.List.hs {α:Type} [Inhabited α] (l:List α) (i:Nat):α:=l.getD i default
abbrev bI {α:Type} (a:Option Addr) (l:List α) (c:Nat):U:= .slice a l.length c
abbrev gF (g o:Nat):U:= .pointer (some ⟨g,o,none⟩)
abbrev Jw {α:Type} (e:aH) (k:Nat) (enc:α->List U) (a:Option Addr) (l:List α) (c:Nat):ca:=iK e k enc (.slice a l.length c) l
abbrev Dc {α:Type} (e:aH) (k:Nat) (enc:α->List U) (a:Option Addr) (l:List α) (c:Nat):ca:=o7 e k enc (.slice a l.length c) l
abbrev Dd {α:Type} (e:aH) (k:Nat) (enc:α->List U) (a:Option Addr) (n c:Nat) (l:List α):ca:=iK e k enc (.slice a n c) l
abbrev De (a:Option Addr) (l:List bA) (c:Nat):ca:=Jw sw 4 ck a l c
abbrev Pm (a:Option Addr) (n c:Nat) (l:List bA):ca:=Dd sw 4 ck a n c l
abbrev tI (a:Option Addr) (l:List Bool) (c:Nat):ca:=Jw lT 1 hO a l c
abbrev zu (a:Option Addr) (n c:Nat) (l:List Bool):ca:=Dd lT 1 hO a n c l
abbrev pU (a:Option Addr) (l:List Int) (c:Nat):ca:=Jw sj 1 ih a l c
abbrev u4 (a:Option Addr) (n c:Nat) (l:List Int):ca:=Dd sj 1 ih a n c l
abbrev Jx (a:Option Addr) (l:List cr) (c:Nat):ca:=Jw nA 8 hA a l c
abbrev ag_ (a:Option Addr) (n c:Nat) (l:List cr):ca:=Dd nA 8 hA a n c l
abbrev xP (a:Option Addr) (l:List Nat) (c:Nat):ca:=Dc sv 1 o_ a l c
abbrev Pn (a:Option Addr) (l:List ax) (c:Nat):ca:=Dc zh 5 kg a l c
abbrev Po (a:Option Addr) (l:List ix) (c:Nat):ca:=Dc zg 3 uN a l c
instance instSymN (n:Nat):OfNat U n:=⟨aj n⟩
abbrev I (x:Int):U:= .int .i64 x
theorem jk {α:Type} (a:α):∃x,x=a:=⟨a,rfl⟩
abbrev bW.GY {B:Nat} {eC:Mem} {cN:List ca} {M:Mem} {L:List ca} (_:bW B eC cN M L):List ca:=cN
def ml (o:Option bP):Option (FuncId×List U):=match uE Tryz.prog o with|some x=>some (x.1,x.2.1)|none=>none
theorem Pp {o:Option bP} {f:FuncId} {args:List U} (h:ml o=some (f,args)):(uE Tryz.prog o).isSome=true/\(rm Tryz.prog o).1=f/\(rm Tryz.prog o).2.1=args:=by
 unfold ml at h;unfold rm;cases e:uE Tryz.prog o with
 |none=>rw[e] at h;cases h
 |some x=>rw[e] at h;cases h;exact⟨rfl,rfl,rfl⟩
theorem nJ [cI] {N B:Nat} {w0:au} {Q:Exit->Act->au->Prop} {M:Mem} {bh:List U} {o:Option bP} {f:FuncId} {args:List U} {ec:U} {Y:Type} {bx:Y->List U} {dM dF:aT} {aU:List bM} {bH:ev} {eC:Mem} {ax sm:List ca} {A6:Y->List ca}
  (aA:bW B eC ax M sm) (is:List Nat) (kS CN:Y->List ca) (he:ml o=some (f,args)) (c1:dy (ke Tryz.prog o) dM aU=some bH) (eg:gy N dM (iT o) ec=some dF)
  (ij:jU sm.length is=true:=by exact rfl) (hL:∀y,A6 y=kS y++CN y:=by exact λ_=>rfl)
  (jw:∀w,(∀i o,M i=some o->w.heap[i]? =some o)->B<=w.heap.size->b_ (aG w) (AE.pick sm is)->Calls Tryz.prog f ⟨@et (aX M bh) args⟩ w λe w'=>(∃y,e= .returned (@aK (aX M (bx y)) ec)/\dp (aG w) (AE.pick sm is) (aG w') (A6 y))/\ch 0 w w')
  (rest:∀M' y,bW B eC ax M' (la sm is (kS y)++CN y)->∀aS w,@Here (aX M' (bx y)) _ N {sl:=dF,ms:=[],A:=eJ aU} B w0 aS w->wpListIn (Fr none) 0 Tryz.prog (jS o) (dS Tryz.prog (gX o) Q) (jR o) aS w)
  (hr:∀M' y,@aK (aX M' (bx y)) ec= @aK (aX M (bx y)) ec:=by exact λ_ _=>rfl)
  (hm:∀y M',fm (aX M bh) (aX M' (bx y)) bH:=by exact λ_ _=>jj)
  (hlen:∀y,(kS y).length=is.length:=by exact λ_=>rfl) (hp:dW args=true:=by rfl) (fF:aM ec=true:=by rfl)
  (aq:cI.dt<=aU.length:=by first|exact Nat.zero_le _|exact hJ rfl) (al:ic (ke Tryz.prog o).A aU 0:=by exact f_ rfl): @e0 (aX M bh) _ Tryz.prog N B w0 Q o:=
 Un aA is kS CN (Pp he).1 (Pp he).2.1 (Pp he).2.2 c1 eg ij hr hL jw hm rest hlen hp fF aq al
section
variable [aY] {f:FuncId} {fn:Func} {args:List U} {W:au} {R:Ending->au->Prop}
theorem aha (c:Code) (a6:b6) (N:Nat) (args:List U) (oz:nw W) (l4:Tryz.prog.funcs[f]? =some fn) (qj:∀a,@Here _ fc N a6 W.heap.size W a W->c.wpIn (Fr none) 0 Tryz.prog (@qk fc Tryz.prog fn N W.heap.size W R) a W)
  (al:fn.body=some c:=by kernel_rfl) (gH:(match setArgs 0 args .nil with|some sl=>some ({sl,ms:=[],A:=start}:b6)|none=>none)=some a6:=by kernel_rfl) (hp:dW args=true:=by kernel_rfl) (iQ:args.length+(fn.ntmps-args.length)=N:=by kernel_rfl):Calls Tryz.prog f ⟨et args⟩ W R:=by
 cases e:setArgs 0 args .nil with
 |none=>rw[e] at gH;cases gH
 |some sl=>rw[e] at gH;cases gH;exact Ty l4 al e hp iQ oz qj
theorem ahb (c:Code) (a6:b6) (N:Nat) (args:List U) (oz:nw W) (l4:Tryz.prog.funcs[f]? =some fn) (qj:∀a,@Here _ fc N a6 0 W a W->c.wpIn (Fr none) 0 Tryz.prog (@qk fc Tryz.prog fn N 0 W R) a W)
  (al:fn.body=some c:=by kernel_rfl) (gH:(match setArgs 0 args .nil with|some sl=>some ({sl,ms:=[],A:=start}:b6)|none=>none)=some a6:=by kernel_rfl) (hp:dW args=true:=by kernel_rfl) (iQ:args.length+(fn.ntmps-args.length)=N:=by kernel_rfl):Calls Tryz.prog f ⟨et args⟩ W R:=by
 cases e:setArgs 0 args .nil with
 |none=>rw[e] at gH;cases gH
 |some sl=>rw[e] at gH;cases gH;exact TI l4 al e hp iQ oz qj
end
section
variable [cI] {N B:Nat} {w0:au} {X:Type}
end
section
variable [aY] [cI] {N B:Nat} {w0 w:au} {a:Act} {Q:Exit->Act->au->Prop} [l7 Q]
end
abbrev du {s:aY} {o:cI} {N:Nat} {st:b6} {B:Nat} {w0:au} {a:Act} {w:au} (_: @Here s o N st B w0 a w):aY:=s
section
variable {B:Nat} {eC:Mem} {cN:List ca} {M:Mem}
theorem bW.zv {jg:ca} (h:bW B eC cN M [jg]):bW B eC cN M [jg]:=h
theorem bW.FR {jg gA:ca} (h:bW B eC cN M [jg,gA]):bW B eC cN M [jg,gA]:=h
theorem bW.zw {jg gA k_:ca} (h:bW B eC cN M [jg,gA,k_]):bW B eC cN M [jg,gA,k_]:=h
theorem bW.FT {jg gA k_ l9:ca} (h:bW B eC cN M [jg,gA,k_,l9]):bW B eC cN M [jg,gA,k_,l9]:=h
theorem bW.Pq {jg gA k_ l9 n9:ca} (h:bW B eC cN M [jg,gA,k_,l9,n9]):bW B eC cN M [jg,gA,k_,l9,n9]:=h
theorem bW.ahc {jg gA k_ l9 n9 pV pW rJ rK rL:ca} (h:bW B eC cN M [jg,gA,k_,l9,n9,pV,pW,rJ,rK,rL]):bW B eC cN M [jg,gA,k_,l9,n9,pV,pW,rJ,rK,rL]:=h
theorem bW.Wo {jg gA k_ l9 n9 pV pW rJ rK rL u5:ca} (h:bW B eC cN M [jg,gA,k_,l9,n9,pV,pW,rJ,rK,rL,u5]):bW B eC cN M [jg,gA,k_,l9,n9,pV,pW,rJ,rK,rL,u5]:=h
theorem bW.Jy {jg gA k_ l9 n9 pV pW rJ rK rL u5 zx:ca} (h:bW B eC cN M [jg,gA,k_,l9,n9,pV,pW,rJ,rK,rL,u5,zx]):bW B eC cN M [jg,gA,k_,l9,n9,pV,pW,rJ,rK,rL,u5,zx]:=h
theorem bW.Wp {jg gA k_ l9 n9 pV pW rJ rK rL u5 zx FU:ca} (h:bW B eC cN M [jg,gA,k_,l9,n9,pV,pW,rJ,rK,rL,u5,zx,FU]):bW B eC cN M [jg,gA,k_,l9,n9,pV,pW,rJ,rK,rL,u5,zx,FU]:=h
theorem bW.Wq {jg gA k_ l9 n9 pV pW rJ rK rL u5 zx FU Wr:ca} (h:bW B eC cN M [jg,gA,k_,l9,n9,pV,pW,rJ,rK,rL,u5,zx,FU,Wr]):bW B eC cN M [jg,gA,k_,l9,n9,pV,pW,rJ,rK,rL,u5,zx,FU,Wr]:=h
end
section
variable {f:FuncId} {fn:Func} {W:au} {R:Ending->au->Prop}
theorem kH (bh:List U) (c:Code) (a6:b6) (N:Nat) (args:List U) (l4:Tryz.prog.funcs[f]? =some fn) (qj:∀a,@Here (aX (aG W) bh) fc N a6 W.heap.size W a W->c.wpIn (Fr none) 0 Tryz.prog (@qk fc Tryz.prog fn N W.heap.size W R) a W)
  (al:fn.body=some c:=by kernel_rfl) (gH:(match setArgs 0 args .nil with|some sl=>some ({sl,ms:=[],A:=start}:b6)|none=>none)=some a6:=by kernel_rfl) (hp:dW args=true:=by kernel_rfl) (iQ:args.length+(fn.ntmps-args.length)=N:=by kernel_rfl):Calls Tryz.prog f ⟨@et (aX (aG W) bh) args⟩ W R:=
 @aha (aX (aG W) bh) _ _ _ _ c a6 N args (Tu W _) l4 qj al gH hp iQ
theorem tJ (bh:List U) (c:Code) (a6:b6) (N:Nat) (args:List U) (l4:Tryz.prog.funcs[f]? =some fn) (qj:∀a,@Here (aX (aG W) bh) fc N a6 0 W a W->c.wpIn (Fr none) 0 Tryz.prog (@qk fc Tryz.prog fn N 0 W R) a W)
  (al:fn.body=some c:=by kernel_rfl) (gH:(match setArgs 0 args .nil with|some sl=>some ({sl,ms:=[],A:=start}:b6)|none=>none)=some a6:=by kernel_rfl) (hp:dW args=true:=by kernel_rfl) (iQ:args.length+(fn.ntmps-args.length)=N:=by kernel_rfl):Calls Tryz.prog f ⟨@et (aX (aG W) bh) args⟩ W R:=
 @ahb (aX (aG W) bh) _ _ _ _ c a6 N args (Tu W _) l4 qj al gH hp iQ
end
theorem ht {N:Nat} {sl:aT} {d:Option Tmp} (h:aT) (v:U) (p:gy N sl d v=some h:=by kernel_rfl):gy N sl d v=some h:=p
theorem gQ {o:Option bP} (p:gm) (h:Pk o=Pl p:=by kernel_rfl):Pk o=Pl p:=h
theorem rM {α:Type} [Inhabited α] {l:List α} (i:Nat) (h:i<l.length:=by omega):l[i]? =some (l.getD i default):=adw h
abbrev dA:=Option Addr
theorem bT [aY] [cI] {P:aQ} {fn:Func} {N B:Nat} {w0:au} {A:Ending->au->Prop} {o:Option bP} {v:U} (h:gu P fn o=some v) (hx:∀w2,nw w2->A (.returned (aK v)) w2):e0 P N B w0 (qk P fn N B w0 λe w=>A e w/\ch B w0 w) o:=ac4 h λw2 hl af=>⟨hx w2 af,hl⟩
theorem ahd {α:Type} [Inhabited α] {l:List α} {i:Nat} {z:α} (h:l[i]? =some z):l.hs i=z:=getD_some h
theorem ahe [cI] {α:Type} {P:aQ} {N B:Nat} {w0:au} {Q:Exit->Act->au->Prop} {M:Mem} {bh:List U} {o:Option bP} {t e:aH} {k:Nat} {p x u mD:U} {enc:α->List U} {l l':List α} {i:Nat} {y:α} {dM dF:aT} {aU:List bM} {bH:ev} (j:Nat) (bx:List U)
  (fa:l'=l.set i y) (h:nY o=some (t,p,x)) (ag:∀x,(enc x).length=k) (c1:dy (cW o) dM aU=some bH) (eg:gy N dM (iT o) undef=some dF) (cm:dJ B M e k enc u l) (af:i<l.length)
  (rest:∀M',dJ B M' e k enc u l'->g_ M M' (eF u)->∀aS w,@Here (aX M' bx) _ N {sl:=dF,ms:=[],A:=eJ aU} B w0 aS w->wpListIn (Fr none) 0 P (jS o) (dS P (gX o) Q) (jR o) aS w)
  (cb:a7 P (sizeOf t)=some 1:=by kernel_rfl) (hj:j<k:=by decide) (lv: @aK (aX M bh) p=iS u (i*k+j):=by exact rfl) (ex: @aK (aX M bh) x=mD:=by exact rfl) (hu:mD.cells= #[mD]:=by exact rfl) (jL:mD.oneCell'=true:=by exact rfl)
  (hp:aM p=true:=by exact rfl) (ak:aM x=true:=by exact rfl) (bg:∀z,l[i]? =some z->enc y=(enc z).set j mD:=by intro z bG;first|rfl|(rw[getD_some bG];rfl)|(rw[ahd bG];rfl)) (hm:∀M',fm (aX M bh) (aX M' bx) bH:=by exact λ_=>jj)
  (aq:cI.dt<=aU.length:=by first|exact Nat.zero_le _|exact hJ rfl) (al:ic (cW o).A aU 0:=by exact f_ rfl): @e0 (aX M bh) _ P N B w0 Q o:=
 Uh fa h cb ag hj bg c1 eg hp ak lv ex hu jL cm af hm rest aq al
theorem FV [cI] {P:aQ} {N B:Nat} {w0:au} {Q:Exit->Act->au->Prop} {M:Mem} {bh:List U} {o:Option bP} {t ty:aH} {g:Nat} {p x u:U} {cs:List U} {dM dF:aT} {aU:List bM} {bH:ev} (j:Nat) (cs' bx:List U)
  (h:nY o=some (t,p,x)) (c1:dy (cW o) dM aU=some bH) (eg:gy N dM (iT o) undef=some dF) (cm:iJ B M (.pointer (some ⟨g,0,none⟩)) ty cs)
  (rest:∀M',iJ B M' (.pointer (some ⟨g,0,none⟩)) ty cs'->g_ M M' (some g)->∀aS w,@Here (aX M' bx) _ N {sl:=dF,ms:=[],A:=eJ aU} B w0 aS w->wpListIn (Fr none) 0 P (jS o) (dS P (gX o) Q) (jR o) aS w)
  (cb:a7 P (sizeOf t)=some 1:=by kernel_rfl) (lv: @aK (aX M bh) p= .pointer (some ⟨g,j,none⟩):=by exact rfl) (ex: @aK (aX M bh) x=u:=by exact rfl) (fa:cs'=cs.set j u:=by exact rfl) (hu:u.cells= #[u]:=by exact rfl) (jL:u.oneCell'=true:=by exact rfl)
  (hp:aM p=true:=by exact rfl) (ak:aM x=true:=by exact rfl) (hj:j<cs.length:=by exact hJ rfl) (hm:∀M',fm (aX M bh) (aX M' bx) bH:=by exact λ_=>jj)
  (aq:cI.dt<=aU.length:=by first|exact Nat.zero_le _|exact hJ rfl) (al:ic (cW o).A aU 0:=by exact f_ rfl): @e0 (aX M bh) _ P N B w0 Q o:=
 Ua fa h cb c1 eg hp ak lv ex hu jL cm hj hm rest aq al
end AE
end
end
namespace AE
abbrev dU:=Int×Int×Int
abbrev bF:=Int×Int×Int×Int×Int×Int
def xQ (x:dU):List U:=[.int .i64 x.1,.int .i64 x.2.1,.int .i64 x.2.2]
abbrev P.val (x:dU):U:= .agg ⟨xQ x⟩
def u6 (x:bF):List U:=[.int .i64 x.1,.int .i64 x.2.1,.int .i64 x.2.2.1,.int .i64 x.2.2.2.1,.int .i64 x.2.2.2.2.1,.int .i64 x.2.2.2.2.2]
abbrev X.val (x:bF):U:= .agg ⟨u6 x⟩
theorem ahf {a b c aS b' c':Int} (h1:a=aS) (ae:b=b') (ay:c=c'):Ending.returned (.agg ⟨[.int .i64 a,.int .i64 b,.int .i64 c]⟩)=Ending.returned (P.val (aS,b',c')):=by rw[h1,ae,ay];rfl
theorem ahg {a b c aS b' c':Int} {x:Bool} (h1:a=aS) (ae:b=b') (ay:c=c'):Ending.returned (.tuple #[.agg ⟨[.int .i64 a,.int .i64 b,.int .i64 c]⟩,.bool x])=Ending.returned (.tuple #[P.val (aS,b',c'),.bool x]):=by rw[h1,ae,ay];rfl
theorem ahh {v f:Int} {c:Nat} {up:Bool} (aJ:up=true) (h1:c=3) (ae:v=15) (ay:f=1):given v f c up=15:=aN ⟨aJ,h1,ae,ay⟩
theorem Jz {v f:Int} {c:Nat} {up:Bool} (h:¬(up=true/\c=3/\v=15/\f=1)):given v f c up=max 0 (v-f):=aO h
def cO (p:dU) (b:bF):Prop:=b.1<=p.1/\p.1<b.2.2.2.1/\b.2.1<=p.2.1/\p.2.1<b.2.2.2.2.1/\b.2.2.1<=p.2.2/\p.2.2<b.2.2.2.2.2
instance (p:dU) (b:bF):Decidable (cO p b):=by unfold cO;infer_instance
def okB (b:bF):Prop:= -1048575<=b.1/\b.1<=1048575/\ -1048575<=b.2.1/\b.2.1<=1048575/\ -1048575<=b.2.2.1/\b.2.2.1<=1048575/\ -1048575<=b.2.2.2.1/\b.2.2.2.1<=1048575/\ -1048575<=b.2.2.2.2.1/\b.2.2.2.2.1<=1048575/\ -1048575<=b.2.2.2.2.2/\b.2.2.2.2.2<=1048575
instance (b:bF):Decidable (okB b):=by unfold okB;infer_instance
def hG (b:bF):Prop:=b.1<b.2.2.2.1/\b.2.1<b.2.2.2.2.1/\b.2.2.1<b.2.2.2.2.2
instance (b:bF):Decidable (hG b):=by unfold hG;infer_instance
def bu (b:bF):dU:=if hG b then (b.2.2.2.1-b.1,b.2.2.2.2.1-b.2.1,b.2.2.2.2.2-b.2.2.1) else (0,0,0)
def dZ (b:bF):Int:=(bu b).1*(bu b).2.1*(bu b).2.2
def wm (b:bF) (p:dU):Int:=if cO p b then (((p.2.2+((-1)*b.2.2.1))*(bu b).2.1)+(p.2.1+((-1)*b.2.1)))*(bu b).1+(p.1+((-1)*b.1)) else -1
def dV (b:bF) (i:Int):dU:=if 0<=i/\i<dZ b then (b.1+i%(bu b).1,b.2.1+i/(bu b).1%(bu b).2.1,b.2.2.1+i/(bu b).1/(bu b).2.1) else (0,0,0)
theorem JA {a b:Int} {A B:Nat} (h1:0<=a) (ae:a<=A) (ay:0<=b) (bE:b<=B):0<=a*b/\a*b<=((A*B:Nat):Int):=by
 refine⟨Int.mul_nonneg h1 ay,?_⟩;rw[Int.natCast_mul];exact Int.mul_le_mul ae bE ay ao
theorem xR {b:bF} (h:hG b):bu b=(b.2.2.2.1-b.1,b.2.2.2.2.1-b.2.1,b.2.2.2.2.2-b.2.2.1):=aN h
theorem Br {b:bF} (h:¬hG b):bu b=(0,0,0):=aO h
theorem ahi {p:dU} {b:bF} (h:cO p b):hG b:=by
 unfold cO at h;unfold hG;omega
theorem n' {p:dU} {b:bF} (h:cO p b):b.1<=p.1/\p.1<b.2.2.2.1/\b.2.1<=p.2.1/\p.2.1<b.2.2.2.2.1/\b.2.2.1<=p.2.2/\p.2.2<b.2.2.2.2.2:=h
theorem JB {p:dU} {b:bF} (h:cO p b):wm b p=(((p.2.2+((-1)*b.2.2.1))*(bu b).2.1)+(p.2.1+((-1)*b.2.1)))*(bu b).1+(p.1+((-1)*b.1)):=aN h
theorem FW {p:dU} {b:bF} (h:¬cO p b):wm b p= -1:=aO h
theorem xS {b:bF} (ad:okB b):0<=(bu b).1/\(bu b).1<=2097150/\0<=(bu b).2.1/\(bu b).2.1<=2097150/\0<=(bu b).2.2/\(bu b).2.2<=2097150:=by
 unfold okB at ad;unfold bu;split
 ·rename_i h
  unfold hG at h;dsimp only;omega
 ·dsimp only
  omega
theorem Pr {b:bF} (ad:okB b):0<=(bu b).1*(bu b).2.1/\(bu b).1*(bu b).2.1<=4398038122500/\0<=(bu b).1*(bu b).2.1*(bu b).2.2/\(bu b).1*(bu b).2.1*(bu b).2.2<=9223345648600875000:=by
 obtain⟨h1,ae,ay,bE,cn,cy⟩:=xS ad;obtain⟨oV,FX⟩:=JA (A:=2097150) (B:=2097150) h1 ao ay ao;obtain⟨m3,m4⟩:=JA (A:=4398038122500) (B:=2097150) oV ao cn ao;exact⟨oV,ao,m3,ao⟩
theorem pe {p:dU} {b:bF} (ad:okB b) (h:cO p b):0<=((p.2.2+((-1)*b.2.2.1))*(bu b).2.1)/\((p.2.2+((-1)*b.2.2.1))*(bu b).2.1)<=4398038122500/\0<=(((p.2.2+((-1)*b.2.2.1))*(bu b).2.1)+(p.2.1+((-1)*b.2.1)))*(bu b).1/\(((p.2.2+((-1)*b.2.2.1))*(bu b).2.1)+(p.2.1+((-1)*b.2.1)))*(bu b).1<=9223345648600875000:=by
 obtain⟨h1,ae,ay,bE,cn,cy⟩:=xS ad;have aP:=ahi h;unfold okB at ad;unfold cO at h;obtain⟨oV,FX⟩:=JA (a:=p.2.2+((-1)*b.2.2.1)) (b:=(bu b).2.1) (A:=2097149) (B:=2097150) ao ao ay ao;have fx:p.2.1+((-1)*b.2.1)+1<=(bu b).2.1:=by
  rw[xR aP];dsimp only;omega
 obtain⟨m3,m4⟩:=JA (a:=(((p.2.2+((-1)*b.2.2.1))*(bu b).2.1)+(p.2.1+((-1)*b.2.1)))) (b:=(bu b).1) (A:=4398038122500) (B:=2097150) ao ao h1 ao;exact⟨oV,ao,m3,ao⟩
theorem Ws {b:bF} {i:Int} (aJ:0<=i) (h1:¬((bu b).1*(bu b).2.1)*(bu b).2.2<=i):hG b:=by
 by_cases h:hG b
 ·exact h
 ·rw[Br h] at h1
  simp at h1;omega
theorem qH {b:bF} {i:Int} (ad:okB b) (aJ:0<=i) (h1:¬((bu b).1*(bu b).2.1)*(bu b).2.2<=i):
  1<=(bu b).1/\1<=(bu b).2.1/\0<=i/(bu b).1/\i/(bu b).1<=i/\0<=i%(bu b).1/\i%(bu b).1<(bu b).1/\0<=i/(bu b).1%(bu b).2.1/\i/(bu b).1%(bu b).2.1<(bu b).2.1/\0<=i/(bu b).1/(bu b).2.1/\i/(bu b).1/(bu b).2.1<(bu b).2.2/\i<=9223345648600875000:=by
 have aP:=Ws aJ h1;have aC:=Pr ad;have av:=xS ad;have ak:1<=(bu b).1:=by
  rw[xR aP];unfold hG at aP;dsimp only;omega
 have bg:1<=(bu b).2.1:=by
  rw[xR aP];unfold hG at aP;dsimp only;omega
 have ae:0<=i/(bu b).1:=Int.ediv_nonneg aJ ao;refine⟨ak,bg,ae,Int.ediv_le_self _ aJ,Int.emod_nonneg _ ao,Int.emod_lt_of_pos _ ao,Int.emod_nonneg _ ao,Int.emod_lt_of_pos _ ao,Int.ediv_nonneg ae ao,?_,ao⟩;refine Int.ediv_lt_of_lt_mul ao (Int.ediv_lt_of_lt_mul ao ?_);rw[show (bu b).2.2*(bu b).2.1*(bu b).1=(bu b).1*(bu b).2.1*(bu b).2.2 by rw[Int.mul_comm (bu b).2.2,Int.mul_assoc,Int.mul_comm (bu b).2.2,<-Int.mul_assoc,Int.mul_comm (bu b).2.1]];omega
theorem Wt {b:bF} {i:Int} (aJ:0<=i) (h1:¬((bu b).1*(bu b).2.1)*(bu b).2.2<=i):dV b i=(b.1+i%(bu b).1,b.2.1+i/(bu b).1%(bu b).2.1,b.2.2.1+i/(bu b).1/(bu b).2.1):=aN ⟨aJ,by unfold dZ;omega⟩
theorem Ps {b:bF} {i:Int} (h:¬(0<=i/\i<dZ b)):dV b i=(0,0,0):=aO h
end AE
namespace AE
theorem Wu (p q:bA):rk Tryz.prog 10000 sw (L.val p) (L.val q)=some (p.1==q.1&&(p.2.1==q.2.1&&(p.2.2.1==q.2.2.1&&(p.2.2.2==q.2.2.2&&true)))):=aw
theorem Wv (p q:bA):(p.1==q.1&&(p.2.1==q.2.1&&(p.2.2.1==q.2.2.1&&(p.2.2.2==q.2.2.2&&true))))=decide (p=q):=by
 obtain⟨a,b,c,d⟩:=p;obtain⟨aS,b',c',nr⟩:=q;rw[Bool.eq_iff_iff];simp
section
variable [aY]
end
def Df (F:Int) (old x:bA) (e8:Int) (c:Nat):Int:=if 0<bL old c/\0<bL x c/\bL x c=given (bL old c) F c (decide (e8<0)) then bL x c else 0
def zy (F:Int) (old x:bA) (e8:Int):bA:=pJ (Df F old x e8)
def Bs (l:List ax) (n:Nat) (O:bA):List ax:=if O=z4 then l else l++[(n,O)]
def xT (l:List Nat) (n:Nat) (O:bA):List Nat:=if O=z4 then l else l++[n]
def zz (l:List bA) (n:Nat) (O:bA):List bA:=if O=z4 then l else l.set n (uK O (l.getD n default))
theorem ahj {l:List ax} {g:List Nat} {li:List bA} {n:Nat} {O:bA} (h:O=z4):Bs l n O=l/\xT g n O=g/\zz li n O=li:=⟨aN h,aN h,aN h⟩
theorem ahk {l:List ax} {g:List Nat} {li:List bA} {n:Nat} {O:bA} (h:¬O=z4):Bs l n O=l++[(n,O)]/\xT g n O=g++[n]/\zz li n O=li.set n (uK O (li.getD n default)):=⟨aO h,aO h,aO h⟩
theorem ahl {F e8:Int} {old x:bA} {c:Nat} (h1:0<bL old c) (ae:0<bL x c) (ay:bL x c=given (bL old c) F c (decide (e8<0))):Df F old x e8 c=bL x c:=aN ⟨h1,ae,ay⟩
theorem Pt {F e8:Int} {old x:bA} {c:Nat} (h:¬(0<bL old c/\0<bL x c/\bL x c=given (bL old c) F c (decide (e8<0)))):Df F old x e8 c=0:=aO h
def Ww (F:Int) (out x:bA) (e8:Int) (c:Nat):Int:=max (bL out c) (given (bL x c) F c (decide (0<e8)))
def Bt (F:Int) (out x:bA) (e8:Int):bA:=pJ (Ww F out x e8)
end AE
namespace AE
def cc (b:bF) (p:dU):Nat:=(wm b p).toNat
def wo (b:bF) (k j:Nat):List (Nat×Int):=uM (bu b).1.toNat (bu b).2.1.toNat (bu b).2.2.toNat k j
def c7 (b:bF) (sh:List Bool) (k j:Nat):List (Nat×Int):=(wo b k j).filter λp=>sh.getD p.1 default
def eN (b:bF) (k:Nat):Nat->dU
 |0=>((dV b ((k:Nat):Int)).1+(-1),(dV b ((k:Nat):Int)).2.1,(dV b ((k:Nat):Int)).2.2)
 |1=>((dV b ((k:Nat):Int)).1+1,(dV b ((k:Nat):Int)).2.1,(dV b ((k:Nat):Int)).2.2)
 |2=>((dV b ((k:Nat):Int)).1,(dV b ((k:Nat):Int)).2.1+(-1),(dV b ((k:Nat):Int)).2.2)
 |3=>((dV b ((k:Nat):Int)).1,(dV b ((k:Nat):Int)).2.1+1,(dV b ((k:Nat):Int)).2.2)
 |4=>((dV b ((k:Nat):Int)).1,(dV b ((k:Nat):Int)).2.1,(dV b ((k:Nat):Int)).2.2+(-1))
 |_=>((dV b ((k:Nat):Int)).1,(dV b ((k:Nat):Int)).2.1,(dV b ((k:Nat):Int)).2.2+1)
def oF:Nat->Int
 |4=> -1
 |5=>1
 |_=>0
theorem JC {b:bF} {k:Nat} (ag:k<(dZ b).toNat):∃bq bJ aZ:Nat,(bu b)=(((bq:Nat):Int),((bJ:Nat):Int),((aZ:Nat):Int))/\k<bq*bJ*aZ/\b.2.2.2.1=b.1+bq/\b.2.2.2.2.1=b.2.1+bJ/\b.2.2.2.2.2=b.2.2.1+aZ:=by
 by_cases aP:hG b
 ·have av:=xR aP
  unfold hG at aP;refine⟨(b.2.2.2.1-b.1).toNat,(b.2.2.2.2.1-b.2.1).toNat,(b.2.2.2.2.2-b.2.2.1).toNat,?_,?_,ao,ao,ao⟩
  ·rw[av,Int.toNat_of_nonneg ao,Int.toNat_of_nonneg ao,Int.toNat_of_nonneg ao]
  ·unfold dZ at ag
   rw[av] at ag;dsimp only at ag;rw[Int.toNat_mul (Int.mul_nonneg ao ao) ao,Int.toNat_mul ao ao] at ag;exact ag
 ·unfold dZ at ag
  rw[Br aP] at ag;simp at ag
theorem Pu {b:bF} {k:Nat} {sh:List Bool} (ag:k<sh.length) (hl:sh.length=(dZ b).toNat):0<=((k:Nat):Int)/\((k:Nat):Int)<dZ b:=by omega
theorem JD {b:bF} {bq bJ aZ x y z:Nat} (av:bu b=(((bq:Nat):Int),((bJ:Nat):Int),((aZ:Nat):Int))) (h1:b.2.2.2.1=b.1+bq) (ae:b.2.2.2.2.1=b.2.1+bJ) (ay:b.2.2.2.2.2=b.2.2.1+aZ) (ak:x<bq) (bg:y<bJ) (bG:z<aZ):
  cO (b.1+x,b.2.1+y,b.2.2.1+z) b/\cc b (b.1+x,b.2.1+y,b.2.2.1+z)=me bq bJ x y z:=by
 have im:cO (b.1+((x:Nat):Int),b.2.1+((y:Nat):Int),b.2.2.1+((z:Nat):Int)) b:=by
  unfold cO;dsimp only;omega
 refine⟨im,?_⟩;unfold cc;rw[JB im,av];dsimp only;unfold me;rw[show b.2.2.1+((z:Nat):Int)+ -1*b.2.2.1=((z:Nat):Int) by omega,show b.2.1+((y:Nat):Int)+ -1*b.2.1=((y:Nat):Int) by omega,show b.1+((x:Nat):Int)+ -1*b.1=((x:Nat):Int) by omega];rw[show (((z:Nat):Int)*((bJ:Nat):Int)+((y:Nat):Int))*((bq:Nat):Int)+((x:Nat):Int)=(((z*bJ+y)*bq+x:Nat):Int) by simp];exact Int.toNat_natCast _
theorem FY {b:bF} {k:Nat} {sh:List Bool} (ag:k<sh.length) (hl:sh.length=(dZ b).toNat) (q:dU):cc b q<sh.length:=by
 by_cases a1:cO q b
 ·obtain⟨bq,bJ,aZ,av,zA,h1,ae,ay⟩:=JC (b:=b) (k:=k) ao
  have h:=n' a1;obtain⟨x,ak⟩:∃x:Nat,q.1=b.1+x:=⟨(q.1-b.1).toNat,ao⟩;obtain⟨y,bg⟩:∃x:Nat,q.2.1=b.2.1+x:=⟨(q.2.1-b.2.1).toNat,ao⟩;obtain⟨z,bG⟩:∃x:Nat,q.2.2=b.2.2.1+x:=⟨(q.2.2-b.2.2.1).toNat,ao⟩;have Dg:q=(b.1+((x:Nat):Int),b.2.1+((y:Nat):Int),b.2.2.1+((z:Nat):Int)):=by
   obtain⟨q1,aE,b9⟩:=q;dsimp only at ak bg bG;rw[ak,bg,bG]
  have af:=(JD av h1 ae ay (x:=x) (y:=y) (z:=z) ao ao ao).2;rw[Dg,af,hl];have aC:(dZ b).toNat=bq*bJ*aZ:=by
   unfold dZ;rw[av];dsimp only;rw[<-Int.natCast_mul,<-Int.natCast_mul,Int.toNat_natCast]
  rw[aC];exact UZ ao ao ao
 ·unfold cc
  rw[FW a1];show 0<_;omega
theorem Pv {b:bF} {k bq bJ aZ:Nat} (av:bu b=(((bq:Nat):Int),((bJ:Nat):Int),((aZ:Nat):Int))) (ag:k<bq*bJ*aZ):dV b ((k:Nat):Int)=(b.1+((h2 bq k:Nat):Int),b.2.1+((h3 bq bJ k:Nat):Int),b.2.2.1+((hc bq bJ k:Nat):Int)):=by
 unfold dV dZ;rw[av];dsimp only;rw[aN ⟨ao,by rw[<-Int.natCast_mul,<-Int.natCast_mul];omega⟩];rfl
theorem FZ {b:bF} (ad:okB b) (i:Int): -1048575<=(dV b i).1/\(dV b i).1<=1048575/\ -1048575<=(dV b i).2.1/\(dV b i).2.1<=1048575/\ -1048575<=(dV b i).2.2/\(dV b i).2.2<=1048575:=by
 by_cases h:0<=i/\i<dZ b
 ·have aC:¬((bu b).1*(bu b).2.1)*(bu b).2.2<=i:=by
   have:=h.2;unfold dZ at this;omega
  have aP:=Ws h.1 aC;have:=qH ad h.1 aC;rw[Wt h.1 aC,xR aP] at*
  unfold okB at ad;dsimp only at*
  omega
 ·rw[Ps h]
  decide
theorem Pw {b:bF} {k:Nat} {sh:List Bool} (ag:k<sh.length) (hl:sh.length=(dZ b).toNat) {j:Nat} (hj:j<6):
  (cO (eN b k j) b->wo b k (j+1)=wo b k j++[(cc b (eN b k j),oF j)])/\(¬cO (eN b k j) b->wo b k (j+1)=wo b k j):=by
 obtain⟨bq,bJ,aZ,av,zA,h1,ae,ay⟩:=JC (b:=b) (k:=k) ao;obtain⟨ez,c2,c3⟩:=CY zA;have ha:=Pv av zA;have vO:wo b k (j+1)=wo b k j++su bq bJ aZ k j:=by
  unfold wo;rw[av];rfl
 rw[vO];have key:∀(d:Int) (x y z:Nat) (u7:Prop),(u7↔(x<bq/\y<bJ/\z<aZ))->∀q:dU,q=(b.1+((x:Nat):Int),b.2.1+((y:Nat):Int),b.2.2.1+((z:Nat):Int))->∀[Decidable u7],∀l:List (Nat×Int),
   (cO q b->l++(if u7 then [(me bq bJ x y z,d)] else [])=l++[(cc b q,d)])/\(¬cO q b->l++(if u7 then [(me bq bJ x y z,d)] else [])=l):=by
  intro d x y z u7 al q a1 _ l;subst a1;constructor
  ·intro im
   have h:=n' im;dsimp only at h;have ai:x<bq/\y<bJ/\z<aZ:=by omega
   rw[aN (al.2 ai),(JD av h1 ae ay ai.1 ai.2.1 ai.2.2).2]
  ·intro im
   rw[aO (λh=>im (JD av h1 ae ay (al.1 h).1 (al.1 h).2.1 (al.1 h).2.2).1),List.append_nil]
 have out:∀q:dU,¬cO q b->∀(u7:Prop) [Decidable u7] (n:Nat) (d:Int),¬u7->∀l:List (Nat×Int),(cO q b->l++(if u7 then [(n,d)] else [])=l++[(cc b q,d)])/\(¬cO q b->l++(if u7 then [(n,d)] else [])=l):=by
  intro q a1 u7 _ n d al l;exact⟨λh=>absurd h a1,λ_=>by rw[aO al,List.append_nil]⟩
 have Px:∀q:dU,(q.1<b.1\/q.2.1<b.2.1\/q.2.2<b.2.2.1)->¬cO q b:=λq a1 h=>by
  have:=n' h;omega
 match j,hj with
 |0,_=>
  by_cases aJ:0<h2 bq k
  ·exact key 0 (h2 bq k-1) (h3 bq bJ k) (hc bq bJ k) (0<h2 bq k) ⟨λ_=>⟨ao,c2,c3⟩,λ_=>aJ⟩ (eN b k 0) (by
    show ((dV b ((k:Nat):Int)).1+(-1),(dV b ((k:Nat):Int)).2.1,(dV b ((k:Nat):Int)).2.2)=_;rw[ha];dsimp only
    rw[show b.1+((h2 bq k:Nat):Int)+ -1=b.1+((h2 bq k-1:Nat):Int) by omega]) _
  ·exact out (eN b k 0) (Px _ (.inl (by
    show (dV b ((k:Nat):Int)).1+(-1)<_;rw[ha];dsimp only
    omega))) (0<h2 bq k) _ 0 aJ _
 |1,_=>
  exact key 0 (h2 bq k+1) (h3 bq bJ k) (hc bq bJ k) (h2 bq k+1<bq) ⟨λh=>⟨h,c2,c3⟩,λh=>h.1⟩ (eN b k 1) (by
    show ((dV b ((k:Nat):Int)).1+1,(dV b ((k:Nat):Int)).2.1,(dV b ((k:Nat):Int)).2.2)=_;rw[ha];dsimp only
    rw[show b.1+((h2 bq k:Nat):Int)+1=b.1+((h2 bq k+1:Nat):Int) by omega]) _
 |2,_=>
  by_cases aJ:0<h3 bq bJ k
  ·exact key 0 (h2 bq k) (h3 bq bJ k-1) (hc bq bJ k) (0<h3 bq bJ k) ⟨λ_=>⟨ez,ao,c3⟩,λ_=>aJ⟩ (eN b k 2) (by
    show ((dV b ((k:Nat):Int)).1,(dV b ((k:Nat):Int)).2.1+(-1),(dV b ((k:Nat):Int)).2.2)=_;rw[ha];dsimp only
    rw[show b.2.1+((h3 bq bJ k:Nat):Int)+ -1=b.2.1+((h3 bq bJ k-1:Nat):Int) by omega]) _
  ·exact out (eN b k 2) (Px _ (.inr (.inl (by
    show (dV b ((k:Nat):Int)).2.1+(-1)<_;rw[ha];dsimp only
    omega)))) (0<h3 bq bJ k) _ 0 aJ _
 |3,_=>
  exact key 0 (h2 bq k) (h3 bq bJ k+1) (hc bq bJ k) (h3 bq bJ k+1<bJ) ⟨λh=>⟨ez,h,c3⟩,λh=>h.2.1⟩ (eN b k 3) (by
    show ((dV b ((k:Nat):Int)).1,(dV b ((k:Nat):Int)).2.1+1,(dV b ((k:Nat):Int)).2.2)=_;rw[ha];dsimp only
    rw[show b.2.1+((h3 bq bJ k:Nat):Int)+1=b.2.1+((h3 bq bJ k+1:Nat):Int) by omega]) _
 |4,_=>
  by_cases aJ:0<hc bq bJ k
  ·exact key (-1) (h2 bq k) (h3 bq bJ k) (hc bq bJ k-1) (0<hc bq bJ k) ⟨λ_=>⟨ez,c2,ao⟩,λ_=>aJ⟩ (eN b k 4) (by
    show ((dV b ((k:Nat):Int)).1,(dV b ((k:Nat):Int)).2.1,(dV b ((k:Nat):Int)).2.2+(-1))=_;rw[ha];dsimp only
    rw[show b.2.2.1+((hc bq bJ k:Nat):Int)+ -1=b.2.2.1+((hc bq bJ k-1:Nat):Int) by omega]) _
  ·exact out (eN b k 4) (Px _ (.inr (.inr (by
    show (dV b ((k:Nat):Int)).2.2+(-1)<_;rw[ha];dsimp only
    omega)))) (0<hc bq bJ k) _ (-1) aJ _
 |5,_=>
  exact key 1 (h2 bq k) (h3 bq bJ k) (hc bq bJ k+1) (hc bq bJ k+1<aZ) ⟨λh=>⟨ez,c2,h⟩,λh=>h.2.2⟩ (eN b k 5) (by
    show ((dV b ((k:Nat):Int)).1,(dV b ((k:Nat):Int)).2.1,(dV b ((k:Nat):Int)).2.2+1)=_;rw[ha];dsimp only
    rw[show b.2.2.1+((hc bq bJ k:Nat):Int)+1=b.2.2.1+((hc bq bJ k+1:Nat):Int) by omega]) _
theorem Py {b:bF} {k:Nat} {sh:List Bool} (ag:k<sh.length) (hl:sh.length=(dZ b).toNat) {j:Nat} (hj:j<6) (h:cO (eN b k j) b) (av:sh.getD (cc b (eN b k j)) default=true):c7 b sh k (j+1)=c7 b sh k j++[(cc b (eN b k j),oF j)]:=by
 unfold c7;rw[(Pw ag hl hj).1 h,List.filter_append,List.filter_cons_of_pos (by exact av),List.filter_nil]
theorem Pz {b:bF} {k:Nat} {sh:List Bool} (ag:k<sh.length) (hl:sh.length=(dZ b).toNat) {j:Nat} (hj:j<6) (h:cO (eN b k j) b) (av:¬sh.getD (cc b (eN b k j)) default=true):c7 b sh k (j+1)=c7 b sh k j:=by
 unfold c7;rw[(Pw ag hl hj).1 h,List.filter_append,List.filter_cons_of_neg (by exact av),List.filter_nil,List.append_nil]
theorem PA {b:bF} {k:Nat} {sh:List Bool} (ag:k<sh.length) (hl:sh.length=(dZ b).toNat) {j:Nat} (hj:j<6) (h:¬cO (eN b k j) b):c7 b sh k (j+1)=c7 b sh k j:=by
 unfold c7;rw[(Pw ag hl hj).2 h]
def rN (l:List (Nat×Int)) (s:List Nat×List Bool):List Nat×List Bool:=l.foldl (λs p=>(lU s.1 s.2 p.1,mF s.2 p.1)) s
def n_ (table:List cr) (lit:List Int) (old:bA) (s:List ax×List Nat×List bA) (p:Nat×Int):List ax×List Nat×List bA:=
 (Bs s.1 p.1 (zy (dz table (lit.getD p.1 default)).2.2.2.2.1 old (s.2.2.getD p.1 default) p.2),xT s.2.1 p.1 (zy (dz table (lit.getD p.1 default)).2.2.2.2.1 old (s.2.2.getD p.1 default) p.2),zz s.2.2 p.1 (zy (dz table (lit.getD p.1 default)).2.2.2.2.1 old (s.2.2.getD p.1 default) p.2))
def lD (table:List cr) (lit:List Int) (old:bA) (l:List (Nat×Int)) (s:List ax×List Nat×List bA):List ax×List Nat×List bA:=l.foldl (n_ table lit old) s
theorem Wx (a:List ax) (n:Nat) (O:bA):(Bs a n O).length<=a.length+1:=by
 unfold Bs;split<;>simp
theorem ahm (a:List Nat) (n:Nat) (O:bA):(xT a n O).length<=a.length+1:=by
 unfold xT;split<;>simp
theorem ahn (a:List bA) (n:Nat) (O:bA):(zz a n O).length=a.length:=by
 unfold zz;split<;>simp
def rO (F:Int) (ar:List bA) (l:List (Nat×Int)) (out:bA):bA:=l.foldl (λo p=>Bt F o (ar.getD p.1 default) p.2) out
end AE
namespace AE
def dj (m:cr):Nat->Int
 |0=>m.2.2.2.2.2.1
 |1=>m.2.2.2.2.2.2.1
 |_=>m.2.2.2.2.2.2.2
def Dh (m:cr) (top:Prop) [Decidable top]:bA:=(dj m 0,dj m 1,dj m 2,if top then given 15 m.2.2.2.2.1 3 true else 0)
def sJ (b:bF) (k:Nat):Prop:=(dV b ((k:Nat):Int)).2.2=b.2.2.2.2.2-1
instance (b:bF) (k:Nat):Decidable (sJ b k):=by unfold sJ;infer_instance
def sK (table:List cr) (lit:List Int) (ar:List bA) (bS:List Bool) (b:bF) (k:Nat):bA:=
 if bS.getD k default=true then rO (dz table (lit.getD k default)).2.2.2.2.1 ar (c7 b bS k 6) (Dh (dz table (lit.getD k default)) (sJ b k)) else z4
theorem aho {table:List cr} {lit:List Int} {ar:List bA} {bS:List Bool} {b:bF} {k:Nat} (h:¬bS.getD k default=true):sK table lit ar bS b k=z4:=aO h
theorem ahp {table:List cr} {lit:List Int} {ar:List bA} {bS:List Bool} {b:bF} {k:Nat} (h:bS.getD k default=true) (aI:sJ b k):sK table lit ar bS b k=rO (dz table (lit.getD k default)).2.2.2.2.1 ar (c7 b bS k 6) (dj (dz table (lit.getD k default)) 0,dj (dz table (lit.getD k default)) 1,dj (dz table (lit.getD k default)) 2,given 15 (dz table (lit.getD k default)).2.2.2.2.1 3 true):=by
 unfold sK Dh;rw[aN h,aN aI]
theorem ahq {table:List cr} {lit:List Int} {ar:List bA} {bS:List Bool} {b:bF} {k:Nat} (h:bS.getD k default=true) (aI:¬sJ b k):sK table lit ar bS b k=rO (dz table (lit.getD k default)).2.2.2.2.1 ar (c7 b bS k 6) (dj (dz table (lit.getD k default)) 0,dj (dz table (lit.getD k default)) 1,dj (dz table (lit.getD k default)) 2,0):=by
 unfold sK Dh;rw[aN h,aO aI]
end AE
namespace AE
structure h6 where
 ar:List bA
 bz:List ax
 gone:List Nat
 bm:List Nat
 waits:List Bool
 reqs:List ix
 lit:List Int
 bS:List Bool
def mm (l:List Nat) (s:List Nat×List Bool):List Nat×List Bool:=l.foldl (λs k=>(lU s.1 s.2 k,mF s.2 k)) s
def kI (i:Nat) (now old:bA):bA:=pJ λc=>if c<i then max (bL now c) (bL old c) else bL old c
def u9 (i:Nat) (now old:bA):Bool:=(decide (0<i)&&decide (bL old 0<bL now 0))||(decide (1<i)&&decide (bL old 1<bL now 1))||(decide (2<i)&&decide (bL old 2<bL now 2))||(decide (3<i)&&decide (bL old 3<bL now 3))
variable (table:List cr) (b:bF)
def wq (u:h6) (x:ax) (r:List ax):List ax×List Nat×List bA:=lD table u.lit x.2 (c7 b u.bS x.1 6) (r,u.gone,u.ar)
def xU (u:h6) (x:ax) (r:List ax):h6:=
 if (wq table b u x r).1.length=0 then
  {u with bz:=(wq table b u x r).1,gone:=[],ar:=(wq table b u x r).2.2,bm:=(mm (wq table b u x r).2.1 (u.bm,u.waits)).1,waits:=(mm (wq table b u x r).2.1 (u.bm,u.waits)).2}
 else {u with bz:=(wq table b u x r).1,gone:=(wq table b u x r).2.1,ar:=(wq table b u x r).2.2}
def F0 (u:h6) (k:Nat):bA:=sK table u.lit u.ar u.bS b k
def xV (u:h6) (k:Nat) (r:List Nat):h6:=
 if u9 4 (F0 table b u k) (u.ar.getD k default)=true then
  {u with ar:=u.ar.set k (kI 4 (F0 table b u k) (u.ar.getD k default)),bm:=(rN (c7 b u.bS k 6) (r,u.waits.set k false)).1,waits:=(rN (c7 b u.bS k 6) (r,u.waits.set k false)).2}
 else {u with ar:=u.ar.set k (kI 4 (F0 table b u k) (u.ar.getD k default)),bm:=r,waits:=u.waits.set k false}
def JE (u:h6) (x:ix) (r:List ix):h6:=
 {u with bz:=u.bz++[(x.1,u.ar.getD x.1 default)],gone:=u.gone++[x.1],ar:=u.ar.set x.1 (uK (u.ar.getD x.1 default) (u.ar.getD x.1 default)),lit:=u.lit.set x.1 x.2.1,bS:=u.bS.set x.1 x.2.2,reqs:=r}
def gb (u:h6):Bool×h6:=
 if 0<u.bz.length then (true,xU table b u (u.bz.getD 0 default) (u.bz.drop 1))
 else if 0<u.bm.length then (true,xV table b u (u.bm.getD 0 default) (u.bm.drop 1))
 else if 0<u.reqs.length then (true,JE u (u.reqs.getD 0 default) (u.reqs.drop 1))
 else (false,u)
variable {table b}
theorem F1 {u:h6} (h:0<u.bz.length):gb table b u=(true,xU table b u (u.bz.getD 0 default) (u.bz.drop 1)):=aN h
theorem F2 {u:h6} (h:¬0<u.bz.length) (ae:0<u.bm.length):gb table b u=(true,xV table b u (u.bm.getD 0 default) (u.bm.drop 1)):=(aO h).trans (aN ae)
theorem F3 {u:h6} (h:¬0<u.bz.length) (ae:¬0<u.bm.length) (ay:0<u.reqs.length):gb table b u=(true,JE u (u.reqs.getD 0 default) (u.reqs.drop 1)):=(aO h).trans ((aO ae).trans (aN ay))
theorem F4 {u:h6} (h:¬0<u.bz.length) (ae:¬0<u.bm.length) (ay:¬0<u.reqs.length):gb table b u=(false,u):=(aO h).trans ((aO ae).trans (aO ay))
end AE
namespace AE
section
variable {N O:bA} {l jl:List bA} {k:Nat}
theorem ahr:kI 0 N O=O:=bA.ext' λc al=>by
 unfold kI;rw[h0 al,aO (Nat.not_lt_zero c)]
end
section
variable {g Bu:List Nat} {w JF:List Bool} {l:List Nat} {j:Nat}
theorem ahs (s:List Nat×List Bool) (k:Nat):mm (l++[k]) s=(lU (mm l s).1 (mm l s).2 k,mF (mm l s).2 k):=by
 unfold mm;rw[List.foldl_append];rfl
theorem aht {s:List Nat×List Bool} (az:Bu=(mm (l.take j) s).1) (hw:JF=(mm (l.take j) s).2) (hj:j<l.length):lU Bu JF (l.getD j default)=(mm (l.take (j+1)) s).1/\mF JF (l.getD j default)=(mm (l.take (j+1)) s).2:=by
 have:l.take (j+1)=l.take j++[l.getD j default]:=by
  rw[List.take_add_one,dr,fP hj];rfl
 rw[this,ahs,<-az,<-hw];exact⟨rfl,rfl⟩
end
theorem ahu {b:bF} {sh:List Bool} {k j:Nat} {p:Nat×Int} (h:p∈c7 b sh k j):p.1<sh.length:=by
 unfold c7 at h;have ae:=(List.mem_filter.1 h).2;rcases Nat.lt_or_ge p.1 sh.length with ay|ay
 ·exact ay
 ·rw[dr,List.getElem?_eq_none ay] at ae
  cases ae
theorem ahv (b:bF) (sh:List Bool) (k j:Nat):(c7 b sh k j).length<=j:=by
 unfold c7 wo;exact Nat.le_trans (List.length_filter_le _ _) (NP _ _ _ _ _)
theorem Wy {N:Nat} {table:List cr} {lit:List Int} {old:bA}:∀(l:List (Nat×Int)) (s:List ax×List Nat×List bA),(∀p∈l,p.1<N)->(∀k∈s.2.1,k<N)->
  (∀k∈(lD table lit old l s).2.1,k<N)/\(lD table lit old l s).2.1.length<=s.2.1.length+l.length/\(lD table lit old l s).2.2.length=s.2.2.length/\(lD table lit old l s).1.length<=s.1.length+l.length
 |[],s,_,h=>⟨h,bY _,rfl,bY _⟩
 |p::l,s,h1,h=>by
  have ad:∀k∈(n_ table lit old s p).2.1,k<N:=by
   intro k ag;unfold n_ xT at ag;simp only at ag;split at ag
   ·exact h k ag
   ·rcases List.mem_append.1 ag with ag|ag
    ·exact h k ag
    ·rw[List.mem_singleton.1 ag];exact h1 p (by simp)
  obtain⟨q1,aE,b9,ey⟩:=Wy l (n_ table lit old s p) (λq a1=>h1 q (by simp [a1])) ad;refine⟨q1,?_,?_,?_⟩
  ·have:(n_ table lit old s p).2.1.length<=s.2.1.length+1:=by
    unfold n_ xT;simp only;split<;>simp
   have e:(lD table lit old (p::l) s)=lD table lit old l (n_ table lit old s p):=rfl;rw[e];simp only [List.length_cons];omega
  ·have:(n_ table lit old s p).2.2.length=s.2.2.length:=by
    unfold n_ zz;simp only;split<;>simp
   exact b9.trans this
  ·have:(n_ table lit old s p).1.length<=s.1.length+1:=Wx _ _ _
   have e:(lD table lit old (p::l) s)=lD table lit old l (n_ table lit old s p):=rfl;rw[e];simp only [List.length_cons];omega
theorem ahw {b:bF} {sh:List Bool} {k:Nat} {table:List cr} {lit:List Int} {old:bA} {s:List ax×List Nat×List bA} (h:∀k∈s.2.1,k<sh.length):
  (∀j,j<(lD table lit old (c7 b sh k 6) s).2.1.length->((lD table lit old (c7 b sh k 6) s).2.1.getD j default)<sh.length)/\(lD table lit old (c7 b sh k 6) s).2.1.length<=s.2.1.length+6:=by
 obtain⟨q1,aE,_⟩:=Wy (N:=sh.length) (table:=table) (lit:=lit) (old:=old) (c7 b sh k 6) s (λp hp=>ahu hp) h;have:=ahv b sh k 6;refine⟨λj hj=> ?_,ao⟩;rw[dr,fP hj];exact q1 _ (List.getElem_mem hj)
section
variable {table:List cr} {b:bF} {ar jY:List bA} {bz cX d:List ax} {gone jK:List Nat} {bm Bu:List Nat} {waits JF:List Bool} {reqs:List ix} {lit:List Int} {bS:List Bool}
end
end AE
namespace AE
def fQ (b:bF):nB:=afd (bu b).1.toNat (bu b).2.1.toNat (bu b).2.2.toNat
def hQ (table:List cr) (lit:List Int) (bS:List Bool):gC:=
 ⟨λk=>(dz table (lit.getD k default)).2.2.2.2.1,λk c=>dj (dz table (lit.getD k default)) c,λk=>bS.getD k default⟩
def gK (u:h6):fw:=⟨u.ar,u.bz,u.gone,u.bm,u.waits⟩
theorem PB {b:bF} (ad:okB b):(fQ b).N=(dZ b).toNat:=by
 obtain⟨h1,_,ae,_,ay,_⟩:=xS ad;show (bu b).1.toNat*(bu b).2.1.toNat*(bu b).2.2.toNat=_;unfold dZ;have e:(bu b).1*(bu b).2.1*(bu b).2.2=(((bu b).1.toNat*(bu b).2.1.toNat*(bu b).2.2.toNat:Nat):Int):=by
  rw[Int.natCast_mul,Int.natCast_mul,Int.toNat_of_nonneg h1,Int.toNat_of_nonneg ae,Int.toNat_of_nonneg ay]
 rw[e,Int.toNat_natCast]
variable {table:List cr} {b:bF}
theorem ahx {k:Nat} (ad:okB b) (ag:k<(fQ b).N):sJ b k↔(fQ b).top k=true:=by
 obtain⟨h1,_,ae,_,ay,_⟩:=xS ad;have av:bu b=((((bu b).1.toNat:Nat):Int),(((bu b).2.1.toNat:Nat):Int),(((bu b).2.2.toNat:Nat):Int)):=by
  rw[Int.toNat_of_nonneg h1,Int.toNat_of_nonneg ae,Int.toNat_of_nonneg ay]
 have iQ:k<(bu b).1.toNat*(bu b).2.1.toNat*(bu b).2.2.toNat:=ag;have aP:hG b:=by
  by_cases aP:hG b
  ·exact aP
  ·rw[Br aP] at iQ
   simp at iQ
 unfold sJ;rw[Pv av iQ];show b.2.2.1+((hc (bu b).1.toNat (bu b).2.1.toNat k:Nat):Int)=b.2.2.2.2.2-1↔decide (hc (bu b).1.toNat (bu b).2.1.toNat k+1=(bu b).2.2.toNat)=true;have bE:(bu b).2.2=b.2.2.2.2.2-b.2.2.1:=by rw[xR aP]
 rw[decide_eq_true_eq];omega
theorem PC {F:Int} {ar:List bA} {c:Nat} (al:c<4):∀(l:List (Nat×Int)) (out:bA),bL (rO F ar l out) c=l.foldl (λa p=>max a (given (cU ar p.1 c) F c (decide (0<p.2)))) (bL out c)
 |[],out=>rfl
 |p::l,out=>by
  show bL (rO F ar l (Bt F out (ar.getD p.1 default) p.2)) c=_;rw[PC al l,List.foldl_cons];congr 1;unfold Bt;rw[h0 al];rfl
theorem Wz {lit:List Int} {ar:List bA} {sh:List Bool} {k c:Nat} (ad:okB b) (ag:k<(fQ b).N) (al:c<4):bL (sK table lit ar sh b k) c=rule (fQ b) (hQ table lit sh) (cU ar) k c:=by
 unfold sK rule;show bL (if sh.getD k default=true then _ else _) c=if sh.getD k default=true then _ else _
 split
 ·rw[PC al]
  congr 1;unfold Dh tB;have aI:=ahx ad ag
  match c,al with
  |0,_=>rfl
  |1,_=>rfl
  |2,_=>rfl
  |3,_=>
   show (if sJ b k then _ else _)=if (3:Nat)=3 then (if (fQ b).top k=true then _ else _) else _
   rw[aN rfl];by_cases h:sJ b k
   ·rw[aN h,aN (aI.1 h)];rfl
   ·rw[aO h,aO (λe=>h (aI.2 e))]
 ·exact CS c
theorem ahy {lit:List Int} {sh:List Bool} {k:Nat} (ad:okB b) (ag:k<(fQ b).N) (w:fw):sK table lit w.ar sh b k=oI (fQ b) (hQ table lit sh) w k:=bA.ext' λc al=>by
 rw[Wz ad ag al];unfold oI;rw[h0 al]
theorem ahz (x y:bA):kI 4 x y=sr x y:=by
 unfold kI sr pJ;simp
theorem ahA (x y:bA):u9 4 x y=zf x y:=by
 unfold u9 zf;simp
theorem ahB {lit:List Int} {sh:List Bool} {old:bA} {p:Nat×Int} {w:fw}:n_ table lit old (w.bz,w.gone,w.ar) p=((gD (hQ table lit sh) old w p).bz,(gD (hQ table lit sh) old w p).gone,(gD (hQ table lit sh) old w p).ar)/\(gD (hQ table lit sh) old w p).bm=w.bm/\(gD (hQ table lit sh) old w p).waits=w.waits:=by
 have e:zy (dz table (lit.getD p.1 default)).2.2.2.2.1 old (w.ar.getD p.1 default) p.2=oH (hQ table lit sh) old (w.ar.getD p.1 z4) p:=rfl;unfold n_ gD Bs xT zz;rw[e];split
 ·exact⟨rfl,rfl,rfl⟩
 ·exact⟨rfl,rfl,rfl⟩
theorem WA {lit:List Int} {sh:List Bool} {old:bA}:∀(l:List (Nat×Int)) (w:fw),lD table lit old l (w.bz,w.gone,w.ar)=((l.foldl (gD (hQ table lit sh) old) w).bz,(l.foldl (gD (hQ table lit sh) old) w).gone,(l.foldl (gD (hQ table lit sh) old) w).ar)/\(l.foldl (gD (hQ table lit sh) old) w).bm=w.bm/\(l.foldl (gD (hQ table lit sh) old) w).waits=w.waits
 |[],w=>⟨rfl,rfl,rfl⟩
 |p::l,w=>by
  obtain⟨h1,ae,ay⟩:=ahB (table:=table) (lit:=lit) (sh:=sh) (old:=old) (p:=p) (w:=w);obtain⟨g1,g2,g3⟩:=WA (sh:=sh) l (gD (hQ table lit sh) old w p);refine⟨?_,g2.trans ae,g3.trans ay⟩;show lD table lit old l (n_ table lit old (w.bz,w.gone,w.ar) p)=_;rw[h1,g1];rfl
theorem ahC (w:fw) (k:Nat):iw w k={w with bm:=lU w.bm w.waits k,waits:=mF w.waits k}:=by
 unfold iw lU mF;show (if w.waits.getD k default=true then _ else _)=_;split<;>rfl
theorem JG {α:Type} (f:α->Nat):∀(l:List α) (w:fw),l.foldl (λw p=>iw w (f p)) w={w with bm:=(l.foldl (λs p=>(lU s.1 s.2 (f p),mF s.2 (f p))) (w.bm,w.waits)).1,waits:=(l.foldl (λs p=>(lU s.1 s.2 (f p),mF s.2 (f p))) (w.bm,w.waits)).2}
 |[],w=>rfl
 |p::l,w=>by
  rw[List.foldl_cons,JG f l,ahC];rfl
theorem F5 {α:Type} {l:List α} {d:α} (h:l≠[]):l=l.getD 0 d::l.drop 1:=by
 cases l with
 |nil=>exact absurd rfl h
 |cons x r=>rfl
theorem ahD {u:h6} (h:u.bz≠[]):rz (fQ b) (hQ table u.lit u.bS) (gK u)=some (gK (xU table b u (u.bz.getD 0 default) (u.bz.drop 1))):=by
 unfold rz;have e:(gK u).bz=u.bz.getD 0 default::u.bz.drop 1:=F5 h;rw[e];obtain⟨h1,ae,ay⟩:=WA (table:=table) (lit:=u.lit) (sh:=u.bS) (old:=(u.bz.getD 0 default).2) (c7 b u.bS (u.bz.getD 0 default).1 6) {gK u with bz:=u.bz.drop 1};show some (Fc (hb (fQ b) (hQ table u.lit u.bS) (gK u) (u.bz.getD 0 default) (u.bz.drop 1)))=_;refine congrArg some ?_;have hl:wq table b u (u.bz.getD 0 default) (u.bz.drop 1)=((hb (fQ b) (hQ table u.lit u.bS) (gK u) (u.bz.getD 0 default) (u.bz.drop 1)).bz,(hb (fQ b) (hQ table u.lit u.bS) (gK u) (u.bz.getD 0 default) (u.bz.drop 1)).gone,(hb (fQ b) (hQ table u.lit u.bS) (gK u) (u.bz.getD 0 default) (u.bz.drop 1)).ar):=h1
 change (hb (fQ b) (hQ table u.lit u.bS) (gK u) (u.bz.getD 0 default) (u.bz.drop 1)).bm=u.bm at ae
 change (hb (fQ b) (hQ table u.lit u.bS) (gK u) (u.bz.getD 0 default) (u.bz.drop 1)).waits=u.waits at ay
 unfold xU Fc;rw[hl];generalize hb (fQ b) (hQ table u.lit u.bS) (gK u) (u.bz.getD 0 default) (u.bz.drop 1)=X at ae ay ⊢;by_cases bG:X.bz=[]
 ·rw[aN bG,aN (by show X.bz.length=0;rw[bG];rfl)]
  have:=JG (λk:Nat=>k) X.gone X
  change X.gone.foldl iw X=_ at this
  rw[this,ae,ay];rfl
 ·rw[aO bG,aO (by show ¬X.bz.length=0;intro e;exact bG (List.length_eq_zero_iff.1 e))]
  show _=(⟨X.ar,X.bz,X.gone,u.bm,u.waits⟩:fw);rw[<-ae,<-ay]
theorem ahE {u:h6} (ad:okB b) (h:u.bz=[]) (ae:u.bm≠[]) (ag:u.bm.getD 0 default<(fQ b).N):rz (fQ b) (hQ table u.lit u.bS) (gK u)=some (gK (xV table b u (u.bm.getD 0 default) (u.bm.drop 1))):=by
 unfold rz;rw[show (gK u).bz=[] from h,show (gK u).bm=u.bm.getD 0 default::u.bm.drop 1 from F5 ae];show some (Fe (fQ b) (hQ table u.lit u.bS) (gK u) (u.bm.getD 0 default) (u.bm.drop 1))=_;refine congrArg some ?_;have aq:F0 table b u (u.bm.getD 0 default)=oI (fQ b) (hQ table u.lit u.bS) (gK u) (u.bm.getD 0 default):=ahy ad ag (gK u);unfold xV Fe;rw[aq,ahz,ahA];show (if zf _ (u.ar.getD (u.bm.getD 0 default) default)=true then _ else _)=gK (if zf _ (u.ar.getD (u.bm.getD 0 default) default)=true then _ else _);split
 ·have:=JG (λp:Nat×Int=>p.1) (kT (fQ b) (hQ table u.lit u.bS) (u.bm.getD 0 default)) {gK u with bm:=u.bm.drop 1,waits:=u.waits.set (u.bm.getD 0 default) false,ar:=u.ar.set (u.bm.getD 0 default) (sr (oI (fQ b) (hQ table u.lit u.bS) (gK u) (u.bm.getD 0 default)) (u.ar.getD (u.bm.getD 0 default) z4))}
  exact this
 ·rfl
theorem WB {u:h6} (h:u.bz=[]) (ae:u.bm=[]):rz (fQ b) (hQ table u.lit u.bS) (gK u)=none:=by
 unfold rz;rw[show (gK u).bz=[] from h,show (gK u).bm=[] from ae]
end AE
namespace AE
def PD (table:List cr):Prop:=∀c:Int,1<=(dz table c).2.2.2.2.1/\(dz table c).2.2.2.2.1<=16/\∀i,i<3->0<=dj (dz table c) i/\dj (dz table c) i<=15
def Bv (l:List ax):Prop:=∀x∈l,∀c,c<4->0<=bL x.2 c/\bL x.2 c<=15
def JH (l:List bA):Prop:=∀k c,k<l.length->c<4->0<=cU l k c/\cU l k c<=15
structure zB (w:fw):Prop where
 eY:Bv w.bz
 F6:w.gone.length+lb n1 w.ar<=4*w.ar.length+1
theorem ahF {S:gC} {old:bA} {w:fw} {p:Nat×Int} (hp:p.1<w.ar.length) (ad:JH w.ar) (hl:Bv w.bz):
  Bv (gD S old w p).bz/\JH (gD S old w p).ar/\(gD S old w p).ar.length=w.ar.length/\(gD S old w p).gone.length+w.bz.length=(gD S old w p).bz.length+w.gone.length:=by
 unfold gD;split
 ·exact⟨hl,ad,rfl,Nat.add_comm _ _⟩
 ·refine⟨?_,?_,by simp [iN],by simp [iN];omega⟩
  ·intro x ak c al
   rcases List.mem_append.1 ak with ak|ak
   ·exact hl x ak c al
   ·rw[List.mem_singleton.1 ak]
    show 0<=bL (oH S old (w.ar.getD p.1 z4) p) c/\_;have:=ad p.1 c hp al;unfold cU at this;unfold oH;rw[h0 al];split
    ·exact this
    ·omega
  ·intro k c ag al
   have nn:k<w.ar.length:=by simpa [iN] using ag
   rw[NG hp al];split
   ·omega
   ·exact ad k c nn al
theorem WC {S:gC} {old:bA}:∀(l:List (Nat×Int)) (w:fw),(∀p∈l,p.1<w.ar.length)->JH w.ar->Bv w.bz->
  Bv (l.foldl (gD S old) w).bz/\(l.foldl (gD S old) w).gone.length+w.bz.length=(l.foldl (gD S old) w).bz.length+w.gone.length
 |[],w,_,_,hl=>⟨hl,Nat.add_comm _ _⟩
 |p::l,w,hp,ad,hl=>by
  obtain⟨q1,aE,b9,ey⟩:=ahF (S:=S) (old:=old) (hp p (by simp)) ad hl;obtain⟨cS,dL⟩:=WC (S:=S) (old:=old) l (gD S old w p) (λq a1=>by rw[b9];exact hp q (by simp [a1])) aE q1;exact⟨cS,by rw[List.foldl_cons];omega⟩
variable {G:nB}
theorem WD {α:Type} (f:α->Nat) (l:List α) (w:fw):(l.foldl (λw p=>iw w (f p)) w).ar=w.ar/\(l.foldl (λw p=>iw w (f p)) w).bz=w.bz/\(l.foldl (λw p=>iw w (f p)) w).gone=w.gone:=by
 rw[JG];exact⟨rfl,rfl,rfl⟩
theorem zB.unit {S:gC} {w w':fw} (h:pL G S w) (f:zB w) (hu:rz G S w=some w'):zB w':=by
 unfold rz at hu;split at hu
 ·rename_i x r ak
  cases hu;have cC:w.bz≠[]:=by rw[ak];simp
  obtain⟨az,iW,cN,d',cur,zd,a_⟩:=h.down cC;have ry:x.1<G.N:=a_.lost x (by rw[ak];simp);have b8:∀p∈kT G S x.1,p.1<w.ar.length:=λp hp=>by rw[h.len];exact G.ru _ p.1 p.2 ry (uJ.1 hp).1
  obtain⟨hV,iH,_,_⟩:=US (S:=S) (old:=x.2) (kT G S x.1) {w with bz:=r} b8;have ahG:JH w.ar:=λk c ag al=>h.bound k c (by rw[<-h.len];exact ag) al
  obtain⟨cS,dL⟩:=WC (S:=S) (old:=x.2) (kT G S x.1) {w with bz:=r} b8 ahG λy bg=>f.eY y (by rw[ak];simp [bg])
  change (hb G S w x r).bz.length+lb n1 (hb G S w x r).ar<=r.length+lb n1 w.ar at hV
  change (hb G S w x r).ar.length=w.ar.length at iH
  change Bv (hb G S w x r).bz at cS
  change (hb G S w x r).gone.length+r.length=(hb G S w x r).bz.length+w.gone.length at dL
  have aP:=f.F6;unfold Fc;split
  ·rename_i bG
   obtain⟨g1,g2,g3⟩:=WD (λk:Nat=>k) (hb G S w x r).gone (hb G S w x r)
   change ((hb G S w x r).gone.foldl iw (hb G S w x r)).ar=_ at g1
   change ((hb G S w x r).gone.foldl iw (hb G S w x r)).bz=_ at g2
   refine⟨?_,?_⟩
   ·show Bv ((hb G S w x r).gone.foldl iw (hb G S w x r)).bz
    rw[g2];exact cS
   ·show ([]:List Nat).length+lb n1 ((hb G S w x r).gone.foldl iw (hb G S w x r)).ar<=4*((hb G S w x r).gone.foldl iw (hb G S w x r)).ar.length+1
    rw[g1];have:=Ff (hb G S w x r);simp only [List.length_nil];omega
  ·exact⟨cS,ao⟩
 ·rename_i ak
  obtain⟨Ci,_⟩:=h.up ak;split at hu
  ·rename_i k r az
   cases hu;have key:∀w':fw,w'.bz=[]->w'.gone=[]->zB w':=λw' h1 ae=>⟨(by rw[h1];exact λx ak=>absurd ak (by simp)),by
    have:=Ff w';rw[ae,List.length_nil]
    omega⟩
   unfold Fe;simp only;split
   ·obtain⟨_,g2,g3⟩:=WD (λp:Nat×Int=>p.1) (kT G S k) {w with bm:=r,waits:=w.waits.set k false,ar:=w.ar.set k (sr (oI G S w k) (w.ar.getD k z4))}
    exact key _ (g2.trans ak) (g3.trans Ci)
   ·exact key _ ak Ci
  ·cases hu
theorem zB.AK {S:gC} {w:fw} (h:pL G S w) (h1:w.bz=[]) (ae:w.gone=[]) {k:Nat} (ag:k<G.N):zB (iN w k (w.ar.getD k z4)):=by
 refine⟨?_,?_⟩
 ·intro x ak c al
  unfold iN at ak;simp only [h1,List.nil_append,List.mem_singleton] at ak;rw[ak];exact h.bound k c ag al
 ·have:=Ff (iN w k (w.ar.getD k z4))
  have az:(iN w k (w.ar.getD k z4)).gone.length=1:=by
   unfold iN;simp [ae]
  omega
structure fK (table:List cr) (b:bF) (u:h6):Prop where
 sL:PD table
 box:okB b
 len:u.bS.length=(dZ b).toNat
 F7:u.lit.length=u.bS.length
 few:u.bS.length<=10000
 work:pL (fQ b) (hQ table u.lit u.bS) (gK u)
 fit:zB (gK u)
 lS:lS (fQ b).N (gK u)<=pK (fQ b).N
 reqs:∀x∈u.reqs,x.1<u.bS.length
def gR (b:bF) (u:h6):Nat:=lS (fQ b).N (gK u)+pK (fQ b).N*u.reqs.length
variable {table:List cr} {b:bF} {u:h6}
theorem fK.N (h:fK table b u):(fQ b).N=u.bS.length:=(PB h.box).trans h.len.symm
theorem fK.ok (h:fK table b u):(hQ table u.lit u.bS).kE (fQ b).N:=⟨λk _=>(h.sL _).1,λk c _ al=>(h.sL _).2.2 c al⟩
theorem fK.Bw (h:fK table b u):u.ar.length=u.bS.length:=h.work.len.trans h.N
theorem fK.ahH (h:fK table b u):u.waits.length=u.bS.length:=h.work.wait.len.trans h.N
theorem fK.eY (h:fK table b u):∀x∈u.bz,x.1<u.bS.length/\0<=x.2.1/\x.2.1<=15/\0<=x.2.2.1/\x.2.2.1<=15/\0<=x.2.2.2.1/\x.2.2.2.1<=15/\0<=x.2.2.2.2/\x.2.2.2.2<=15:=λx ak=>by
 have cC:(gK u).bz≠[]:=λe=>by
  have:x∈(gK u).bz:=ak;rw[e] at this;cases this
 obtain⟨_,iW,cN,d',cur,_,a_⟩:=h.work.down cC;have q:=h.fit.eY x ak;refine⟨by rw[<-h.N];exact a_.lost x ak,?_⟩;exact⟨(q 0 cv).1,(q 0 cv).2,(q 1 cv).1,(q 1 cv).2,(q 2 cv).1,(q 2 cv).2,(q 3 cv).1,(q 3 cv).2⟩
theorem fK.qI (h:fK table b u):∀k∈u.bm,k<u.bS.length:=λk ag=>by rw[<-h.N];exact h.work.wait.lt k ag
theorem fK.go (h:fK table b u):∀k∈u.gone,k<u.bS.length:=λk ag=>by
 by_cases ak:(gK u).bz=[]
 ·have:=(h.work.up ak).1
  have nn:k∈(gK u).gone:=ag;rw[this] at nn;cases nn
 ·obtain⟨_,iW,cN,d',cur,_,a_⟩:=h.work.down ak
  rw[<-h.N];exact a_.CV k ag
theorem fK.li (h:fK table b u):∀n,n<u.bS.length->0<=(u.ar.getD n default).1/\(u.ar.getD n default).1<=15/\0<=(u.ar.getD n default).2.1/\(u.ar.getD n default).2.1<=15/\0<=(u.ar.getD n default).2.2.1/\(u.ar.getD n default).2.2.1<=15/\0<=(u.ar.getD n default).2.2.2/\(u.ar.getD n default).2.2.2<=15:=λn aq=>by
 have q:=λc (al:c<4)=>h.work.bound n c (by rw[h.N];exact aq) al
 exact⟨(q 0 cv).1,(q 0 cv).2,(q 1 cv).1,(q 1 cv).2,(q 2 cv).1,(q 2 cv).2,(q 3 cv).1,(q 3 cv).2⟩
theorem fK.cu (h:fK table b u):∀n,n<u.bS.length->1<=(dz table (u.lit.getD n default)).2.2.2.2.1/\(dz table (u.lit.getD n default)).2.2.2.2.1<=16:=λn _=>⟨(h.sL _).1,(h.sL _).2.1⟩
theorem fK.ez (h:fK table b u):u.bz.length<=50000:=by
 have hp:=h.lS;unfold AE.lS at hp;have iQ:=h.N;have aP:=h.few;by_cases ak:(gK u).bz=[]
 ·have:u.bz=[]:=ak
  rw[this];exact Nat.zero_le _
 ·rw[aO ak] at hp
  unfold pK at hp;have:(gK u).bz.length=u.bz.length:=rfl;omega
theorem fK.c2 (h:fK table b u):u.gone.length<=50000:=by
 have h1:=h.fit.F6;have ae:=h.Bw;have aP:=h.few;have e1:(gK u).gone.length=u.gone.length:=rfl;have e2:(gK u).ar.length=u.ar.length:=rfl;omega
theorem fK.c3 (h:fK table b u):u.bm.length<=50000:=by
 have h1:=h.work.wait.count;have aP:=h.few;have iQ:=h.N;have e1:(gK u).bm.length=u.bm.length:=rfl;omega
theorem WE (u:h6) (x:ax) (r:List ax):(xU table b u x r).lit=u.lit/\(xU table b u x r).bS=u.bS/\(xU table b u x r).reqs=u.reqs:=by
 unfold xU;split<;>exact⟨rfl,rfl,rfl⟩
theorem WG (u:h6) (k:Nat) (r:List Nat):(xV table b u k r).lit=u.lit/\(xV table b u k r).bS=u.bS/\(xV table b u k r).reqs=u.reqs:=by
 unfold xV;split<;>exact⟨rfl,rfl,rfl⟩
theorem fK.step {u':h6} (h:fK table b u) (hu:rz (fQ b) (hQ table u.lit u.bS) (gK u)=some (gK u')) (ag:u'.lit=u.lit/\u'.bS=u.bS/\u'.reqs=u.reqs):fK table b u'/\gR b u'+1<=gR b u:=by
 obtain⟨cV,df,qo⟩:=ag;obtain⟨w1,w2⟩:=h.work.unit h.ok hu;refine⟨⟨h.sL,h.box,by rw[df];exact h.len,by rw[cV,df];exact h.F7,by rw[df];exact h.few,by rw[cV,df];exact w1,h.fit.unit h.work hu,by have:=h.lS;omega,by rw[qo,df];exact h.reqs⟩,?_⟩;unfold gR;rw[qo];omega
theorem fK.unit (h:fK table b u) (h1:(gb table b u).1=true):fK table b (gb table b u).2/\gR b (gb table b u).2+1<=gR b u:=by
 by_cases hl:u.bz=[]
 ·by_cases az:u.bm=[]
  ·by_cases hr:u.reqs=[]
   ·rw[F4 (by rw[hl];simp) (by rw[az];simp) (by rw[hr];simp)] at h1
    cases h1
   ·have ak:u.reqs=u.reqs.getD 0 default::u.reqs.drop 1:=F5 hr
    rw[F3 (by rw[hl];simp) (by rw[az];simp) (List.length_pos_iff.2 hr)];have mE:(u.reqs.getD 0 default).1<u.bS.length:=h.reqs _ (by rw[ak];simp);have ag:(u.reqs.getD 0 default).1<(fQ b).N:=by rw[h.N];exact mE
    have aq:=WB (table:=table) (b:=b) hl az;generalize he:u.reqs.getD 0 default=x at ak mE ag ⊢;have hw:gK (JE u x (u.reqs.drop 1))=iN (gK u) x.1 ((gK u).ar.getD x.1 z4):=rfl;have wR:∀n,n≠x.1->(hQ table (u.lit.set x.1 x.2.1) (u.bS.set x.1 x.2.2)).jE n=(hQ table u.lit u.bS).jE n/\(∀c,(hQ table (u.lit.set x.1 x.2.1) (u.bS.set x.1 x.2.2)).emit n c=(hQ table u.lit u.bS).emit n c)/\(hQ table (u.lit.set x.1 x.2.1) (u.bS.set x.1 x.2.2)).bS n=(hQ table u.lit u.bS).bS n:=λn cC=>by
     have e1:(u.lit.set x.1 x.2.1).getD n default=u.lit.getD n default:=by
      rw[A9 (by rw[h.F7];exact mE),aO cC]
     have e2:(u.bS.set x.1 x.2.2).getD n default=u.bS.getD n default:=by
      rw[A9 mE,aO cC]
     refine⟨?_,λc=> ?_,e2⟩
     ·show (dz table ((u.lit.set x.1 x.2.1).getD n default)).2.2.2.2.1=_
      rw[e1];rfl
     ·show dj (dz table ((u.lit.set x.1 x.2.1).getD n default)) c=_
      rw[e1];rfl
    obtain⟨t1,t2⟩:=h.work.AK h.ok aq ag wR;obtain⟨s1,_,rf,_⟩:=h.work.settled h.ok aq;have al:u.reqs.length=(u.reqs.drop 1).length+1:=by
     rw[List.length_drop];have:=List.length_pos_iff.2 hr;omega
    refine⟨⟨h.sL,h.box,?_,?_,?_,?_,?_,?_,?_⟩,?_⟩
    ·show (u.bS.set x.1 x.2.2).length=_
     rw[List.length_set];exact h.len
    ·show (u.lit.set x.1 x.2.1).length=(u.bS.set x.1 x.2.2).length
     rw[List.length_set,List.length_set];exact h.F7
    ·show (u.bS.set x.1 x.2.2).length<=_
     rw[List.length_set];exact h.few
    ·rw[hw]
     exact t1
    ·rw[hw]
     exact zB.AK h.work s1 rf ag
    ·rw[hw]
     omega
    ·intro y bg
     show y.1<(u.bS.set x.1 x.2.2).length;rw[List.length_set];exact h.reqs y (by rw[ak];exact List.mem_cons_of_mem _ bg)
    ·unfold gR
     rw[hw,al];show _+pK (fQ b).N*(u.reqs.drop 1).length+1<=_;rw[Nat.mul_add,Nat.mul_one];omega
  ·rw[F2 (by rw[hl];simp) (List.length_pos_iff.2 az)]
   have ak:u.bm=u.bm.getD 0 default::u.bm.drop 1:=F5 az;refine h.step (ahE h.box hl az ?_) (WG u _ _);rw[h.N];exact h.qI _ (by rw[ak];simp)
 ·rw[F1 (List.length_pos_iff.2 hl)]
  exact h.step (ahD hl) (WE u _ _)
theorem fK.done (h:fK table b u) (h1:(gb table b u).1=false):(gb table b u).2=u/\u.bz=[]/\u.bm=[]/\u.reqs=[]/\u.gone=[]/\sq (fQ b) (hQ table u.lit u.bS) (cU u.ar):=by
 by_cases hl:u.bz=[]
 ·by_cases az:u.bm=[]
  ·by_cases hr:u.reqs=[]
   ·obtain⟨s1,s2,rf,AZ⟩:=h.work.settled h.ok (WB (table:=table) (b:=b) hl az)
    exact⟨by rw[F4 (by rw[hl];simp) (by rw[az];simp) (by rw[hr];simp)],hl,az,hr,rf,AZ⟩
   ·rw[F3 (by rw[hl];simp) (by rw[az];simp) (List.length_pos_iff.2 hr)] at h1
    cases h1
  ·rw[F2 (by rw[hl];simp) (List.length_pos_iff.2 az)] at h1
   cases h1
 ·rw[F1 (List.length_pos_iff.2 hl)] at h1
  cases h1
theorem fK.ask {x:ix} (h:fK table b u) (ak:x.1<u.bS.length):fK table b {u with reqs:=u.reqs++[x]}/\gR b {u with reqs:=u.reqs++[x]}=gR b u+pK (fQ b).N:=by
 refine⟨⟨h.sL,h.box,h.len,h.F7,h.few,h.work,h.fit,h.lS,λy bg=> ?_⟩,?_⟩
 ·rcases List.mem_append.1 bg with bg|bg
  ·exact h.reqs y bg
  ·rw[List.mem_singleton.1 bg]
   exact ak
 ·unfold gR
  show AE.lS (fQ b).N (gK u)+pK (fQ b).N*(u.reqs++[x]).length=_;rw[List.length_append,List.length_singleton,Nat.mul_add,Nat.mul_one];omega
def mn (table:List cr) (b:bF):Nat->h6->h6
 |0,u=>u
 |n+1,u=>(gb table b (mn table b n u)).2
end AE
namespace AE
def hR (table:List cr) (b:bF):Nat->h6->Nat×h6
 |0,u=>(0,u)
 |f+1,u=>if (gb table b u).1=true then ((hR table b f (gb table b u).2).1+1,(hR table b f (gb table b u).2).2) else (0,u)
variable {table:List cr} {b:bF}
theorem F8 (n:Nat) (u:h6):mn table b (n+1) u=mn table b n (gb table b u).2:=by
 induction n with
 |zero=>rfl
 |succ n cd=>exact congrArg (λx=>(gb table b x).2) cd
theorem PE:∀(d f:Nat) (u:h6),d<=f->(∀m,m<d->(gb table b (mn table b m u)).1=true)->(d=f\/(gb table b (mn table b d u)).1=false)->hR table b f u=(d,mn table b d u)
 |0,0,u,_,_,_=>rfl
 |0,f+1,u,_,_,h=>by
  have h:=h.resolve_left ao
  change (gb table b u).1=false at h
  unfold hR;rw[h];rfl
 |d+1,0,u,h,_,_=>absurd h ao
 |d+1,f+1,u,h,h1,ae=>by
  have aJ:=h1 0 ao
  change (gb table b u).1=true at aJ
  have:=PE d f (gb table b u).2 ao (λm hm=>by rw[<-F8];exact h1 (m+1) ao) (ae.imp (λe=>by omega) λe=>by rw[<-F8];exact e);unfold hR;rw[aN aJ,this,F8]
theorem fK.many {u:h6} (h:fK table b u):∀d,(∀m,m<d->(gb table b (mn table b m u)).1=true)->fK table b (mn table b d u)/\d+gR b (mn table b d u)<=gR b u
 |0,_=>⟨h,by simp [mn]⟩
 |d+1,h1=>by
  obtain⟨q1,aE⟩:=fK.many h d λm hm=>h1 m ao
  obtain⟨cS,dL⟩:=q1.unit (h1 d ao);refine⟨cS,?_⟩;show d+1+gR b (gb table b (mn table b d u)).2<=_;omega
theorem JI:∀(f:Nat) (u:h6),(hR table b f u).1<=f/\(hR table b f u).2=mn table b (hR table b f u).1 u/\(∀m,m<(hR table b f u).1->(gb table b (mn table b m u)).1=true)/\((hR table b f u).1=f\/(gb table b (hR table b f u).2).1=false)
 |0,u=>⟨bY _,rfl,λm hm=>absurd hm (Nat.not_lt_zero m),.inl rfl⟩
 |f+1,u=>by
  obtain⟨h1,ae,ay,bE⟩:=JI f (gb table b u).2;unfold hR;split
  ·rename_i h
   refine⟨by simp only;omega,by rw[F8];exact ae,λm hm=> ?_,?_⟩
   ·cases m with
    |zero=>exact h
    |succ m=>
     rw[F8];exact ay m (by simp only at hm;omega)
   ·exact bE.imp (λe=>by simp only;omega) λe=>e
  ·rename_i h
   exact⟨Nat.zero_le _,rfl,λm hm=>absurd hm (Nat.not_lt_zero m),.inr (by simpa using h)⟩
theorem fK.settle {u:h6} (h:fK table b u):fK table b (hR table b (gR b u) u).2/\(gb table b (hR table b (gR b u) u).2).1=false/\(hR table b (gR b u) u).1+gR b (hR table b (gR b u) u).2<=gR b u:=by
 obtain⟨h1,ae,ay,bE⟩:=JI (table:=table) (b:=b) (gR b u) u;obtain⟨q1,aE⟩:=h.many _ ay;rw[<-ae] at q1 aE;refine⟨q1,?_,aE⟩;rcases bE with bE|bE
 ·cases hu:(gb table b (hR table b (gR b u) u).2).1 with
  |false=>rfl
  |true=>
   have:=(q1.unit hu).2;omega
 ·exact bE
theorem fK.run {u:h6} (h:fK table b u) (f:Nat):fK table b (hR table b f u).2/\(hR table b f u).1+gR b (hR table b f u).2<=gR b u:=by
 obtain⟨h1,ae,ay,bE⟩:=JI (table:=table) (b:=b) f u;obtain⟨q1,aE⟩:=h.many _ ay;rw[<-ae] at q1 aE;exact⟨q1,aE⟩
theorem fK.WH {u:h6} (h:fK table b u) (hr:u.reqs.length<=10000):gR b u<=1000000000000:=by
 have h1:=h.lS;have ae:(fQ b).N<=10000:=by rw[h.N];exact h.few
 have ay:pK (fQ b).N<=3650002:=by unfold pK;omega
 have bE:pK (fQ b).N*u.reqs.length<=3650002*10000:=Nat.mul_le_mul ay hr;unfold gR;omega
theorem ahI {iR tr:h6} {d:Nat} (h:tr=mn table b d iR) (hm:∀m,m<d->(gb table b (mn table b m iR)).1=true) (aI:(gb table b tr).1=true):
  (gb table b tr).2=mn table b (d+1) iR/\∀m,m<d+1->(gb table b (mn table b m iR)).1=true:=by
 subst h;refine⟨rfl,λm ahJ=> ?_⟩;rcases Nat.lt_succ_iff_lt_or_eq.1 ahJ with h|rfl
 ·exact hm m h
 ·exact aI
end AE
section
noncomputable section
namespace AE
abbrev cw:aQ:=Tryz.prog
theorem WI:u2 cw sj 1 8=true:=aw
theorem ahK:u2 cw lT 1 1=true:=aw
theorem ahL:u2 cw sw 4 32=true:=aw
theorem ahM:u2 cw nA 8 56=true:=aw
theorem ahN:u2 cw zg 3 24=true:=aw
theorem ahO:u2 cw zh 5 40=true:=aw
abbrev eT:hP cw:=xO (α:=Int) default sj 1 8 ih WI
abbrev tK:hP cw:=xO (α:=Nat) default sv 1 8 o_ WI
abbrev h7:hP cw:=xO (α:=Bool) default lT 1 1 hO ahK
abbrev dk:hP cw:=xO (α:=bA) default sw 4 32 ck ahL
abbrev mo:hP cw:=xO (α:=cr) default nA 8 56 hA ahM
abbrev wu:hP cw:=xO (α:=ix) default zg 3 24 uN ahN
abbrev o6:hP cw:=xO (α:=ax) default zh 5 40 kg ahO
abbrev qJ:=Option Addr×Nat×Nat
structure dh where
 q:c_
 o:c_
 g:c_
 s:c_
 w:qJ
 l:qJ
 i:qJ
 t:qJ
 h:qJ
 c:qJ
 k:qJ
structure bN where
 u:h6
 b:bF
 table:List cr
 cells:List Int
 known:List Bool
 most:Int
@[reducible] def zC (a:c_) (n:Nat):U:= .slice a.1 n a.2
@[reducible] def dF (a:qJ):U:= .slice a.1 a.2.1 a.2.2
@[reducible] def wv (A:dh) (e:bN):List U:=[I e.b.1,I e.b.2.1,I e.b.2.2.1,I e.b.2.2.2.1,I e.b.2.2.2.2.1,I e.b.2.2.2.2.2,dF A.c,I e.b.1,I e.b.2.1,I e.b.2.2.1,I e.b.2.2.2.1,I e.b.2.2.2.2.1,I e.b.2.2.2.2.2,dF A.i,dF A.k,dF A.h,dF A.t,dF A.l,I e.most,zC A.q e.u.reqs.length,zC A.o e.u.bz.length,zC A.g e.u.gone.length,zC A.s e.u.bm.length,dF A.w]
@[reducible] def b1 (g:Nat) (A:dh) (e:bN):List (aF cw):=
  [.jh wu (zC A.q e.u.reqs.length) e.u.reqs,.jh o6 (zC A.o e.u.bz.length) e.u.bz,.arr tK (zC A.g e.u.gone.length) e.u.gone,.jh tK (zC A.s e.u.bm.length) e.u.bm,.arr h7 (dF A.w) e.u.waits,.arr dk (dF A.l) e.u.ar,.arr eT (dF A.i) e.u.lit,.arr mo (dF A.t) e.table,.arr h7 (dF A.h) e.u.bS,.arr eT (dF A.c) e.cells,.arr h7 (dF A.k) e.known,.box g xx (wv A e)]
def eO (g:Nat) (A:dh) (e:bN):ca:=uP (b3 (b1 g A e))
abbrev b2 (g:Nat):U:= .pointer (some ⟨g,0,none⟩)
theorem b_.Bx {M:Mem} {g:Nat} {A:dh} {e:bN} (h:b_ M [eO g A e]):b_ M (b3 (b1 g A e)):=h.afp
instance:Inhabited dh:=⟨⟨(none,0),(none,0),(none,0),(none,0),(none,0,0),(none,0,0),(none,0,0),(none,0,0),(none,0,0),(none,0,0),(none,0,0)⟩⟩
instance:Inhabited bN:=⟨⟨⟨[],[],[],[],[],[],[],[]⟩,(0,0,0,0,0,0),[],[],[],0⟩⟩
abbrev PF:List Nat:=[0,1,2,3,4,5,6,7,8,9,10,11]
end AE
end
end
section
noncomputable section
namespace AE
theorem Di {n m:Nat} (h:n+m<=1000000):n+m<=maxLen:=Nat.le_trans h cv
namespace WJ
def t:bs:=
.o (.dR 0) 2 1 []<|
.o (.cu 74 2 0) 3 1 [0,26,1]<|
.o (.bp 26 3) 4 1 [1]<|
.uS 26 4 1<|
.o (.dR 0) 6 1 []<|
.o (.cu 74 6 0) 7 1 [0,26,1]<|
.st 26 7 5<|
.ret (.tuple ⟨[]⟩)
theorem dw:fJ Tryz.prog 59 {} [0,1] 2=some t:=gE aw
theorem any {W:au} {g:Nat} {A:dh} {e:bN} {ji:U} {lx:List Nat} (aA:b_ (aG W) (b3 (b1 g A e++[.red tK ji lx]))) (hl:e.u.bm.length+lx.length<=1000000) (ak:mA ji=ji:=by rfl):
  gY cw 59 [.pointer (some ⟨g,22,none⟩),ji] W (b1 g A e++[.red tK ji lx]) c_ (λ_=> .tuple #[]) λy=>b1 g {A with s:=y} {e with u:={e.u with bm:=e.u.bm++lx}}++[.red tK ji lx]:=by
 refine kG (ro:=[]) mixed dw [.pointer (some ⟨g,22,none⟩),ji] aA fB.none ?_ (ho:=⟨rfl,ak,trivial⟩);unfold t;refine bK ?_;refine Pd J J (λa c=>gO) (.red has) (λa c=> ?_) (Di hl) (by show _*8<=_;omega);refine bK ?_;exact e3 ⟨(a,c),rfl,rfl⟩
end WJ
namespace WK
def t:bs:=
.o (.dR 0) 1 1 []<|
.o (.cu 74 1 0) 2 1 [0,26,1]<|
.o (.bp 26 2) 3 1 [1]<|
.o (.cP 26 3 (I 0)) 4 1 [0,3,1]<|
.o (.bp 3 4) 5 1 [1]<|
.o (.lr 26 3 (some (I 1)) none none) 6 1 [0,3,1]<|
.st 26 2 6<|
.ret 5
theorem dw:fJ Tryz.prog 72 {} [0] 1=some t:=gE aw
theorem any {W:au} {g:Nat} {A:dh} {e:bN} (aA:b_ (aG W) (b3 (b1 g A e))) (hl:0<e.u.bm.length):
  gY cw 72 [.pointer (some ⟨g,22,none⟩)] W (b1 g A e) c_ (λ_=>I ((e.u.bm.getD 0 default:Nat):Int)) λy=>b1 g {A with s:=y} {e with u:={e.u with bm:=e.u.bm.drop 1}}:=by
 refine kG (ro:=[]) mixed dw [.pointer (some ⟨g,22,none⟩)] aA fB.none ?_;unfold t;refine bK ?_;refine Pf (m':=(e.u.bm.drop 1).length) (j:=1) (by simp) J J ?_;refine qD J J gO qC ?_;exact oO (λM h=>Pj 3 (K:=tK) (a:=A.s.1) (m:=e.u.bm.length) (c:=A.s.2) (j:=1) (l:=e.u.bm) (m':=(e.u.bm.drop 1).length) gO rfl (by simp) ao h) ⟨(kD A.s.1 A.s.2 1 tK.k,A.s.2-1),rfl,rfl⟩
end WK
namespace WL
def t:bs:=
.o (.dR 0) 2 1 []<|
.o (.cu 72 2 0) 3 1 [0,70,1]<|
.o (.bp 70 3) 4 1 [1]<|
.uS 70 4 1<|
.o (.dR 0) 6 1 []<|
.o (.cu 72 6 0) 7 1 [0,70,1]<|
.st 70 7 5<|
.ret (.tuple ⟨[]⟩)
theorem dw:fJ Tryz.prog 107 {} [0,1] 2=some t:=gE aw
theorem any {W:au} {g:Nat} {A:dh} {e:bN} {ji:U} {lx:List ax} (aA:b_ (aG W) (b3 (b1 g A e++[.red o6 ji lx]))) (hl:e.u.bz.length+lx.length<=1000000) (ak:mA ji=ji:=by rfl):
  gY cw 107 [.pointer (some ⟨g,20,none⟩),ji] W (b1 g A e++[.red o6 ji lx]) c_ (λ_=> .tuple #[]) λy=>b1 g {A with o:=y} {e with u:={e.u with bz:=e.u.bz++lx}}++[.red o6 ji lx]:=by
 refine kG (ro:=[]) mixed dw [.pointer (some ⟨g,20,none⟩),ji] aA fB.none ?_ (ho:=⟨rfl,ak,trivial⟩);unfold t;refine bK ?_;refine Pd J J (λa c=>gO) (.red has) (λa c=> ?_) (Di hl) (by show _*40<=_;omega);refine bK ?_;exact e3 ⟨(a,c),rfl,rfl⟩
end WL
namespace WM
def t:bs:=
.o (.dR 0) 1 1 []<|
.o (.cu 72 1 0) 2 1 [0,70,1]<|
.o (.bp 70 2) 3 1 [1]<|
.o (.cP 70 3 (I 0)) 4 1 [0,87,5]<|
.o (.bp 87 4) (.agg ⟨h5 5 5⟩) 5 [5]<|
.o (.lr 70 3 (some (I 1)) none none) 10 1 [0,87,5]<|
.st 70 2 10<|
.ret (.agg ⟨[5,6,7,8,9]⟩)
theorem dw:fJ Tryz.prog 66 {} [0] 1=some t:=gE aw
theorem any {W:au} {g:Nat} {A:dh} {e:bN} (aA:b_ (aG W) (b3 (b1 g A e))) (hl:0<e.u.bz.length):
  gY cw 66 [.pointer (some ⟨g,20,none⟩)] W (b1 g A e) c_ (λ_=> .agg ⟨kg (e.u.bz.getD 0 default)⟩) λy=>b1 g {A with o:=y} {e with u:={e.u with bz:=e.u.bz.drop 1}}:=by
 refine kG (ro:=[]) mixed dw [.pointer (some ⟨g,20,none⟩)] aA fB.none ?_;unfold t;refine bK ?_;refine qB (K:=o6) (l:=e.u.bz) (j:=0) (c:=kg (e.u.bz.getD 0 default)) J J J ik ?_;refine Pf (m':=(e.u.bz.drop 1).length) (j:=1) (by simp) J J ?_;refine qD J J gO qC ?_;exact oO (λM h=>Pj 1 (K:=o6) (a:=A.o.1) (m:=e.u.bz.length) (c:=A.o.2) (j:=1) (l:=e.u.bz) (m':=(e.u.bz.drop 1).length) gO rfl (by simp) ao h) ⟨(kD A.o.1 A.o.2 1 o6.k,A.o.2-1),rfl,rfl⟩
end WM
namespace WN
def t:bs:=
.o (.dR 0) 2 1 []<|
.o (.cu 69 2 0) 3 1 [0,67,1]<|
.o (.bp 67 3) 4 1 [1]<|
.uS 67 4 1<|
.o (.dR 0) 6 1 []<|
.o (.cu 69 6 0) 7 1 [0,67,1]<|
.st 67 7 5<|
.ret (.tuple ⟨[]⟩)
theorem dw:fJ Tryz.prog 84 {} [0,1] 2=some t:=gE aw
theorem any {W:au} {g:Nat} {A:dh} {e:bN} {ji:U} {lx:List ix} (aA:b_ (aG W) (b3 (b1 g A e++[.red wu ji lx]))) (hl:e.u.reqs.length+lx.length<=1000000) (ak:mA ji=ji:=by rfl):
  gY cw 84 [.pointer (some ⟨g,19,none⟩),ji] W (b1 g A e++[.red wu ji lx]) c_ (λ_=> .tuple #[]) λy=>b1 g {A with q:=y} {e with u:={e.u with reqs:=e.u.reqs++lx}}++[.red wu ji lx]:=by
 refine kG (ro:=[]) mixed dw [.pointer (some ⟨g,19,none⟩),ji] aA fB.none ?_ (ho:=⟨rfl,ak,trivial⟩);unfold t;refine bK ?_;refine Pd J J (λa c=>gO) (.red has) (λa c=> ?_) (Di hl) (by show _*24<=_;omega);refine bK ?_;exact e3 ⟨(a,c),rfl,rfl⟩
end WN
namespace WO
def t:bs:=
.o (.dR 0) 1 1 []<|
.o (.cu 69 1 0) 2 1 [0,67,1]<|
.o (.bp 67 2) 3 1 [1]<|
.o (.cP 67 3 (I 0)) 4 1 [0,89,3]<|
.o (.bp 89 4) (.agg ⟨h5 3 5⟩) 3 [3]<|
.o (.lr 67 3 (some (I 1)) none none) 8 1 [0,89,3]<|
.st 67 2 8<|
.ret (.agg ⟨[5,6,7]⟩)
theorem dw:fJ Tryz.prog 75 {} [0] 1=some t:=gE aw
theorem any {W:au} {g:Nat} {A:dh} {e:bN} (aA:b_ (aG W) (b3 (b1 g A e))) (hl:0<e.u.reqs.length):
  gY cw 75 [.pointer (some ⟨g,19,none⟩)] W (b1 g A e) c_ (λ_=> .agg ⟨uN (e.u.reqs.getD 0 default)⟩) λy=>b1 g {A with q:=y} {e with u:={e.u with reqs:=e.u.reqs.drop 1}}:=by
 refine kG (ro:=[]) mixed dw [.pointer (some ⟨g,19,none⟩)] aA fB.none ?_;unfold t;refine bK ?_;refine qB (K:=wu) (l:=e.u.reqs) (j:=0) (c:=uN (e.u.reqs.getD 0 default)) J J J ik ?_;refine Pf (m':=(e.u.reqs.drop 1).length) (j:=1) (by simp) J J ?_;refine qD J J gO qC ?_;exact oO (λM h=>Pj 0 (K:=wu) (a:=A.q.1) (m:=e.u.reqs.length) (c:=A.q.2) (j:=1) (l:=e.u.reqs) (m':=(e.u.reqs.drop 1).length) gO rfl (by simp) ao h) ⟨(kD A.q.1 A.q.2 1 wu.k,A.q.2-1),rfl,rfl⟩
end WO
end AE
end
end
namespace AE
namespace JJ
noncomputable def body:Code:=(Tryz.f70.body).getD .skip
def N:Nat:=26
noncomputable abbrev bV:=gu Tryz.prog Tryz.f70
def a6:b6:={sl:=dn [(3,3),(2,2),(1,1),(0,0)],ms:=[],A:=start}
def cq:bC:=[(.eo 3,.bool true),
 (.bin .eql 3 2 (I 3),.bool true),
 (.bin .eql 3 0 (I 15),.bool true),
 (.bin .eql 3 1 (I 1),.bool true)]
theorem bk:bV (at' 26 cq [] body a6)=some (I 15):=aw
def c4:bC:=[(.eo 3,.bool true),
 (.bin .eql 3 2 (I 3),.bool true),
 (.bin .eql 3 0 (I 15),.bool true),
 (.bin .eql 3 1 (I 1),.bool false),
 (.bin .sub 3 0 1,4),
 (.d_ #[3,3] 3 (I 0) 4,5)]
theorem e1:bV (at' 26 c4 [] body a6)=some 5:=aw
def ew:bC:=[(.eo 3,.bool true),
 (.bin .eql 3 2 (I 3),.bool true),
 (.bin .eql 3 0 (I 15),.bool false),
 (.bin .sub 3 0 1,4),
 (.d_ #[3,3] 3 (I 0) 4,5)]
theorem e2:bV (at' 26 ew [] body a6)=some 5:=aw
def eP:bC:=[(.eo 3,.bool true),
 (.bin .eql 3 2 (I 3),.bool false),
 (.bin .sub 3 0 1,4),
 (.d_ #[3,3] 3 (I 0) 4,5)]
theorem dH:bV (at' 26 eP [] body a6)=some 5:=aw
def gL:bC:=[(.eo 3,.bool false),
 (.bin .sub 3 0 1,4),
 (.d_ #[3,3] 3 (I 0) 4,5)]
theorem jD:bV (at' 26 gL [] body a6)=some 5:=aw
@[reducible] noncomputable def cl (v f:Int) (c:Nat) (up:Bool):List U:=[I v,I f,I ((c:Nat):Int),.bool up,I (v-f),I (max 0 (v-f))]
theorem any (W:au) (v f:Int) (c:Nat) (up:Bool) (vW: -1000<=v) (AL:v<=1000) (alJ: -1000<=f) (SP:f<=1000):Calls Tryz.prog 70 #[I v,I f,I ((c:Nat):Int),.bool up] W λe w'=>e= .returned (I (given v f c up))/\ch W.heap.size W w':=by
 refine kH (cl v f c up) body a6 N [aj 0,aj 1,aj 2,aj 3] Tryz.func70 λa ai=> ?_
 letI:=du ai;have aA:=bW.qs W;by_cases aJ:up=true
 ·by_cases h1:((c:Nat):Int)=3
  ·by_cases ae:v=15
   ·by_cases ay:f=1
    ·refine bO cq [] (ah (CE J J aJ) (ah bD (ah bD (ah bD bc)))) bd ?_ ai
     exact bT bk λw2 br=>(by (rw[ahh bB ao bB bB];rfl))
    ·refine bO c4 [] (ah (CE J J aJ) (ah bD (ah bD (ah a8 (ah mj (ah (aR.o5 J J J J J J) bc)))))) bd ?_ ai
     exact bT e1 λw2 br=>(by (rw[Jz (λq=>by omega)];rfl))
   ·refine bO ew [] (ah (CE J J aJ) (ah bD (ah a8 (ah mj (ah (aR.o5 J J J J J J) bc))))) bd ?_ ai
    exact bT e2 λw2 br=>(by (rw[Jz (λq=>by omega)];rfl))
  ·refine bO eP [] (ah (CE J J aJ) (ah a8 (ah mj (ah (aR.o5 J J J J J J) bc)))) bd ?_ ai
   exact bT dH λw2 br=>(by (rw[Jz (λq=>by omega)];rfl))
 ·refine bO gL [] (ah (MT J J aJ) (ah mj (ah (aR.o5 J J J J J J) bc))) bd ?_ ai
  exact bT jD λw2 br=>(by (rw[Jz (λq=>by exact absurd q.1 bB)];rfl))
end JJ
namespace PG
noncomputable def body:Code:=(Tryz.f94.body).getD .skip
def N:Nat:=51
noncomputable abbrev bV:=gu Tryz.prog Tryz.f94
def a6:b6:={sl:=dn [(1,.agg ⟨[3,4,5,6,7,8]⟩),(0,.agg ⟨[0,1,2]⟩)],ms:=[],A:=start}
def cq:bC:=[(.bin .geq 3 0 3,.bool true),
 (.bin .lss 3 0 6,.bool true),
 (.bin .geq 3 1 4,.bool true),
 (.bin .lss 3 1 7,.bool true),
 (.bin .geq 3 2 5,.bool true),
 (.bin .lss 3 2 8,.bool true)]
theorem bk:bV (at' 51 cq [] body a6)=some (.bool true):=aw
def c4:bC:=[(.bin .geq 3 0 3,.bool true),
 (.bin .lss 3 0 6,.bool true),
 (.bin .geq 3 1 4,.bool true),
 (.bin .lss 3 1 7,.bool true),
 (.bin .geq 3 2 5,.bool true),
 (.bin .lss 3 2 8,.bool false)]
theorem e1:bV (at' 51 c4 [] body a6)=some (.bool false):=aw
def ew:bC:=[(.bin .geq 3 0 3,.bool true),
 (.bin .lss 3 0 6,.bool true),
 (.bin .geq 3 1 4,.bool true),
 (.bin .lss 3 1 7,.bool true),
 (.bin .geq 3 2 5,.bool false)]
theorem e2:bV (at' 51 ew [] body a6)=some (.bool false):=aw
def eP:bC:=[(.bin .geq 3 0 3,.bool true),
 (.bin .lss 3 0 6,.bool true),
 (.bin .geq 3 1 4,.bool true),
 (.bin .lss 3 1 7,.bool false)]
theorem dH:bV (at' 51 eP [] body a6)=some (.bool false):=aw
def gL:bC:=[(.bin .geq 3 0 3,.bool true),
 (.bin .lss 3 0 6,.bool true),
 (.bin .geq 3 1 4,.bool false)]
theorem jD:bV (at' 51 gL [] body a6)=some (.bool false):=aw
def iz:bC:=[(.bin .geq 3 0 3,.bool true),
 (.bin .lss 3 0 6,.bool false)]
theorem oP:bV (at' 51 iz [] body a6)=some (.bool false):=aw
def mK:bC:=[(.bin .geq 3 0 3,.bool false)]
theorem kY:bV (at' 51 mK [] body a6)=some (.bool false):=aw
@[reducible] noncomputable def cl (p:dU) (b:bF):List U:=[I p.1,I p.2.1,I p.2.2,I b.1,I b.2.1,I b.2.2.1,I b.2.2.2.1,I b.2.2.2.2.1,I b.2.2.2.2.2]
theorem any (W:au) (p:dU) (b:bF):Calls Tryz.prog 94 #[P.val p,X.val b] W λe w'=>e= .returned (.bool (decide (cO p b)))/\ch W.heap.size W w':=by
 refine kH (cl p b) body a6 N [.agg ⟨[aj 0,aj 1,aj 2]⟩,.agg ⟨[aj 3,aj 4,aj 5,aj 6,aj 7,aj 8]⟩] Tryz.func94 λa ai=> ?_
 letI:=du ai;have aA:=bW.qs W;by_cases aJ:b.1<=p.1
 ·by_cases h1:p.1<b.2.2.2.1
  ·by_cases ae:b.2.1<=p.2.1
   ·by_cases ay:p.2.1<b.2.2.2.2.1
    ·by_cases bE:b.2.2.1<=p.2.2
     ·by_cases cn:p.2.2<b.2.2.2.2.2
      ·refine bO cq [] (ah bD (ah bD (ah bD (ah bD (ah bD (ah bD bc)))))) bd ?_ ai
       exact bT bk λw2 br=>(by (rw[gU (show cO p b from ⟨ao,ao,ao,ao,ao,ao⟩)];rfl))
      ·refine bO c4 [] (ah bD (ah bD (ah bD (ah bD (ah bD (ah a8 bc)))))) bd ?_ ai
       exact bT e1 λw2 br=>(by (rw[di (λq:cO p b=>by unfold cO at q;omega)];rfl))
     ·refine bO ew [] (ah bD (ah bD (ah bD (ah bD (ah a8 bc))))) bd ?_ ai
      exact bT e2 λw2 br=>(by (rw[di (λq:cO p b=>by unfold cO at q;omega)];rfl))
    ·refine bO eP [] (ah bD (ah bD (ah bD (ah a8 bc)))) bd ?_ ai
     exact bT dH λw2 br=>(by (rw[di (λq:cO p b=>by unfold cO at q;omega)];rfl))
   ·refine bO gL [] (ah bD (ah bD (ah a8 bc))) bd ?_ ai
    exact bT jD λw2 br=>(by (rw[di (λq:cO p b=>by unfold cO at q;omega)];rfl))
  ·refine bO iz [] (ah bD (ah a8 bc)) bd ?_ ai
   exact bT oP λw2 br=>(by (rw[di (λq:cO p b=>by unfold cO at q;omega)];rfl))
 ·refine bO mK [] (ah a8 bc) bd ?_ ai
  exact bT kY λw2 br=>(by (rw[di (λq:cO p b=>by unfold cO at q;omega)];rfl))
end PG
namespace WQ
noncomputable def body:Code:=(Tryz.f95.body).getD .skip
def N:Nat:=11
noncomputable abbrev bV:=gu Tryz.prog Tryz.f95
def a6:b6:={sl:=dn [(0,.agg ⟨[0,1,2,3,4,5]⟩)],ms:=[],A:=start}
def cq:bC:=[(.bin .geq 3 0 0,.bool true),
 (.bin .lss 3 0 3,.bool true),
 (.bin .geq 3 1 1,.bool true),
 (.bin .lss 3 1 4,.bool true),
 (.bin .geq 3 2 2,.bool true),
 (.bin .lss 3 2 5,.bool true),
 (.bin .mul 3 (I (-1)) 0,6),
 (.bin .mul 3 (I (-1)) 1,7),
 (.bin .mul 3 (I (-1)) 2,8),
 (.bin .add 3 3 6,9),
 (.bin .add 3 4 7,10),
 (.bin .add 3 5 8,11)]
theorem bk:bV (at' 11 cq [] body a6)=some (.agg ⟨[9,10,11]⟩):=aw
def c4:bC:=[(.bin .geq 3 0 0,.bool true),
 (.bin .lss 3 0 3,.bool true),
 (.bin .geq 3 1 1,.bool true),
 (.bin .lss 3 1 4,.bool true),
 (.bin .geq 3 2 2,.bool true),
 (.bin .lss 3 2 5,.bool false)]
theorem e1:bV (at' 11 c4 [] body a6)=some (.agg ⟨[I 0,I 0,I 0]⟩):=aw
def ew:bC:=[(.bin .geq 3 0 0,.bool true),
 (.bin .lss 3 0 3,.bool true),
 (.bin .geq 3 1 1,.bool true),
 (.bin .lss 3 1 4,.bool false)]
theorem e2:bV (at' 11 ew [] body a6)=some (.agg ⟨[I 0,I 0,I 0]⟩):=aw
def eP:bC:=[(.bin .geq 3 0 0,.bool true),
 (.bin .lss 3 0 3,.bool false)]
theorem dH:bV (at' 11 eP [] body a6)=some (.agg ⟨[I 0,I 0,I 0]⟩):=aw
@[reducible] noncomputable def cl (b:bF):List U:=[I b.1,I b.2.1,I b.2.2.1,I b.2.2.2.1,I b.2.2.2.2.1,I b.2.2.2.2.2,I ((-1)*b.1),I ((-1)*b.2.1),I ((-1)*b.2.2.1),I (b.2.2.2.1+((-1)*b.1)),I (b.2.2.2.2.1+((-1)*b.2.1)),I (b.2.2.2.2.2+((-1)*b.2.2.1))]
theorem any (W:au) (b:bF) (ad:okB b):Calls Tryz.prog 95 #[X.val b] W λe w'=>e= .returned (P.val (bu b))/\ch W.heap.size W w':=by
 refine kH (cl b) body a6 N [.agg ⟨[aj 0,aj 1,aj 2,aj 3,aj 4,aj 5]⟩] Tryz.func95 λa ai=> ?_
 letI:=du ai;have aA:=bW.qs W;have td:=ad;have gw: -1048575<=b.1/\b.1<=1048575/\ -1048575<=b.2.1/\b.2.1<=1048575/\ -1048575<=b.2.2.1/\b.2.2.1<=1048575/\ -1048575<=b.2.2.2.1/\b.2.2.2.1<=1048575/\ -1048575<=b.2.2.2.2.1/\b.2.2.2.2.1<=1048575/\ -1048575<=b.2.2.2.2.2/\b.2.2.2.2.2<=1048575:=ad;by_cases aJ:b.1<b.2.2.2.1
 ·by_cases h1:b.2.1<b.2.2.2.2.1
  ·by_cases ae:b.2.2.1<b.2.2.2.2.2
   ·refine bO cq [] (ah bD (ah bD (ah bD (ah bD (ah bD (ah bD (ah mj (ah mj (ah mj (ah mj (ah mj (ah mj bc)))))))))))) bd ?_ ai
    exact bT bk λw2 br=>(by (rw[xR ⟨ao,ao,ao⟩];exact ahf ao ao ao))
   ·refine bO c4 [] (ah bD (ah bD (ah bD (ah bD (ah bD (ah a8 bc)))))) bd ?_ ai
    exact bT e1 λw2 br=>(by (rw[Br (λq=>by unfold hG at q;omega)];rfl))
  ·refine bO ew [] (ah bD (ah bD (ah bD (ah a8 bc)))) bd ?_ ai
   exact bT e2 λw2 br=>(by (rw[Br (λq=>by unfold hG at q;omega)];rfl))
 ·refine bO eP [] (ah bD (ah a8 bc)) bd ?_ ai
  exact bT dH λw2 br=>(by (rw[Br (λq=>by unfold hG at q;omega)];rfl))
end WQ
end AE
namespace AE
section
variable [aY]
theorem ahP {x y:U} {p:dU} {b:bF} (hp:dW [x,y]=true) (a':et [x,y]=[P.val p,X.val b]) (h:cO p b):ju Tryz.prog (94,[x,y],.bool true):=
 lR (a:= #[P.val p,X.val b]) hp rfl a' rfl λw _=>(PG.any w p b).mono λe w' he=>by rw[gU h] at he;exact he
theorem ahQ {x y:U} {p:dU} {b:bF} (hp:dW [x,y]=true) (a':et [x,y]=[P.val p,X.val b]) (h:¬cO p b):ju Tryz.prog (94,[x,y],.bool false):=
 lR (a:= #[P.val p,X.val b]) hp rfl a' rfl λw _=>(PG.any w p b).mono λe w' he=>by rw[di h] at he;exact he
theorem JK {x r:U} {b:bF} (hp:dW [x]=true) (hr:aM r=true) (a':et [x]=[X.val b]) (bX:aK r=P.val (bu b)) (ad:okB b):ju Tryz.prog (95,[x],r):=
 lR (a:= #[X.val b]) hp hr a' bX λw _=>WQ.any w b ad
end
end AE
namespace AE
namespace F9
noncomputable def body:Code:=(Tryz.f57.body).getD .skip
def N:Nat:=31
def a6:b6:={sl:=dn [(1,.agg ⟨[6,7,8]⟩),(0,.agg ⟨[0,1,2,3,4,5]⟩)],ms:=[],A:=start}
def cq:bC:=[(.bin .mul 3 (I (-1)) 0,12),
 (.bin .mul 3 (I (-1)) 1,13),
 (.bin .mul 3 (I (-1)) 2,14),
 (.bin .add 3 6 12,15),
 (.bin .add 3 7 13,16),
 (.bin .add 3 8 14,17),
 (.bin .mul 3 17 10,18),
 (.bin .add 3 18 16,19),
 (.bin .mul 3 19 9,20),
 (.bin .add 3 20 15,21)]
def lE:ef:=[(94,[.agg ⟨[6,7,8]⟩,.agg ⟨[0,1,2,3,4,5]⟩],.bool true),
 (95,[.agg ⟨[aj 0,aj 1,aj 2,aj 3,aj 4,aj 5]⟩],.agg ⟨[aj 9,aj 10,aj 11]⟩)]
theorem bk:gu Tryz.prog Tryz.f57 (at' 31 cq lE body a6)=some 21:=aw
def jH:ef:=[(94,[.agg ⟨[6,7,8]⟩,.agg ⟨[0,1,2,3,4,5]⟩],.bool false)]
theorem e1:gu Tryz.prog Tryz.f57 (at' 31 [] jH body a6)=some (I (-1)):=aw
@[reducible] noncomputable def cl (b:bF) (p:dU):List U:=[I b.1,I b.2.1,I b.2.2.1,I b.2.2.2.1,I b.2.2.2.2.1,I b.2.2.2.2.2,I p.1,I p.2.1,I p.2.2,I (bu b).1,I (bu b).2.1,I (bu b).2.2,I ((-1)*b.1),I ((-1)*b.2.1),I ((-1)*b.2.2.1),I (p.1+((-1)*b.1)),I (p.2.1+((-1)*b.2.1)),I (p.2.2+((-1)*b.2.2.1)),I ((p.2.2+((-1)*b.2.2.1))*(bu b).2.1),I (((p.2.2+((-1)*b.2.2.1))*(bu b).2.1)+(p.2.1+((-1)*b.2.1))),I ((((p.2.2+((-1)*b.2.2.1))*(bu b).2.1)+(p.2.1+((-1)*b.2.1)))*(bu b).1),I (((((p.2.2+((-1)*b.2.2.1))*(bu b).2.1)+(p.2.1+((-1)*b.2.1)))*(bu b).1)+(p.1+((-1)*b.1)))]
theorem any (W:au) (b:bF) (p:dU) (ad:okB b):Calls Tryz.prog 57 #[X.val b,P.val p] W λe w'=>e= .returned (I (wm b p))/\ch W.heap.size W w':=by
 refine kH (cl b p) body a6 N [.agg ⟨[aj 0,aj 1,aj 2,aj 3,aj 4,aj 5]⟩,.agg ⟨[aj 6,aj 7,aj 8]⟩] Tryz.func57 λa ai=> ?_
 letI:=du ai;have aA:=bW.qs W;have gw: -1048575<=b.1/\b.1<=1048575/\ -1048575<=b.2.1/\b.2.1<=1048575/\ -1048575<=b.2.2.1/\b.2.2.1<=1048575/\ -1048575<=b.2.2.2.1/\b.2.2.2.1<=1048575/\ -1048575<=b.2.2.2.2.1/\b.2.2.2.2.1<=1048575/\ -1048575<=b.2.2.2.2.2/\b.2.2.2.2.2<=1048575:=ad;by_cases aJ:cO p b
 ·refine bO cq lE (ah (aR.bi J J J J J J (oB rfl ao ao)) (ah (aR.bi J J J J J J (oB rfl ao ao)) (ah (aR.bi J J J J J J (oB rfl ao ao)) (ah (aR.bi J J J J J J (oB rfl (by (have je:=pe ad bB;have nq:=n' (show cO p b by assumption);omega)) (by (have je:=pe ad bB;have nq:=n' (show cO p b by assumption);omega)))) (ah (aR.bi J J J J J J (oB rfl (by (have je:=pe ad bB;have nq:=n' (show cO p b by assumption);omega)) (by (have je:=pe ad bB;have nq:=n' (show cO p b by assumption);omega)))) (ah (aR.bi J J J J J J (oB rfl (by (have je:=pe ad bB;have nq:=n' (show cO p b by assumption);omega)) (by (have je:=pe ad bB;have nq:=n' (show cO p b by assumption);omega)))) (ah (aR.bi J J J J J J (oB rfl (by (have je:=pe ad bB;have nq:=n' (show cO p b by assumption);omega)) (by (have je:=pe ad bB;have nq:=n' (show cO p b by assumption);omega)))) (ah (aR.bi J J J J J J (oB rfl (by (have je:=pe ad bB;have nq:=n' (show cO p b by assumption);omega)) (by (have je:=pe ad bB;have nq:=n' (show cO p b by assumption);omega)))) (ah (aR.bi J J J J J J (oB rfl (by (have je:=pe ad bB;have nq:=n' (show cO p b by assumption);omega)) (by (have je:=pe ad bB;have nq:=n' (show cO p b by assumption);omega)))) (ah (aR.bi J J J J J J (oB rfl (by (have je:=pe ad bB;have nq:=n' (show cO p b by assumption);omega)) (by (have je:=pe ad bB;have nq:=n' (show cO p b by assumption);omega)))) bc)))))))))) (cz (ahP J J aJ) (cz (JK J J J J ad) bd)) ?_ ai
  exact bT bk λw2 br=>(by (rw[JB bB];rfl))
 ·refine bO [] jH bc (cz (ahQ J J aJ) bd) ?_ ai
  exact bT e1 λw2 br=>(by (rw[FW bB];rfl))
end F9
end AE
namespace AE
namespace PH
noncomputable def body:Code:=(Tryz.f105.body).getD .skip
def N:Nat:=39
noncomputable abbrev bV:=gu Tryz.prog Tryz.f105
def a6:b6:={sl:=dn [(1,6),(0,.agg ⟨[0,1,2,3,4,5]⟩)],ms:=[],A:=start}
def cq:bC:=[(.bin .lss 3 6 (I 0),.bool true)]
theorem bk:bV (at' 39 cq [] body a6)=some (.tuple ⟨[.agg ⟨[I 0,I 0,I 0]⟩,.bool false]⟩):=aw
def c4:bC:=[(.bin .lss 3 6 (I 0),.bool false),
 (.bin .mul 3 7 8,10),
 (.bin .mul 3 10 9,11),
 (.bin .geq 3 6 11,.bool true)]
def jH:ef:=[(95,[.agg ⟨[0,1,2,3,4,5]⟩],.agg ⟨[7,8,9]⟩)]
theorem e1:bV (at' 39 c4 jH body a6)=some (.tuple ⟨[.agg ⟨[I 0,I 0,I 0]⟩,.bool false]⟩):=aw
def ew:bC:=[(.bin .lss 3 6 (I 0),.bool false),
 (.bin .mul 3 7 8,10),
 (.bin .mul 3 10 9,11),
 (.bin .geq 3 6 11,.bool false),
 (.bin .quo 3 6 7,12),
 (.bin .rem 3 6 7,13),
 (.bin .rem 3 12 8,14),
 (.bin .quo 3 12 8,15),
 (.bin .add 3 0 13,16),
 (.bin .add 3 1 14,17),
 (.bin .add 3 2 15,18)]
def nK:ef:=[(95,[.agg ⟨[0,1,2,3,4,5]⟩],.agg ⟨[7,8,9]⟩)]
theorem e2:bV (at' 39 ew nK body a6)=some (.tuple ⟨[.agg ⟨[16,17,18]⟩,.bool true]⟩):=aw
@[reducible] noncomputable def cl (b:bF) (i:Int):List U:=[I b.1,I b.2.1,I b.2.2.1,I b.2.2.2.1,I b.2.2.2.2.1,I b.2.2.2.2.2,I i,I (bu b).1,I (bu b).2.1,I (bu b).2.2,I ((bu b).1*(bu b).2.1),I (((bu b).1*(bu b).2.1)*(bu b).2.2),I (i/(bu b).1),I (i%(bu b).1),I ((i/(bu b).1)%(bu b).2.1),I ((i/(bu b).1)/(bu b).2.1),I (b.1+(i%(bu b).1)),I (b.2.1+((i/(bu b).1)%(bu b).2.1)),I (b.2.2.1+((i/(bu b).1)/(bu b).2.1))]
theorem any (W:au) (b:bF) (i:Int) (ad:okB b):Calls Tryz.prog 105 #[X.val b,I i] W λe w'=>e= .returned (.tuple #[P.val (dV b i),.bool (decide (0<=i/\i<dZ b))])/\ch W.heap.size W w':=by
 refine kH (cl b i) body a6 N [.agg ⟨[aj 0,aj 1,aj 2,aj 3,aj 4,aj 5]⟩,aj 6] Tryz.func105 λa ai=> ?_
 letI:=du ai;have aA:=bW.qs W;have gw: -1048575<=b.1/\b.1<=1048575/\ -1048575<=b.2.1/\b.2.1<=1048575/\ -1048575<=b.2.2.1/\b.2.2.1<=1048575/\ -1048575<=b.2.2.2.1/\b.2.2.2.1<=1048575/\ -1048575<=b.2.2.2.2.1/\b.2.2.2.2.1<=1048575/\ -1048575<=b.2.2.2.2.2/\b.2.2.2.2.2<=1048575:=ad;have bG:=xS ad;have aC:=Pr ad;by_cases aJ:i<0
 ·refine bO cq [] (ah bD bc) bd ?_ ai
  exact bT bk λw2 br=>(by (rw[Ps (λq=>by have aE:=q.2;unfold dZ at aE;omega),di (λq:0<=i/\i<dZ b=>by have aE:=q.2;unfold dZ at aE;omega)];rfl))
 ·by_cases h1:(((bu b).1*(bu b).2.1)*(bu b).2.2)<=i
  ·refine bO c4 jH (ah a8 (ah (aR.bi J J J J J J (oB rfl ao ao)) (ah (aR.bi J J J J J J (oB rfl ao ao)) (ah bD bc)))) (cz (JK J J J J ad) bd) ?_ ai
   exact bT e1 λw2 br=>(by (rw[Ps (λq=>by have aE:=q.2;unfold dZ at aE;omega),di (λq:0<=i/\i<dZ b=>by have aE:=q.2;unfold dZ at aE;omega)];rfl))
  ·refine bO ew nK (ah a8 (ah (aR.bi J J J J J J (oB rfl ao ao)) (ah (aR.bi J J J J J J (oB rfl ao ao)) (ah a8 (ah (aR.quo (a:=i) (b:=(bu b).1) ⟨ao,ao⟩ (by (have je:=qH (i:=i) ad ao bB;omega)) J J J J J J) (ah (aR.rem (a:=i) (b:=(bu b).1) ⟨ao,ao⟩ (by (have je:=qH (i:=i) ad ao bB;omega)) J J J J J J) (ah (aR.rem (a:=(i/(bu b).1)) (b:=(bu b).2.1) ⟨by (have je:=qH (i:=i) ad ao bB;omega),by (have je:=qH (i:=i) ad ao bB;omega)⟩ (by (have je:=qH (i:=i) ad ao bB;omega)) J J J J J J) (ah (aR.quo (a:=(i/(bu b).1)) (b:=(bu b).2.1) ⟨by (have je:=qH (i:=i) ad ao bB;omega),by (have je:=qH (i:=i) ad ao bB;omega)⟩ (by (have je:=qH (i:=i) ad ao bB;omega)) J J J J J J) (ah (aR.bi J J J J J J (oB rfl (by (have je:=qH (i:=i) ad ao bB;omega)) (by (have je:=qH (i:=i) ad ao bB;omega)))) (ah (aR.bi J J J J J J (oB rfl (by (have je:=qH (i:=i) ad ao bB;omega)) (by (have je:=qH (i:=i) ad ao bB;omega)))) (ah (aR.bi J J J J J J (oB rfl (by (have je:=qH (i:=i) ad ao bB;omega)) (by (have je:=qH (i:=i) ad ao bB;omega)))) bc))))))))))) (cz (JK J J J J ad) bd) ?_ ai
   exact bT e2 λw2 br=>(by (rw[Wt ao bB,gU (show 0<=i/\i<dZ b from ⟨ao,by unfold dZ;omega⟩)];exact ahg J J J))
end PH
end AE
namespace AE
namespace WR
noncomputable def body:Code:=(Tryz.f106.body).getD .skip
def N:Nat:=9
noncomputable abbrev bV:=gu Tryz.prog Tryz.f106
def a6:b6:={sl:=dn [(1,1),(0,0)],ms:=[],A:=start}
def cq:bC:=[(.bin .lss 3 1 (I 0),.bool true)]
theorem bk:bV (at' 9 cq [] body a6)=some (I 16):=aw
def c4:bC:=[(.bin .lss 3 1 (I 0),.bool false),
 (.len #[29] 3 0,2),
 (.bin .geq 3 1 2,.bool true)]
theorem e1:bV (at' 9 c4 [] body a6)=some (I 16):=aw
def ew:bC:=[(.bin .lss 3 1 (I 0),.bool false),
 (.len #[29] 3 0,2),
 (.bin .geq 3 1 2,.bool false),
 (.cP 29 0 1,3),
 (.bp 66 3,.agg ⟨[4,5,6,7,8,9,10,11]⟩)]
theorem e2:bV (at' 9 ew [] body a6)=some 8:=aw
@[reducible] noncomputable def cl (l:List cr) (fC:dA) (fR:Nat) (cell:Int):List U:=[bI fC l fR,I cell,I ((l.length:Nat):Int),iS (bI fC l fR) ((cell).toNat*8),cp (l.hs ((cell).toNat)).1,.bool (l.hs ((cell).toNat)).2.1,.bool (l.hs ((cell).toNat)).2.2.1,.bool (l.hs ((cell).toNat)).2.2.2.1,I (l.hs ((cell).toNat)).2.2.2.2.1,I (l.hs ((cell).toNat)).2.2.2.2.2.1,I (l.hs ((cell).toNat)).2.2.2.2.2.2.1,I (l.hs ((cell).toNat)).2.2.2.2.2.2.2]
theorem any (W:au) {jm:U} {l:List cr} (hl:b7 (aG W) 8 hA jm l) (cell:Int):Calls Tryz.prog 106 #[jm,I cell] W λe w'=>e= .returned (I (dz l cell).2.2.2.2.1)/\ch W.heap.size W w':=by
 obtain⟨fC,fR,rfl⟩:=hl.slice;refine kH (cl l fC fR cell) body a6 N [aj 0,aj 1] Tryz.func106 λa ai=> ?_
 letI:=du ai;have aA:=bW.qs W;by_cases aJ:cell<0
 ·refine bO cq [] (ah bD bc) bd ?_ ai
  exact bT bk λw2 br=>(by (rw[CQ ao];rfl))
 ·by_cases h1:((l.length:Nat):Int)<=cell
  ·refine bO c4 [] (ah a8 (ah (fW (hl.mono aA.ext) k9) (ah bD bc))) bd ?_ ai
   exact bT e1 λw2 br=>(by (rw[CQ ao];rfl))
  ·refine bO ew [] (ah a8 (ah (fW (hl.mono aA.ext) k9) (ah a8 (ah (aR.EH (hl.mono aA.ext) (show (cell).toNat<l.length by omega) J J J k9 pH rfl (EO ao) rfl) (ah (aR.AM (hl.mono aA.ext) (rM ((cell).toNat)) J J AV pH J J J) bc))))) bd ?_ ai
   exact bT e2 λw2 br=>(by (rw[Ny ao ao];rfl))
end WR
namespace WS
noncomputable def body:Code:=(Tryz.f108.body).getD .skip
def N:Nat:=9
noncomputable abbrev bV:=gu Tryz.prog Tryz.f108
def a6:b6:={sl:=dn [(1,1),(0,0)],ms:=[],A:=start}
def cq:bC:=[(.bin .lss 3 1 (I 0),.bool true)]
theorem bk:bV (at' 9 cq [] body a6)=some (.agg ⟨[I 0,I 0,I 0]⟩):=aw
def c4:bC:=[(.bin .lss 3 1 (I 0),.bool false),
 (.len #[29] 3 0,2),
 (.bin .geq 3 1 2,.bool true)]
theorem e1:bV (at' 9 c4 [] body a6)=some (.agg ⟨[I 0,I 0,I 0]⟩):=aw
def ew:bC:=[(.bin .lss 3 1 (I 0),.bool false),
 (.len #[29] 3 0,2),
 (.bin .geq 3 1 2,.bool false),
 (.cP 29 0 1,3),
 (.bp 66 3,.agg ⟨[4,5,6,7,8,9,10,11]⟩)]
theorem e2:bV (at' 9 ew [] body a6)=some (.agg ⟨[9,10,11]⟩):=aw
@[reducible] noncomputable def cl (l:List cr) (fC:dA) (fR:Nat) (cell:Int):List U:=[bI fC l fR,I cell,I ((l.length:Nat):Int),iS (bI fC l fR) ((cell).toNat*8),cp (l.hs ((cell).toNat)).1,.bool (l.hs ((cell).toNat)).2.1,.bool (l.hs ((cell).toNat)).2.2.1,.bool (l.hs ((cell).toNat)).2.2.2.1,I (l.hs ((cell).toNat)).2.2.2.2.1,I (l.hs ((cell).toNat)).2.2.2.2.2.1,I (l.hs ((cell).toNat)).2.2.2.2.2.2.1,I (l.hs ((cell).toNat)).2.2.2.2.2.2.2]
theorem any (W:au) {jm:U} {l:List cr} (hl:b7 (aG W) 8 hA jm l) (cell:Int):Calls Tryz.prog 108 #[jm,I cell] W λe w'=>e= .returned (.agg ⟨[I (dz l cell).2.2.2.2.2.1,I (dz l cell).2.2.2.2.2.2.1,I (dz l cell).2.2.2.2.2.2.2]⟩)/\ch W.heap.size W w':=by
 obtain⟨fC,fR,rfl⟩:=hl.slice;refine kH (cl l fC fR cell) body a6 N [aj 0,aj 1] Tryz.func108 λa ai=> ?_
 letI:=du ai;have aA:=bW.qs W;by_cases aJ:cell<0
 ·refine bO cq [] (ah bD bc) bd ?_ ai
  exact bT bk λw2 br=>(by (rw[CQ ao];rfl))
 ·by_cases h1:((l.length:Nat):Int)<=cell
  ·refine bO c4 [] (ah a8 (ah (fW (hl.mono aA.ext) k9) (ah bD bc))) bd ?_ ai
   exact bT e1 λw2 br=>(by (rw[CQ ao];rfl))
  ·refine bO ew [] (ah a8 (ah (fW (hl.mono aA.ext) k9) (ah a8 (ah (aR.EH (hl.mono aA.ext) (show (cell).toNat<l.length by omega) J J J k9 pH rfl (EO ao) rfl) (ah (aR.AM (hl.mono aA.ext) (rM ((cell).toNat)) J J AV pH J J J) bc))))) bd ?_ ai
   exact bT e2 λw2 br=>(by (rw[Ny ao ao];rfl))
end WS
end AE
section
noncomputable section
namespace AE
@[reducible] def zD (e:bN) (k:Nat):bN:={e with u:={e.u with bm:=lU e.u.bm e.u.waits k,waits:=mF e.u.waits k}}
@[reducible] def ahR (e:bN) (k:Nat) (old:bA):bN:={e with u:={e.u with bz:=e.u.bz++[(k,old)],gone:=e.u.gone++[k],ar:=e.u.ar.set k (uK old (e.u.ar.getD k default))}}
namespace PI
def t:bs:=
.o (.dR 0) 2 1 []<|
.o (.cu 76 2 11) 3 1 [23,30,1]<|
.o (.bp 30 3) 4 1 [1]<|
.o (.cP 30 4 1) 5 1 [0,4,1]<|
.o (.bp 4 5) 6 1 [1]<|
.o (.un .not 6) 7 1 []<|
.c6 7 (
 .o (.dR 0) 8 1 []<|
 .o (.cu 76 8 11) 9 1 [23,30,1]<|
 .o (.bp 30 9) 10 1 [1]<|
 .o (.cP 30 10 1) 11 1 [0,4,1]<|
 .st 4 11 (.bool true)<|
 .o (.dR 0) 12 1 []<|
 .o (.cu 76 12 10) 13 1 [22,74,1]<|
 .sz [1] 1 1<|
 .call 59 [13,14] (.tuple ⟨[]⟩) 0<|
 .ret (.tuple ⟨[]⟩)) (
 .ret (.tuple ⟨[]⟩))
theorem dw:fJ Tryz.prog 32 {nF:=[59]} [0,1] 2=some t:=gE aw
theorem any {W:au} {g:Nat} {A:dh} {e:bN} (aA:b_ (aG W) (b3 (b1 g A e))) (k:Nat) (ag:k<e.u.waits.length) (hl:e.u.bm.length<=400000):
  gY cw 32 [b2 g,I (k:Nat)] W (b1 g A e) c_ (λ_=> .tuple #[]) λy=>b1 g {A with s:=y} (zD e k):=by
 refine kG (ro:=[]) mixed dw [b2 g,I (k:Nat)] aA fB.none ?_;unfold t;refine bK ?_;refine Bn rfl (λh=> ?_) λh=> ?_
 ·have hw:¬e.u.waits.getD k default=true:=by simpa using h
  refine bK ?_;refine xM (K:=h7) (l:=e.u.waits) (j:=k) true J J gO rfl (λ_ _=>rfl) ?_;refine bK ?_;refine Pe tK [k] rfl (λ_=>j7) λb=> ?_
  refine il (dq:=b1 g A {e with u:={e.u with waits:=e.u.waits.set k true}}++[aF.red tK (.slice (some ⟨b,0,none⟩) 1 1) [k]]) (L':=λy=>b1 g {A with s:=y} {e with u:={e.u with waits:=e.u.waits.set k true,bm:=e.u.bm++[k]}}++[aF.red tK (.slice (some ⟨b,0,none⟩) 1 1) [k]]) [0,1,2,3,4,5,6,7,8,9,10,11,12] (λ_=>[]) (λw hw aA=>WJ.any (lx:=[k]) aA (by show e.u.bm.length+1<=_;omega)) λy=> ?_
  refine oO (λM bj=> ?_) ⟨y,rfl,rfl⟩;show bW 0 _ _ M (b3 (b1 g {A with s:=y} (zD e k)));unfold zD;rw[U8 hw,U' hw];exact bj.pre
 ·refine e3 ⟨A.s,rfl,?_⟩
  have hw:e.u.waits.getD k default=true:=by simpa using h
  unfold zD;rw[U7 hw,U9 hw]
end PI
end AE
end
end
section
noncomputable section
namespace AE
abbrev i':aH:=85
def sM (x:bA) (i:Nat) (v:Int):bA:=pJ λc=>if c=i then v else bL x c
theorem xW {x:bA} {i:Nat} (h:i<4):(ck x)[0+i*1]? =some (I (bL x i)):=by
 match i,h with
 |0,_=>rfl
 |1,_=>rfl
 |2,_=>rfl
 |3,_=>rfl
theorem JL {x:bA} {i:Nat} (h:i<4) (v:Int):ck (sM x i v)=(ck x).set (0+i*1) (I v):=by
 match i,h with
 |0,_=>rfl
 |1,_=>rfl
 |2,_=>rfl
 |3,_=>rfl
theorem ahS {x:bA} {i:Nat} (h:i<4):(ck x)[i]? =some (I (bL x i)):=by
 have:=xW (x:=x) h
 rwa [Nat.zero_add,Nat.mul_one] at this
theorem ahT {old x:bA} {i:Nat} (h:0<bL old i):sM (qx i old x) i 0=qx (i+1) old x:=by
 refine bA.ext' λc al=> ?_
 unfold sM qx;rw[h0 al,h0 al,h0 al];by_cases af:c=i
 ·subst af;rw[aN rfl,aN ⟨ao,h⟩]
 ·rw[aO af]
  by_cases hl:c<i/\0<bL old c
  ·rw[aN hl,aN ⟨ao,hl.2⟩]
  ·rw[aO hl,aO (λq=>hl ⟨ao,q.2⟩)]
theorem ahU {old x:bA} {i:Nat} (h:¬0<bL old i):qx (i+1) old x=qx i old x:=by
 refine bA.ext' λc al=> ?_
 unfold qx;rw[h0 al,h0 al];by_cases hl:c<i/\0<bL old c
 ·rw[aN hl,aN ⟨ao,hl.2⟩]
 ·rw[aO hl,aO (λq=>hl ⟨(by rcases Nat.lt_or_ge c i with q1|q1;exact q1;exact absurd q.2 (by rw[show c=i by omega];exact h)),q.2⟩)]
@[reducible] def JM (e:bN) (k:Nat) (old:bA) (i:Nat):bN:={e with u:={e.u with bz:=e.u.bz++[(k,old)],gone:=e.u.gone++[k],ar:=e.u.ar.set k (qx i old (e.u.ar.getD k default))}}
namespace PJ
def t:bs:=
.pc 85 (.agg ⟨[2,3,4,5]⟩)<|
.o (.dR 0) 7 1 []<|
.o (.cu 76 7 8) 8 1 [20,72,1]<|
.o (.bp 85 6) (.agg ⟨h5 4 9⟩) 4 [4]<|
.sz [1,9,10,11,12] 1 1<|
.call 107 [8,13] (.tuple ⟨[]⟩) 0<|
.o (.dR 0) 14 1 []<|
.o (.cu 76 14 9) 15 1 [21,26,1]<|
.o (.bp 26 15) 16 1 [1]<|
.uR 26 16 [1]<|
.o (.dR 0) 18 1 []<|
.o (.cu 76 18 9) 19 1 [21,26,1]<|
.st 26 19 17<|
.loop [I 0] 1<|
.o (.bin .lss 3 20 (I 4)) 21 1 []<|
.c6 21 (
 .o (.cP 85 6 20) 22 1 [1,4,3,1]<|
 .o (.bp 3 22) 23 1 [1]<|
 .o (.bin .gtr 3 23 (I 0)) 24 1 []<|
 .c6 24 (
  .o (.dR 0) 25 1 []<|
  .o (.cu 76 25 5) 26 1 [17,51,1]<|
  .o (.bp 51 26) 27 1 [1]<|
  .o (.cP 51 27 1) 28 1 [0,85,4]<|
  .o (.cP 85 28 20) 29 1 [1,4,3,1]<|
  .st 3 29 (I 0)<|
  .o (.bin .add 3 20 (I 1)) 30 1 []<|
  .back [30]) (
  .o (.bin .add 3 20 (I 1)) 25 1 []<|
  .back [25])) (
 .gJ<|
 .ret (.tuple ⟨[]⟩))
theorem dw:fJ Tryz.prog 71 {nF:=[107],marks:=[85]} [0,1,.agg ⟨[2,3,4,5]⟩] 6=some t:=gE aw
theorem any {W:au} {g:Nat} {A:dh} {e:bN} (aA:b_ (aG W) (b3 (b1 g A e))) (k:Nat) (old:bA) (ag:k<e.u.ar.length) (h1:e.u.bz.length<=400000) (ae:e.u.gone.length<=400000):
  gY cw 71 [b2 g,I (k:Nat),.agg ⟨ck old⟩] W (b1 g A e) (c_×c_) (λ_=> .tuple #[]) λy=>b1 g {A with o:=y.1,g:=y.2} (ahR e k old):=by
 refine kG (ro:=[]) mixed dw [b2 g,I (k:Nat),I old.1,I old.2.1,I old.2.2.1,I old.2.2.2] aA fB.none ?_;unfold t;refine Bo (cs:=ck old) J J (λb=>j7) λb=> ?_
 refine bK ?_;refine sG (c:=ck old) rfl has J J ik ?_;refine Pe o6 [(k,old)] rfl (λ_=>j7) λjY=> ?_
 refine il (dq:=b1 g A e++[aF.red o6 (.slice (some ⟨jY,0,none⟩) 1 1) [(k,old)]]) (L':=λy=>b1 g {A with o:=y} {e with u:={e.u with bz:=e.u.bz++[(k,old)]}}++[aF.box b i' (ck old),aF.red o6 (.slice (some ⟨jY,0,none⟩) 1 1) [(k,old)]]) [0,1,2,3,4,5,6,7,8,9,10,11,13] (λ_=>[]) (λw hw aA=>WL.any (lx:=[(k,old)]) aA (by show e.u.bz.length+1<=_;omega)) λy=> ?_
 refine bK ?_;refine Pc (K:=tK) (l:=e.u.gone) [k] rfl (λa c=>gO) rfl (λa c=> ?_) (Di (by show e.u.gone.length+1<=_;omega)) (by show (e.u.gone.length+1)*8<=_;omega);refine bK ?_;refine u1 Nat (λi=>[I (i:Nat)]) (λi=>b1 g {A with o:=y,g:=(a,c)} (JM e k old i)++[aF.box b i' (ck old),aF.red o6 (.slice (some ⟨jY,0,none⟩) 1 1) [(k,old)]]) (λi=>i<=4) (λi=>4-i) 0 rfl ?_ ao (λi af=> ?_)
 ·show _=b1 g _ {e with u:={e.u with bz:=e.u.bz++[(k,old)],gone:=e.u.gone++[k],ar:=e.u.ar.set k (qx 0 old (e.u.ar.getD k default))}}++_
  rw[afn,Va ag];rfl
 refine bK ?_;refine fV rfl (λbE=> ?_) λbE=> ?_
 ·have lg:i<4:=by omega
  refine bK ?_;refine nI (u:=I (bL old i)) rfl has (xW lg) ?_;have nn:k<(e.u.ar.set k (qx i old (e.u.ar.getD k default))).length:=by rw[List.length_set];exact ag
  refine bK ?_;refine fV rfl (λhp=> ?_) λhp=> ?_
  ·refine bK ?_
   refine xM (K:=dk) (l:=e.u.ar.set k (qx i old (e.u.ar.getD k default))) (j:=k) (o:=0+i*1) (sM (qx i old (e.u.ar.getD k default)) i 0) J J gO rfl (λz bG=> ?_) ?_ (hj:=nn) (ho:=by show 0+i*1<4;omega)
   ·rw[List.getElem?_set,aN rfl,aN ag,cx] at bG
    subst bG;exact JL lg 0
   refine bK ?_;refine ng (i+1) rfl ?_ ao ao;rw[List.set_set,ahT hp];rfl
  ·refine bK ?_
   refine ng (i+1) rfl ?_ ao ao;show _=b1 g _ (JM e k old (i+1))++_;unfold JM;rw[ahU hp]
 ·refine bK ?_
  obtain rfl:i=4:=by omega
  refine oO (λM bj=> ?_) ⟨(y,(a,c)),rfl,rfl⟩;unfold JM at bj;rw[afo] at bj;exact bj.pick PF rfl
end PJ
end AE
end
end
section
noncomputable section
namespace AE
abbrev sN:aH:=87
namespace PK
def t:bs:=
.o (.dR 0) 2 1 []<|
.o (.cu 76 2 4) 3 1 [16,29,1]<|
.o (.bp 29 3) 4 1 [1]<|
.o (.cu 76 2 1) 5 1 [7,28,7]<|
.o (.cu 28 5 1) 6 1 [6,26,1]<|
.o (.bp 26 6) 7 1 [1]<|
.o (.cP 26 7 1) 8 1 [0,3,1]<|
.o (.bp 3 8) 9 1 [1]<|
.c 106 [4,9] 10 1<|
.ret 10
theorem dw:fJ Tryz.prog 69 {} [0,1] 2=some t:=gE aw
theorem any {W:au} {g:Nat} {A:dh} {e:bN} (aA:b_ (aG W) (b3 (b1 g A e))) (k:Nat) (ag:k<e.u.lit.length):
  gY cw 69 [b2 g,I (k:Nat)] W (b1 g A e) Unit (λ_=>I (dz e.table (e.u.lit.getD k default)).2.2.2.2.1) λ_=>b1 g A e:=by
 refine kG (ro:=[]) mixed dw [b2 g,I (k:Nat)] aA fB.none ?_;unfold t;refine bK ?_;refine iY (v:=I (dz e.table (e.u.lit.getD k default)).2.2.2.2.1) (λw hw=>WR.any w ((iO.arr (K:=mo) (l:=e.table) has).at hw) _) ?_;exact e3 ⟨(),rfl,rfl⟩
end PK
namespace WT
def t:bs:=
.o (.bp 34 2) 3 1 [1]<|
.call 32 [3,0] (.tuple ⟨[]⟩) 0<|
.ret (.tuple ⟨[]⟩)
theorem dw:fJ Tryz.prog 74 {nF:=[32]} [0,1,2] 3=some t:=gE aw
theorem any {W:au} {g dv:Nat} {A:dh} {e:bN} (aA:b_ (aG W) (b3 (b1 g A e++[aF.box dv fA [b2 g]]))) (k:Nat) (e8:Int) (ag:k<e.u.waits.length) (hl:e.u.bm.length<=400000):
  gY cw 74 [I (k:Nat),I e8,.pointer (some ⟨dv,0,none⟩)] W (b1 g A e++[aF.box dv fA [b2 g]]) c_ (λ_=> .tuple #[]) λy=>b1 g {A with s:=y} (zD e k)++[aF.box dv fA [b2 g]]:=by
 refine kG (ro:=[]) mixed dw [I (k:Nat),I e8,.pointer (some ⟨dv,0,none⟩)] aA fB.none ?_;unfold t;refine bK ?_;refine sH (dq:=b1 g A e) (λ_=>[]) (λw hw aA=>PI.any aA k ag hl) λy=> ?_
 exact e3 ⟨y,rfl,rfl⟩
end WT
end AE
end
end
section
noncomputable section
namespace AE
theorem WU {x:ax} {i:Nat} (h:i<4):(kg x)[0+1+i*1]? =some (I (bL x.2 i)):=by
 match i,h with
 |0,_=>rfl
 |1,_=>rfl
 |2,_=>rfl
 |3,_=>rfl
abbrev xX (x:bA):Prop:=∀c,c<4->0<=bL x c/\bL x c<=15
def wx (F:Int) (old x:bA) (e8:Int) (i:Nat):bA:=pJ λc=>if c<i then Df F old x e8 c else 0
theorem ahV {F:Int} {old x:bA} {e8:Int} {i:Nat} {v:Int} (h:Df F old x e8 i=v):sM (wx F old x e8 i) i v=wx F old x e8 (i+1):=by
 refine bA.ext' λc al=> ?_
 unfold sM wx;rw[h0 al,h0 al,h0 al];by_cases af:c=i
 ·subst af;rw[aN rfl,aN ao,h]
 ·rw[aO af]
  by_cases hl:c<i
  ·rw[aN hl,aN ao]
  ·rw[aO hl,aO ao]
theorem PL {F:Int} {old x:bA} {e8:Int} {i:Nat} (h:Df F old x e8 i=0):wx F old x e8 (i+1)=wx F old x e8 i:=by
 refine bA.ext' λc al=> ?_
 unfold wx;rw[h0 al,h0 al];by_cases af:c=i
 ·subst af;rw[aN ao,aO ao,h]
 ·by_cases hl:c<i
  ·rw[aN hl,aN ao]
  ·rw[aO hl,aO ao]
theorem ahW {F:Int} {old x:bA} {e8:Int}:wx F old x e8 4=zy F old x e8:=by
 refine bA.ext' λc al=> ?_
 unfold wx zy;rw[h0 al,h0 al,aN al]
@[reducible] def kj (e:bN) (k:Nat):Int:=(dz e.table (e.u.lit.getD k default)).2.2.2.2.1
@[reducible] def PM (e:bN) (k:Nat) (O:bA):bN:={e with u:={e.u with bz:=Bs e.u.bz k O,gone:=xT e.u.gone k O,ar:=zz e.u.ar k O}}
@[reducible] def F' (e:bN) (x:ax) (k:Nat) (e8:Int):bN:=PM e k (zy (kj e k) x.2 (e.u.ar.getD k default) e8)
namespace WV
def t:bs:=
.o (.bp 34 2) 4 1 [1]<|
.call 69 [4,0] 5 1<|
.nE 85<|
.o (.bp 34 2) 7 1 [1]<|
.o (.dR 7) 8 1 []<|
.o (.cu 76 8 5) 9 1 [17,51,1]<|
.o (.bp 51 9) 10 1 [1]<|
.o (.cP 51 10 0) 11 1 [0,85,4]<|
.o (.bp 85 11) (.agg ⟨h5 4 12⟩) 4 [4]<|
.loop [I 0] 1<|
.o (.bin .lss 3 16 (I 4)) 17 1 []<|
.c6 17 (
 .o (.eA 85 (.agg ⟨[12,13,14,15]⟩) 16) 18 1 [1,4,3,1]<|
 .o (.cu 87 3 1) 19 1 [1,85,4]<|
 .o (.cP 85 19 16) 20 1 [1,4,3,1]<|
 .o (.bp 3 20) 21 1 [1]<|
 .o (.bin .gtr 3 21 (I 0)) 22 1 []<|
 .c6 22 (
  .o (.bin .gtr 3 18 (I 0)) 23 1 []<|
  .c6 23 (
   .o (.cu 87 3 1) 24 1 [1,85,4]<|
   .o (.cP 85 24 16) 25 1 [1,4,3,1]<|
   .o (.bp 3 25) 26 1 [1]<|
   .o (.bin .lss 3 1 (I 0)) 27 1 []<|
   .c 70 [26,5,16,27] 28 1<|
   .o (.bin .eql 3 18 28) 29 1 []<|
   .c6 29 (
    .o (.cP 85 6 16) 30 1 [1,4,3,1]<|
    .st 3 30 18<|
    .o (.bin .add 3 16 (I 1)) 31 1 []<|
    .back [31]) (
    .o (.bin .add 3 16 (I 1)) 30 1 []<|
    .back [30])) (
   .o (.bin .add 3 16 (I 1)) 24 1 []<|
   .back [24])) (
  .o (.bin .add 3 16 (I 1)) 23 1 []<|
  .back [23])) (
 .gJ<|
 .o (.bp 85 6) (.agg ⟨h5 4 18⟩) 4 [4]<|
 .o (.bin .neq 85 (.agg ⟨[18,19,20,21]⟩) (.agg ⟨[I 0,I 0,I 0,I 0]⟩)) 22 1 []<|
 .c6 22 (
  .o (.bp 34 2) 23 1 [1]<|
  .o (.bp 85 6) (.agg ⟨h5 4 24⟩) 4 [4]<|
  .call 71 [23,0,.agg ⟨[24,25,26,27]⟩] (.tuple ⟨[]⟩) 0<|
  .ret (.tuple ⟨[]⟩)) (
  .ret (.tuple ⟨[]⟩)))
theorem dw:fJ Tryz.prog 68 {nF:=[71,69],marks:=[85]} [0,1,2,3] 4=some t:=gE aw
theorem any {W:au} {g dv nL:Nat} {A:dh} {e:bN} {x:ax} (aA:b_ (aG W) (b3 (b1 g A e++[aF.box dv fA [b2 g],aF.box nL sN (kg x)]))) (k:Nat) (e8:Int) (ag:k<e.u.ar.length) (nn:k<e.u.lit.length) (h1:e.u.bz.length<=300000) (ae:e.u.gone.length<=300000) (ak:xX x.2) (cF:1<=kj e k/\kj e k<=16):
  gY cw 68 [I (k:Nat),I e8,.pointer (some ⟨dv,0,none⟩),.pointer (some ⟨nL,0,none⟩)] W (b1 g A e++[aF.box dv fA [b2 g],aF.box nL sN (kg x)]) (c_×c_) (λ_=> .tuple #[]) λy=>b1 g {A with o:=y.1,g:=y.2} (F' e x k e8)++[aF.box dv fA [b2 g],aF.box nL sN (kg x)]:=by
 refine kG (ro:=[]) mixed dw [I (k:Nat),I e8,.pointer (some ⟨dv,0,none⟩),.pointer (some ⟨nL,0,none⟩)] aA fB.none ?_;unfold t;refine bK ?_;refine sH (dq:=b1 g A e) (λ_=>[I (kj e k)]) (λw hw aA=>PK.any aA k nn) λ_=> ?_
 refine wi (z:= .agg ⟨ck z4⟩) (ck z4) aw rfl (λb=>j7) λb=> ?_
 refine bK ?_;refine qB (K:=dk) (l:=e.u.ar) (j:=k) (c:=ck (e.u.ar.getD k default)) J J J ik ?_;generalize lK:e.u.ar.getD k default=gJ;generalize aP:kj e k=F at cF;refine u1 Nat (λi=>[I (i:Nat)]) (λi=>b1 g A e++[aF.box dv fA [b2 g],aF.box nL sN (kg x),aF.box b i' (ck (wx F x.2 gJ e8 i))]) (λi=>i<=4) (λi=>4-i) 0 J J ao (λi af=> ?_);refine bK ?_;refine fV rfl (λbE=> ?_) λbE=> ?_
 ·have lg:i<4:=by omega
  refine Wf (cs:=ck gJ) (j:=i) J J (ahS lg) ?_;refine bK ?_;refine nI (u:=I (bL x.2 i)) rfl has (WU lg) ?_;refine bK ?_;refine fV rfl (λhp=> ?_) λhp=> ?_
  ·refine bK ?_
   refine fV rfl (λa1=> ?_) λa1=> ?_
   ·refine bK ?_
    refine nI (u:=I (bL x.2 i)) rfl has (WU lg) ?_;refine bK ?_;refine iY (v:=I (given (bL x.2 i) F i (decide (e8<0)))) (λw hw=>JJ.any w (bL x.2 i) F i (decide (e8<0)) (by have:=ak i lg;omega) (by have:=ak i lg;omega) ao ao) ?_;refine bK ?_;refine fV rfl (λhr=> ?_) λhr=> ?_
    ·refine bK ?_
     refine Wd (cs':=ck (wx F x.2 gJ e8 (i+1))) J J gO ?_ ?_ (by show 0+i*1<4;omega)
     ·rw[<-ahV (ahl hp a1 hr)]
      exact JL lg _
     refine bK ?_;exact ng (i+1) J J ao ao
    ·refine bK ?_
     refine ng (i+1) rfl ?_ ao ao;rw[PL (Pt λq=>hr q.2.2)]
   ·refine bK ?_
    refine ng (i+1) rfl ?_ ao ao;rw[PL (Pt λq=>a1 q.2.1)]
  ·refine bK ?_
   refine ng (i+1) rfl ?_ ao ao;rw[PL (Pt λq=>hp q.1)]
 ·refine bK ?_
  obtain rfl:i=4:=by omega
  rw[ahW];generalize cm:zy F x.2 gJ e8=O;refine sG (c:=ck O) rfl has J J ik ?_;refine Wg (b:=decide (O=z4)) J J ((Wu O z4).trans (by rw[Wv])) ?_;refine xJ rfl (λbG=> ?_) λbG=> ?_
  ·refine bK ?_
   refine sG (c:=ck O) rfl has J J ik ?_;refine sH (dq:=b1 g A e) (λ_=>[]) (λw hw aA=>PJ.any aA k O ag ao ao) λy=> ?_
   refine oO (λM bj=> ?_) ⟨y,rfl,rfl⟩;unfold F' PM;rw[lK,aP,cm];obtain⟨q1,aE,b9⟩:=ahk (l:=e.u.bz) (g:=e.u.gone) (li:=e.u.ar) (n:=k) bG;rw[q1,aE,b9];exact bj.pick [0,1,2,3,4,5,6,7,8,9,10,11,12,13] rfl
  ·refine oO (λM bj=> ?_) ⟨(A.o,A.g),rfl,rfl⟩
   unfold F' PM;rw[lK,aP,cm];obtain⟨q1,aE,b9⟩:=ahj (l:=e.u.bz) (g:=e.u.gone) (li:=e.u.ar) (n:=k) bG;rw[q1,aE,b9];exact bj.pick [0,1,2,3,4,5,6,7,8,9,10,11,12,13] rfl
end WV
end AE
end
end
section
noncomputable section
namespace AE
theorem By {b:bF} {p:dU} (ad:okB b) (h:cO p b):wm b p=((cc b p:Nat):Int):=by
 unfold cc;have:=(pe ad h).1;rw[JB h];have ae:=(pe ad h).2.2.1;have ay:=n' h;omega
def zE (j:Nat):Int:=if j=0 then -1 else 1
theorem ahX {j:Nat} (h:j<2):([I (-1),I 1]:List U)[j]? =some (I (zE j)):=by
 match j,h with
 |0,_=>rfl
 |1,_=>rfl
namespace Bz
def t (f:FuncId) (Dj:List U):bs:=
.o (.dR 0) 5 1 []<|
.o (.cu 76 5 1) 6 1 [7,28,7]<|
.o (.cu 28 6 0) 7 1 [0,25,6]<|
.o (.bp 25 7) (.agg ⟨h5 6 8⟩) 6 [6]<|
.c 105 [.agg ⟨[8,9,10,11,12,13]⟩,1] (.tuple ⟨[.agg ⟨[14,15,16]⟩,17]⟩) 4<|
.loop [I 0] 1<|
.o (.bin .lss 3 18 (I 3)) 19 1 []<|
.c6 19 (
 .loop [I 0] 1<|
 .o (.bin .lss 3 20 (I 2)) 21 1 []<|
 .c6 21 (
  .o (.eA 153 (.agg ⟨[I (-1),I 1]⟩) 20) 22 1 [1,2,3,1]<|
  .o (.bin .eql 3 18 (I 0)) 23 1 []<|
  .rD 23 (
   .o (.bin .add 3 14 22) 24 1 []<|
   .back [I 0,24,15,16]) (
   .o (.bin .eql 3 18 (I 1)) 24 1 []<|
   .c6 24 (
    .o (.bin .add 3 15 22) 25 1 []<|
    .back [I 0,14,25,16]) (
    .o (.bin .add 3 16 22) 25 1 []<|
    .back [22,14,15,25])) 4<|
  .o (.dR 0) 28 1 []<|
  .o (.cu 76 28 1) 29 1 [7,28,7]<|
  .o (.cu 28 29 0) 30 1 [0,25,6]<|
  .o (.bp 25 30) (.agg ⟨h5 6 31⟩) 6 [6]<|
  .c 57 [.agg ⟨[31,32,33,34,35,36]⟩,.agg ⟨[25,26,27]⟩] 37 1<|
  .o (.bin .geq 3 37 (I 0)) 38 1 []<|
  .c6 38 (
   .o (.dR 0) 39 1 []<|
   .o (.cu 76 39 3) 40 1 [15,30,1]<|
   .o (.bp 30 40) 41 1 [1]<|
   .o (.cP 30 41 37) 42 1 [0,4,1]<|
   .o (.bp 4 42) 43 1 [1]<|
   .c6 43 (
    .call f (37::24::Dj) (.tuple ⟨[]⟩) 0<|
    .o (.bin .add 3 20 (I 1)) 44 1 []<|
    .back [44]) (
    .o (.bin .add 3 20 (I 1)) 44 1 []<|
    .back [44])) (
   .o (.bin .add 3 20 (I 1)) 39 1 []<|
   .back [39])) (
  .gJ<|
  .o (.bin .add 3 18 (I 1)) 22 1 []<|
  .back [22])) (
 .gJ<|
 .ret (.tuple ⟨[]⟩))
theorem any {f:FuncId} {Dj lz:List U} {h:Ba} (az:fJ cw 67 h [0,1,.func (.func f) #[] ⟨Dj⟩] 5=some (t f Dj)) {c2 c3 p8:U} (j1:∀env n,look env n 2=c2->look env n 3=c3->look env n 4=p8->fU env n Dj=lz) (al:eV [c2,c3,p8]) (Et:∀v0 v1,fU [p8,c3,c2,v1,v0] 5 [0,1,.func (.func f) #[] ⟨Dj⟩]=[v0,v1,.func (.func f) #[] ⟨lz⟩])
  {W:au} {g:Nat} {y3 Z:Type} (oa:Z->y3->dh) (ma:y3->bN) (ob:Z->y3->List (aF cw)) (is:List Nat) (st:y3->Nat×Int->y3) (hS:y3) {b:bF} {sh:List Bool} {k:Nat} (ad:okB b) (ag:k<sh.length) (hl:sh.length=(dZ b).toNat)
  (WW:∀n,(ma ((c7 b sh k n).foldl st hS)).b=b) (es:∀n,(ma ((c7 b sh k n).foldl st hS)).u.bS=sh)
  (nU:∀n z w,n<6->b_ (aG w) (b3 (b1 g (oa z ((c7 b sh k n).foldl st hS)) (ma ((c7 b sh k n).foldl st hS))++ob z ((c7 b sh k n).foldl st hS)))->gY cw f (I (cc b (eN b k n):Nat)::I (oF n)::lz) w (b1 g (oa z ((c7 b sh k n).foldl st hS)) (ma ((c7 b sh k n).foldl st hS))++ob z ((c7 b sh k n).foldl st hS)) Z (λ_=> .tuple #[]) λpg=>b1 g (oa pg (st ((c7 b sh k n).foldl st hS) (cc b (eN b k n),oF n))) (ma (st ((c7 b sh k n).foldl st hS) (cc b (eN b k n),oF n)))++ob pg (st ((c7 b sh k n).foldl st hS) (cc b (eN b k n),oF n)))
  (hp:∀z d,pick (b3 (b1 g (oa z d) (ma d)++ob z d)) is=b3 (b1 g (oa z d) (ma d)++ob z d)) (ahY:∀z d pg nr,tH (b1 g (oa z d) (ma d)++ob z d) is (b1 g (oa pg nr) (ma nr)++ob pg nr)=b1 g (oa pg nr) (ma nr)++ob pg nr)
  (ij:∀z d,jU (b1 g (oa z d) (ma d)++ob z d).length is=true) (hle:∀z d,is.length<=(b1 g (oa z d) (ma d)++ob z d).length) (z0:Z) (aA:b_ (aG W) (b3 (b1 g (oa z0 hS) (ma hS)++ob z0 hS))):
  gY cw 67 [b2 g,I (k:Nat),.func (.func f) #[] ⟨lz⟩] W (b1 g (oa z0 hS) (ma hS)++ob z0 hS) Z (λ_=> .tuple #[]) λz=>b1 g (oa z ((c7 b sh k 6).foldl st hS)) (ma ((c7 b sh k 6).foldl st hS))++ob z ((c7 b sh k 6).foldl st hS):=by
 have bk:(c7 b sh k 0).foldl st hS=hS:=rfl;have aC:0<=((k:Nat):Int)/\((k:Nat):Int)<dZ b:=Pu ag hl;have xY:=FZ ad (k:Nat);refine kG (ro:=[]) mixed az [b2 g,I (k:Nat),c2,c3,p8] aA fB.none ?_ (Et _ _) (ho:=⟨rfl,rfl,al⟩);unfold t;refine bK ?_;refine sG (c:=u6 b) rfl has (by exact(congrArg u6 (WW 0)).symm) rfl ik ?_;refine qE [I (dV b (k:Nat)).1,I (dV b (k:Nat)).2.1,I (dV b (k:Nat)).2.2,.bool (decide (0<=((k:Nat):Int)/\((k:Nat):Int)<dZ b))] (λw _=>PH.any w b (k:Nat) ad) rfl ?_;refine u1 (Nat×Z) (λu=>[I (u.1:Nat)]) (λu=>b1 g (oa u.2 ((c7 b sh k (2*u.1)).foldl st hS)) (ma ((c7 b sh k (2*u.1)).foldl st hS))++ob u.2 ((c7 b sh k (2*u.1)).foldl st hS)) (λu=>u.1<=3) (λu=>3-u.1) (0,z0) J J (by show 0<=3;omega) (λu hu=> ?_);obtain⟨i,z⟩:=u;have hu:i<=3:=hu;dsimp only;refine bK ?_;refine fV rfl (λay=> ?_) λay=> ?_
 ·refine u1 (Nat×Z) (λu=>[I (u.1:Nat)]) (λu=>b1 g (oa u.2 ((c7 b sh k (2*i+u.1)).foldl st hS)) (ma ((c7 b sh k (2*i+u.1)).foldl st hS))++ob u.2 ((c7 b sh k (2*i+u.1)).foldl st hS)) (λu=>u.1<=2) (λu=>2-u.1) (0,z) J J (by show 0<=2;omega) (λv AL=> ?_)
  have bG:∃PN,PN=z:=⟨z,rfl⟩;obtain⟨PN,bG⟩:=bG;subst bG;obtain⟨j,z⟩:=v;have AL:j<=2:=AL;dsimp only;refine bK ?_;refine fV rfl (λae=> ?_) λae=> ?_
  ·have hj:j<2:=by omega
   have cy:2*i+j<6:=by omega
   have JN: -1<=zE j/\zE j<=1:=by unfold zE;split<;>omega
   refine Wf (cs:=[I (-1),I 1]) (j:=j) J J (ahX hj) ?_;refine bK ?_;refine Jv (Int×dU) (λu=>[I u.1,I u.2.1,I u.2.2.1,I u.2.2.2]) (λ_=>b1 g (oa z ((c7 b sh k (2*i+j)).foldl st hS)) (ma ((c7 b sh k (2*i+j)).foldl st hS))++ob z ((c7 b sh k (2*i+j)).foldl st hS)) (λu=>u=(oF (2*i+j),eN b k (2*i+j))) rfl (λaf=> ?_) (λaf=> ?_) (λu hu=> ?_)
   ·refine bK ?_
    refine xN (0,(dV b (k:Nat)).1+zE j,(dV b (k:Nat)).2.1,(dV b (k:Nat)).2.2) J J ?_;obtain rfl:i=0:=by omega
    match j,hj with
    |0,_=>rfl
    |1,_=>rfl
   ·refine bK ?_
    refine fV rfl (λJO=> ?_) λJO=> ?_
    ·refine bK ?_
     refine xN (0,(dV b (k:Nat)).1,(dV b (k:Nat)).2.1+zE j,(dV b (k:Nat)).2.2) J J ?_;obtain rfl:i=1:=by omega
     match j,hj with
     |0,_=>rfl
     |1,_=>rfl
    ·refine bK ?_
     refine xN (zE j,(dV b (k:Nat)).1,(dV b (k:Nat)).2.1,(dV b (k:Nat)).2.2+zE j) J J ?_;obtain rfl:i=2:=by omega
     match j,hj with
     |0,_=>rfl
     |1,_=>rfl
   ·subst hu
    dsimp only;have fF:=FY (b:=b) ag hl (eN b k (2*i+j));have alK:(cc b (eN b k (2*i+j)))<(ma ((c7 b sh k (2*i+j)).foldl st hS)).u.bS.length:=by rw[es];exact fF
    refine bK ?_;refine sG (c:=u6 b) rfl has (by exact(congrArg u6 (WW (2*i+j))).symm) rfl ik ?_;by_cases im:cO (eN b k (2*i+j)) b
    ·refine iY (v:=I (cc b (eN b k (2*i+j)):Nat)) (λw _=>by rw[<-By ad im];exact F9.any w b (eN b k (2*i+j)) ad) ?_
     refine bK ?_;refine fV rfl (λaJ=> ?_) λaJ=>absurd (Int.natCast_nonneg _) aJ
     refine bK ?_;refine Bn rfl (λav=> ?_) λav=> ?_
     ·have av:sh.getD (cc b (eN b k (2*i+j))) default=true:=by rw[<-es (2*i+j)];exact av
      refine il (v:=λ_=> .tuple #[]) (N:=λpg=>b1 g (oa pg (st ((c7 b sh k (2*i+j)).foldl st hS) (cc b (eN b k (2*i+j)),oF (2*i+j)))) (ma (st ((c7 b sh k (2*i+j)).foldl st hS) (cc b (eN b k (2*i+j)),oF (2*i+j))))++ob pg (st ((c7 b sh k (2*i+j)).foldl st hS) (cc b (eN b k (2*i+j)),oF (2*i+j)))) (dq:=b1 g (oa z ((c7 b sh k (2*i+j)).foldl st hS)) (ma ((c7 b sh k (2*i+j)).foldl st hS))++ob z ((c7 b sh k (2*i+j)).foldl st hS)) (L':=λpg=>b1 g (oa pg ((c7 b sh k (2*i+(j+1))).foldl st hS)) (ma ((c7 b sh k (2*i+(j+1))).foldl st hS))++ob pg ((c7 b sh k (2*i+(j+1))).foldl st hS)) is (λ_=>[]) (λw hw aA=>nU (2*i+j) z w cy aA) (λpg=> ?_) (ha:=by exact congrArg (λl=>I (cc b (eN b k (2*i+j)):Nat)::I (oF (2*i+j))::l) (j1 _ _ (by rfl) (by rfl) (by rfl))) (hL:=λpg=> ?_) (hp:=hp _ _) (ij:=ij _ _) (hl:=λpg=>hle _ _)
      ·refine bK ?_
       exact ng (u:=(j,z)) (j+1,pg) J J (by show j+1<=2;omega) (by show 2-(j+1)<2-j;omega)
      ·rw[ahY,show 2*i+(j+1)=2*i+j+1 by omega,Py ag hl cy im av,List.foldl_append]
       rfl
     ·have av:¬sh.getD (cc b (eN b k (2*i+j))) default=true:=by rw[<-es (2*i+j)];rw[show _=false from av];decide
      refine bK ?_;refine ng (u:=(j,z)) (j+1,z) rfl ?_ (by show j+1<=2;omega) (by show 2-(j+1)<2-j;omega);dsimp only;rw[show 2*i+(j+1)=2*i+j+1 by omega,Pz ag hl cy im av]
    ·refine iY (v:=I (-1)) (λw _=>by rw[<-FW im];exact F9.any w b (eN b k (2*i+j)) ad) ?_
     refine bK ?_;refine fV rfl (λaJ=>absurd aJ cv) λaJ=> ?_
     refine bK ?_;refine ng (u:=(j,z)) (j+1,z) rfl ?_ (by show j+1<=2;omega) (by show 2-(j+1)<2-j;omega);dsimp only;rw[show 2*i+(j+1)=2*i+j+1 by omega,PA ag hl cy im]
  ·refine bK ?_
   obtain rfl:j=2:=by omega
   exact ng (u:=(i,PN)) (i+1,z) J J (by show i+1<=3;omega) (by show 3-(i+1)<3-i;omega)
 ·refine bK ?_
  obtain rfl:i=3:=by omega
  exact e3 ⟨z,rfl,rfl⟩
end Bz
end AE
end
end
section
noncomputable section
namespace AE
@[reducible] def BA (e:bN) (s:List ax×List Nat×List bA):bN:={e with u:={e.u with bz:=s.1,gone:=s.2.1,ar:=s.2.2}}
theorem F_ (x:ax):∀(l:List (Nat×Int)) (e:bN),l.foldl (λe p=>F' e x p.1 p.2) e=BA e (lD e.table e.u.lit x.2 l (e.u.bz,e.u.gone,e.u.ar))
 |[],_=>rfl
 |p::l,e=>by
  rw[List.foldl_cons,F_ x l];rfl
theorem PO (table:List cr) (lit:List Int) (old:bA):∀(l:List (Nat×Int)) (s:List ax×List Nat×List bA),(lD table lit old l s).1.length<=s.1.length+l.length/\(lD table lit old l s).2.1.length<=s.2.1.length+l.length/\(lD table lit old l s).2.2.length=s.2.2.length
 |[],_=>⟨bY _,bY _,rfl⟩
 |p::l,s=>by
  obtain⟨q1,aE,b9⟩:=PO table lit old l (n_ table lit old s p);have cS:(n_ table lit old s p).1.length<=s.1.length+1:=Wx _ _ _;have dL:(n_ table lit old s p).2.1.length<=s.2.1.length+1:=ahm _ _ _;have fZ:(n_ table lit old s p).2.2.length=s.2.2.length:=ahn _ _ _;have e:lD table lit old (p::l) s=lD table lit old l (n_ table lit old s p):=rfl;rw[e,List.length_cons];exact⟨ao,ao,b9.trans fZ⟩
@[reducible] def JP (e:bN) (s:List Nat×List Bool):bN:={e with u:={e.u with bm:=s.1,waits:=s.2}}
theorem Ga:∀(l:List (Nat×Int)) (e:bN),l.foldl (λe p=>zD e p.1) e=JP e (rN l (e.u.bm,e.u.waits))
 |[],_=>rfl
 |p::l,e=>by
  rw[List.foldl_cons,Ga l];rfl
theorem WX:∀(l:List (Nat×Int)) (s:List Nat×List Bool),(rN l s).1.length<=s.1.length+l.length/\(rN l s).2.length=s.2.length
 |[],_=>⟨bY _,rfl⟩
 |p::l,s=>by
  obtain⟨q1,aE⟩:=WX l (lU s.1 s.2 p.1,mF s.2 p.1);have cS:=U_ s.1 s.2 p.1;have dL:=I4 s.2 p.1;have e:rN (p::l) s=rN l (lU s.1 s.2 p.1,mF s.2 p.1):=rfl;rw[e,List.length_cons];dsimp only at q1 aE;exact⟨ao,aE.trans dL⟩
theorem PQ (b:bF) (sh:List Bool) (k j:Nat):(c7 b sh k j).length<=j:=by
 unfold c7 wo;exact Nat.le_trans (List.length_filter_le _ _) (NP _ _ _ _ _)
theorem PR (a b c:Nat):eV [.pointer (some ⟨a,0,none⟩),.pointer (some ⟨b,0,none⟩),.pointer (some ⟨c,0,none⟩)]:=⟨rfl,rfl,rfl,trivial⟩
namespace WY
theorem dw:fJ cw 67 {nF:=[68],cells:=[(1039,1,0),(1039,1,1),(1039,1,2)],Fs:=[(39,[])]} [0,1,.func (.func 68) ⟨[]⟩ ⟨[2,3]⟩] 5=some (Bz.t 68 [2,3]):=gE aw
theorem any {W:au} {g dv nL:Nat} {A:dh} {e:bN} {x:ax} (aA:b_ (aG W) (b3 (b1 g A e++[aF.box dv fA [b2 g],aF.box nL sN (kg x)]))) (k:Nat) (ad:okB e.b) (ag:k<e.u.bS.length) (hl:e.u.bS.length=(dZ e.b).toNat) (jf:e.u.ar.length=e.u.bS.length) (Gb:e.u.lit.length=e.u.bS.length) (h1:e.u.bz.length<=200000) (ae:e.u.gone.length<=200000) (ak:xX x.2) (cF:∀n,n<e.u.bS.length->1<=kj e n/\kj e n<=16):
  gY cw 67 [b2 g,I (k:Nat),.func (.func 68) #[] ⟨[b2 dv,b2 nL]⟩] W (b1 g A e++[aF.box dv fA [b2 g],aF.box nL sN (kg x)]) (c_×c_) (λ_=> .tuple #[]) λy=>b1 g {A with o:=y.1,g:=y.2} (BA e (lD e.table e.u.lit x.2 (c7 e.b e.u.bS k 6) (e.u.bz,e.u.gone,e.u.ar)))++[aF.box dv fA [b2 g],aF.box nL sN (kg x)]:=by
 rw[<-F_];refine Bz.any dw (c2:=b2 dv) (c3:=b2 nL) (p8:=b2 dv) (lz:=[b2 dv,b2 nL]) (λenv n ae ay _=> ?_) (PR _ _ _) (λ_ _=>rfl) (λz (_:bN)=>{A with o:=z.1,g:=z.2}) (λe=>e) (λ_ _=>[aF.box dv fA [b2 g],aF.box nL sN (kg x)]) [0,1,2,3,4,5,6,7,8,9,10,11,12,13] (λe p=>F' e x p.1 p.2) e ad ag hl (λn=>by rw[F_]) (λn=>by rw[F_]) (λn z w cy aA=> ?_) (λ_ _=>rfl) (λ_ _ _ _=>FP (n:=14) J J) (λ_ _=>rfl) (λ_ _=>hJ rfl) (A.o,A.g) aA
 ·show [look env n 2,look env n 3]=_
  rw[ae,ay]
 ·have aq:=PQ e.b e.u.bS k n
  have hp:=FY (b:=e.b) ag hl (eN e.b k n);rw[F_] at aA ⊢;obtain⟨q1,aE,b9⟩:=PO e.table e.u.lit x.2 (c7 e.b e.u.bS k n) (e.u.bz,e.u.gone,e.u.ar);dsimp only at q1 aE b9;exact WV.any aA (cc e.b (eN e.b k n)) (oF n) (by show _<(lD e.table e.u.lit x.2 (c7 e.b e.u.bS k n) (e.u.bz,e.u.gone,e.u.ar)).2.2.length;rw[b9,jf];exact hp) (by show _<e.u.lit.length;rw[Gb];exact hp) (by show (lD e.table e.u.lit x.2 (c7 e.b e.u.bS k n) (e.u.bz,e.u.gone,e.u.ar)).1.length<=_;omega) (by show (lD e.table e.u.lit x.2 (c7 e.b e.u.bS k n) (e.u.bz,e.u.gone,e.u.ar)).2.1.length<=_;omega) ak (cF _ hp)
end WY
namespace WZ
theorem dw:fJ cw 67 {nF:=[74],cells:=[(1039,1,0),(1039,1,1),(1039,1,2)],Fs:=[(39,[])]} [0,1,.func (.func 74) ⟨[]⟩ ⟨[2]⟩] 5=some (Bz.t 74 [2]):=gE aw
theorem any {W:au} {g dv:Nat} {A:dh} {e:bN} (aA:b_ (aG W) (b3 (b1 g A e++[aF.box dv fA [b2 g]]))) (k:Nat) (ad:okB e.b) (ag:k<e.u.bS.length) (hl:e.u.bS.length=(dZ e.b).toNat) (hw:e.u.waits.length=e.u.bS.length) (h1:e.u.bm.length<=200000):
  gY cw 67 [b2 g,I (k:Nat),.func (.func 74) #[] ⟨[b2 dv]⟩] W (b1 g A e++[aF.box dv fA [b2 g]]) c_ (λ_=> .tuple #[]) λy=>b1 g {A with s:=y} (JP e (rN (c7 e.b e.u.bS k 6) (e.u.bm,e.u.waits)))++[aF.box dv fA [b2 g]]:=by
 rw[<-Ga];refine Bz.any dw (c2:=b2 dv) (c3:=b2 dv) (p8:=b2 dv) (lz:=[b2 dv]) (λenv n ae _ _=> ?_) (PR _ _ _) (λ_ _=>rfl) (λz (_:bN)=>{A with s:=z}) (λe=>e) (λ_ _=>[aF.box dv fA [b2 g]]) [0,1,2,3,4,5,6,7,8,9,10,11,12] (λe p=>zD e p.1) e ad ag hl (λn=>by rw[Ga]) (λn=>by rw[Ga]) (λn z w cy aA=> ?_) (λ_ _=>rfl) (λ_ _ _ _=>FP (n:=13) J J) (λ_ _=>rfl) (λ_ _=>hJ rfl) A.s aA
 ·show [look env n 2]=_
  rw[ae]
 ·have aq:=PQ e.b e.u.bS k n
  have hp:=FY (b:=e.b) ag hl (eN e.b k n);rw[Ga] at aA ⊢;obtain⟨q1,aE⟩:=WX (c7 e.b e.u.bS k n) (e.u.bm,e.u.waits);dsimp only at q1 aE;exact WT.any aA (cc e.b (eN e.b k n)) (oF n) (by show _<(rN (c7 e.b e.u.bS k n) (e.u.bm,e.u.waits)).2.length;rw[aE,hw];exact hp) (by show (rN (c7 e.b e.u.bS k n) (e.u.bm,e.u.waits)).1.length<=_;omega)
end WZ
end AE
end
end
section
noncomputable section
namespace AE
abbrev oc:aH:=3
def u_ (F:Int) (out x:bA) (e8:Int) (i:Nat):bA:=pJ λc=>if c<i then Ww F out x e8 c else bL out c
theorem ahZ {F:Int} {out x:bA} {e8:Int}:u_ F out x e8 0=out:=bA.ext' λc al=>by
 unfold u_;rw[h0 al,aO ao]
theorem ah0 {F:Int} {out x:bA} {e8:Int}:u_ F out x e8 4=Bt F out x e8:=bA.ext' λc al=>by
 unfold u_ Bt;rw[h0 al,h0 al,aN al]
theorem ah1 {F:Int} {out x:bA} {e8:Int} {i:Nat} (h:i<4):bL (u_ F out x e8 i) i=bL out i:=by
 unfold u_;rw[h0 h,aO ao]
theorem ah2 {F:Int} {out x:bA} {e8:Int} {i:Nat}:sM (u_ F out x e8 i) i (max (bL out i) (given (bL x i) F i (decide (0<e8))))=u_ F out x e8 (i+1):=bA.ext' λc al=>by
 unfold sM u_;rw[h0 al,h0 al,h0 al];by_cases af:c=i
 ·subst af;rw[aN rfl,aN ao];rfl
 ·rw[aO af]
  by_cases hl:c<i
  ·rw[aN hl,aN ao]
  ·rw[aO hl,aO ao]
namespace W0
def t:bs:=
.loop [I 0] 1<|
.o (.bin .lss 3 5 (I 4)) 6 1 []<|
.c6 6 (
 .o (.cP 85 2 5) 7 1 [1,4,3,1]<|
 .o (.bp 3 7) 8 1 [1]<|
 .o (.bp 34 3) 9 1 [1]<|
 .o (.dR 9) 10 1 []<|
 .o (.cu 76 10 5) 11 1 [17,51,1]<|
 .o (.bp 51 11) 12 1 [1]<|
 .o (.cP 51 12 0) 13 1 [0,85,4]<|
 .o (.cP 85 13 5) 14 1 [1,4,3,1]<|
 .o (.bp 3 14) 15 1 [1]<|
 .o (.bp 3 4) 16 1 [1]<|
 .o (.bin .gtr 3 1 (I 0)) 17 1 []<|
 .c 70 [15,16,5,17] 18 1<|
 .o (.d_ #[3,3] 3 8 18) 19 1 []<|
 .st 3 7 19<|
 .o (.bin .add 3 5 (I 1)) 20 1 []<|
 .back [20]) (
 .gJ<|
 .ret (.tuple ⟨[]⟩))
theorem dw:fJ Tryz.prog 109 {} [0,1,2,3,4] 5=some t:=gE aw
theorem any {W:au} {g go dv od:Nat} {A:dh} {e:bN} {out:bA} {F:Int} (aA:b_ (aG W) (b3 (b1 g A e++[aF.box go i' (ck out),aF.box dv fA [b2 g],aF.box od oc [I F]]))) (k:Nat) (e8:Int) (ag:k<e.u.ar.length) (ad:xX (e.u.ar.getD k default)) (cF:1<=F/\F<=16):
  gY cw 109 [I (k:Nat),I e8,b2 go,b2 dv,b2 od] W (b1 g A e++[aF.box go i' (ck out),aF.box dv fA [b2 g],aF.box od oc [I F]]) Unit (λ_=> .tuple #[]) λ_=>b1 g A e++[aF.box go i' (ck (Bt F out (e.u.ar.getD k default) e8)),aF.box dv fA [b2 g],aF.box od oc [I F]]:=by
 refine kG (ro:=[]) mixed dw [I (k:Nat),I e8,b2 go,b2 dv,b2 od] aA fB.none ?_;unfold t;generalize lK:e.u.ar.getD k default=gJ at ad ⊢;refine u1 Nat (λi=>[I (i:Nat)]) (λi=>b1 g A e++[aF.box go i' (ck (u_ F out gJ e8 i)),aF.box dv fA [b2 g],aF.box od oc [I F]]) (λi=>i<=4) (λi=>4-i) 0 rfl (by rw[ahZ]) ao (λi af=> ?_);refine bK ?_;refine fV rfl (λbE=> ?_) λbE=> ?_
 ·have lg:i<4:=by omega
  refine bK ?_;refine nI (u:=I (bL out i)) rfl has (by rw[<-ah1 (F:=F) (x:=gJ) (e8:=e8) lg];exact xW lg) ?_;refine bK ?_;refine sF (K:=dk) (l:=e.u.ar) (j:=k) (o:=0+i*1) (u:=I (bL gJ i)) rfl (by rw[<-lK];exact xW lg) ?_;refine bK ?_;refine iY (v:=I (given (bL gJ i) F i (decide (0<e8)))) (λw hw=>JJ.any w (bL gJ i) F i (decide (0<e8)) (by have:=ad i lg;omega) (by have:=ad i lg;omega) ao ao) ?_;refine bK ?_;refine Wd (cs':=ck (u_ F out gJ e8 (i+1))) J J gO ?_ ?_ (by show 0+i*1<4;omega)
  ·rw[<-ah2]
   exact JL lg _
  refine bK ?_;exact ng (i+1) J J ao ao
 ·refine bK ?_
  obtain rfl:i=4:=by omega
  refine e3 ⟨(),rfl,?_⟩;rw[ah0]
end W0
namespace PS
theorem dw:fJ cw 67 {nF:=[109],cells:=[(1039,1,0),(1039,1,1),(1039,1,2)],Fs:=[(39,[])]} [0,1,.func (.func 109) ⟨[]⟩ ⟨[2,3,4]⟩] 5=some (Bz.t 109 [2,3,4]):=gE aw
theorem any {W:au} {g go dv od:Nat} {A:dh} {e:bN} {out:bA} {F:Int} (aA:b_ (aG W) (b3 (b1 g A e++[aF.box go i' (ck out),aF.box dv fA [b2 g],aF.box od oc [I F]]))) (k:Nat) (ad:okB e.b) (ag:k<e.u.bS.length) (hl:e.u.bS.length=(dZ e.b).toNat) (jf:e.u.ar.length=e.u.bS.length) (hL:∀n,n<e.u.bS.length->xX (e.u.ar.getD n default)) (cF:1<=F/\F<=16):
  gY cw 67 [b2 g,I (k:Nat),.func (.func 109) #[] ⟨[b2 go,b2 dv,b2 od]⟩] W (b1 g A e++[aF.box go i' (ck out),aF.box dv fA [b2 g],aF.box od oc [I F]]) Unit (λ_=> .tuple #[]) λ_=>b1 g A e++[aF.box go i' (ck (rO F e.u.ar (c7 e.b e.u.bS k 6) out)),aF.box dv fA [b2 g],aF.box od oc [I F]]:=by
 refine Bz.any dw (c2:=b2 go) (c3:=b2 dv) (p8:=b2 od) (lz:=[b2 go,b2 dv,b2 od]) (λenv n ae ay bE=> ?_) (PR _ _ _) (λ_ _=>rfl) (λ(_:Unit) (_:bA)=>A) (λ_=>e) (λ_ o=>[aF.box go i' (ck o),aF.box dv fA [b2 g],aF.box od oc [I F]]) [0,1,2,3,4,5,6,7,8,9,10,11,12,13,14] (λo p=>Bt F o (e.u.ar.getD p.1 default) p.2) out ad ag hl (λn=>rfl) (λn=>rfl) (λn z w cy aA=> ?_) (λ_ _=>rfl) (λ_ _ _ _=>FP (n:=15) J J) (λ_ _=>rfl) (λ_ _=>hJ rfl) () aA
 ·show [look env n 2,look env n 3,look env n 4]=_
  rw[ae,ay,bE]
 ·have hp:=FY (b:=e.b) ag hl (eN e.b k n)
  exact W0.any aA (cc e.b (eN e.b k n)) (oF n) (by rw[jf];exact hp) (hL _ hp) cF
end PS
namespace W1
def t:bs:=
.pc 34 0<|
.nE 85<|
.nE 85<|
.o (.bp 34 2) 5 1 [1]<|
.o (.dR 5) 6 1 []<|
.o (.cu 76 6 3) 7 1 [15,30,1]<|
.o (.bp 30 7) 8 1 [1]<|
.o (.cP 30 8 1) 9 1 [0,4,1]<|
.o (.bp 4 9) 10 1 [1]<|
.o (.un .not 10) 11 1 []<|
.c6 11 (
 .o (.bp 85 4) (.agg ⟨h5 4 12⟩) 4 [4]<|
 .st 85 3 (.agg ⟨[12,13,14,15]⟩)<|
 .pM 85 3) (
 .o (.bp 34 2) 12 1 [1]<|
 .o (.dR 12) 13 1 []<|
 .o (.cu 76 13 4) 14 1 [16,29,1]<|
 .o (.bp 29 14) 15 1 [1]<|
 .o (.cu 76 13 1) 16 1 [7,28,7]<|
 .o (.cu 28 16 1) 17 1 [6,26,1]<|
 .o (.bp 26 17) 18 1 [1]<|
 .o (.cP 26 18 1) 19 1 [0,3,1]<|
 .o (.bp 3 19) 20 1 [1]<|
 .c 108 [15,20] (.agg ⟨[21,22,23]⟩) 3<|
 .o (.lr 85 4 none none none) 24 1 [1,4,3,1]<|
 .rq 26 24 [21,22,23]<|
 .o (.bp 34 2) 25 1 [1]<|
 .call 69 [25,1] 26 1<|
 .nE 3<|
 .st 3 27 26<|
 .o (.bp 34 2) 28 1 [1]<|
 .o (.dR 28) 29 1 []<|
 .o (.cu 76 29 1) 30 1 [7,28,7]<|
 .o (.cu 28 30 0) 31 1 [0,25,6]<|
 .o (.bp 25 31) (.agg ⟨h5 6 32⟩) 6 [6]<|
 .c 105 [.agg ⟨[32,33,34,35,36,37]⟩,1] (.tuple ⟨[.agg ⟨[38,39,40]⟩,41]⟩) 4<|
 .o (.cu 25 31 1) 42 1 [3,23,3]<|
 .o (.cu 23 42 2) 43 1 [2,3,1]<|
 .o (.bp 3 43) 44 1 [1]<|
 .o (.bin .sub 3 44 (I 1)) 45 1 []<|
 .o (.bin .eql 3 40 45) 46 1 []<|
 .c6 46 (
  .o (.bp 3 27) 47 1 [1]<|
  .c 70 [I 15,47,I 3,.bool true] 48 1<|
  .o (.cP 85 4 (I 3)) 49 1 [1,4,3,1]<|
  .st 3 49 48<|
  .o (.bp 34 2) 50 1 [1]<|
  .call 67 [50,1,.func (.func 109) ⟨[]⟩ ⟨[4,2,27]⟩] (.tuple ⟨[]⟩) 0<|
  .o (.bp 85 4) (.agg ⟨h5 4 51⟩) 4 [4]<|
  .st 85 3 (.agg ⟨[51,52,53,54]⟩)<|
  .pM 85 3) (
  .o (.bp 34 2) 47 1 [1]<|
  .call 67 [47,1,.func (.func 109) ⟨[]⟩ ⟨[4,2,27]⟩] (.tuple ⟨[]⟩) 0<|
  .o (.bp 85 4) (.agg ⟨h5 4 48⟩) 4 [4]<|
  .st 85 3 (.agg ⟨[48,49,50,51]⟩)<|
  .pM 85 3))
theorem dw:fJ Tryz.prog 73 {nF:=[67,69],marks:=[34,85,3]} [0,1] 2=some t:=gE aw
theorem any {W:au} {g:Nat} {A:dh} {e:bN} (aA:b_ (aG W) (b3 (b1 g A e))) (k:Nat) (ad:okB e.b) (ag:k<e.u.bS.length) (hl:e.u.bS.length=(dZ e.b).toNat) (jf:e.u.ar.length=e.u.bS.length) (Gb:e.u.lit.length=e.u.bS.length) (hL:∀n,n<e.u.bS.length->xX (e.u.ar.getD n default)) (cF:1<=kj e k/\kj e k<=16):
  gY cw 73 [b2 g,I (k:Nat)] W (b1 g A e) Unit (λ_=> .agg ⟨ck (sK e.table e.u.lit e.u.ar e.u.bS e.b k)⟩) λ_=>b1 g A e:=by
 have aC:0<=((k:Nat):Int)/\((k:Nat):Int)<dZ e.b:=Pu ag hl;have xY:=FZ ad (k:Nat);have nC:k<e.u.lit.length:=by omega
 refine kG (ro:=[]) mixed dw [b2 g,I (k:Nat)] aA fB.none ?_;unfold t;refine Bo (cs:=[b2 g]) J J (λb=>j7) λdv=> ?_
 refine wi (z:= .agg ⟨ck z4⟩) (ck z4) aw rfl (λb=>j7) λgr=> ?_
 refine wi (z:= .agg ⟨ck z4⟩) (ck z4) aw rfl (λb=>j7) λgo=> ?_
 refine bK ?_;refine Bn rfl (λmQ=> ?_) λmQ=> ?_
 ·have av:¬e.u.bS.getD k default=true:=by simpa using mQ
  refine sG (c:=ck z4) rfl has J J ik ?_;refine wh (m:=4) (us:=ck z4) (cs':=ck z4) J J gO rfl ?_;refine Db (L':=b1 g A e) rfl has (λM bj=>bj.pre) ⟨(),?_,rfl⟩;rw[aho av]
 ·have av:e.u.bS.getD k default=true:=by simpa using mQ
  refine bK ?_;refine qE [I (dj (dz e.table (e.u.lit.getD k default)) 0),I (dj (dz e.table (e.u.lit.getD k default)) 1),I (dj (dz e.table (e.u.lit.getD k default)) 2)] (λw hw=>WS.any w ((iO.arr (K:=mo) (l:=e.table) has).at hw) _) rfl ?_;refine ag9 rfl ?_;refine ag4 (e:=oc) (us:=[I (dj (dz e.table (e.u.lit.getD k default)) 0),I (dj (dz e.table (e.u.lit.getD k default)) 1),I (dj (dz e.table (e.u.lit.getD k default)) 2)]) (cs':=ck (dj (dz e.table (e.u.lit.getD k default)) 0,dj (dz e.table (e.u.lit.getD k default)) 1,dj (dz e.table (e.u.lit.getD k default)) 2,0)) J J gO rfl ?_;refine bK ?_;refine sH (dq:=b1 g A e) (λ_=>[I (kj e k)]) (λw hw aA=>PK.any aA k nC) (λ_=> ?_);refine wi (z:=I 0) [I 0] aw rfl (λb=>j7) λod=> ?_
  refine qD J J gO qC ?_;refine bK ?_;refine sG (c:=u6 e.b) rfl has J J ik ?_;refine qE [I (dV e.b (k:Nat)).1,I (dV e.b (k:Nat)).2.1,I (dV e.b (k:Nat)).2.2,.bool (decide (0<=((k:Nat):Int)/\((k:Nat):Int)<dZ e.b))] (λw _=>PH.any w e.b (k:Nat) ad) rfl ?_;unfold okB at ad;refine bK ?_;have ad:okB e.b:=ad;refine fV rfl (λaI=> ?_) λaI=> ?_
  ·refine bK ?_
   refine iY (v:=I (given 15 (kj e k) 3 true)) (λw hw=>JJ.any w 15 (kj e k) 3 true cv cv ao ao) ?_;refine pS (j:=3) J J ?_;refine bK ?_;refine il (dq:=b1 g A e++[aF.box go i' (ck (dj (dz e.table (e.u.lit.getD k default)) 0,dj (dz e.table (e.u.lit.getD k default)) 1,dj (dz e.table (e.u.lit.getD k default)) 2,given 15 (kj e k) 3 true)),aF.box dv fA [b2 g],aF.box od oc [I (kj e k)]]) (L':=λ_=>b1 g A e++[aF.box dv fA [b2 g],aF.box gr i' (ck z4),aF.box go i' (ck (rO (kj e k) e.u.ar (c7 e.b e.u.bS k 6) (dj (dz e.table (e.u.lit.getD k default)) 0,dj (dz e.table (e.u.lit.getD k default)) 1,dj (dz e.table (e.u.lit.getD k default)) 2,given 15 (kj e k) 3 true))),aF.box od oc [I (kj e k)]]) [0,1,2,3,4,5,6,7,8,9,10,11,14,12,15] (λ_=>[]) (λw hw aA=>PS.any aA k ad ag hl jf hL cF) (λ_=> ?_);refine sG (c:=ck (rO (kj e k) e.u.ar (c7 e.b e.u.bS k 6) (dj (dz e.table (e.u.lit.getD k default)) 0,dj (dz e.table (e.u.lit.getD k default)) 1,dj (dz e.table (e.u.lit.getD k default)) 2,given 15 (kj e k) 3 true))) rfl has J J ik ?_;refine wh (m:=4) (us:=ck (rO (kj e k) e.u.ar (c7 e.b e.u.bS k 6) (dj (dz e.table (e.u.lit.getD k default)) 0,dj (dz e.table (e.u.lit.getD k default)) 1,dj (dz e.table (e.u.lit.getD k default)) 2,given 15 (kj e k) 3 true))) (cs':=ck (rO (kj e k) e.u.ar (c7 e.b e.u.bS k 6) (dj (dz e.table (e.u.lit.getD k default)) 0,dj (dz e.table (e.u.lit.getD k default)) 1,dj (dz e.table (e.u.lit.getD k default)) 2,given 15 (kj e k) 3 true))) J J gO rfl ?_;refine Db (L':=b1 g A e) rfl has (λM bj=>bj.pre) ⟨(),?_,rfl⟩;rw[ahp av aI]
  ·refine bK ?_
   refine il (dq:=b1 g A e++[aF.box go i' (ck (dj (dz e.table (e.u.lit.getD k default)) 0,dj (dz e.table (e.u.lit.getD k default)) 1,dj (dz e.table (e.u.lit.getD k default)) 2,0)),aF.box dv fA [b2 g],aF.box od oc [I (kj e k)]]) (L':=λ_=>b1 g A e++[aF.box dv fA [b2 g],aF.box gr i' (ck z4),aF.box go i' (ck (rO (kj e k) e.u.ar (c7 e.b e.u.bS k 6) (dj (dz e.table (e.u.lit.getD k default)) 0,dj (dz e.table (e.u.lit.getD k default)) 1,dj (dz e.table (e.u.lit.getD k default)) 2,0))),aF.box od oc [I (kj e k)]]) [0,1,2,3,4,5,6,7,8,9,10,11,14,12,15] (λ_=>[]) (λw hw aA=>PS.any aA k ad ag hl jf hL cF) (λ_=> ?_);refine sG (c:=ck (rO (kj e k) e.u.ar (c7 e.b e.u.bS k 6) (dj (dz e.table (e.u.lit.getD k default)) 0,dj (dz e.table (e.u.lit.getD k default)) 1,dj (dz e.table (e.u.lit.getD k default)) 2,0))) rfl has J J ik ?_;refine wh (m:=4) (us:=ck (rO (kj e k) e.u.ar (c7 e.b e.u.bS k 6) (dj (dz e.table (e.u.lit.getD k default)) 0,dj (dz e.table (e.u.lit.getD k default)) 1,dj (dz e.table (e.u.lit.getD k default)) 2,0))) (cs':=ck (rO (kj e k) e.u.ar (c7 e.b e.u.bS k 6) (dj (dz e.table (e.u.lit.getD k default)) 0,dj (dz e.table (e.u.lit.getD k default)) 1,dj (dz e.table (e.u.lit.getD k default)) 2,0))) J J gO rfl ?_;refine Db (L':=b1 g A e) rfl has (λM bj=>bj.pre) ⟨(),?_,rfl⟩;rw[ahq av aI]
end W1
end AE
end
end
namespace AE
@[reducible] def jW (b:bF) (v:U):U:= .agg ⟨[.int .i64 b.1,.int .i64 b.2.1,.int .i64 b.2.2.1,.int .i64 b.2.2.2.1,.int .i64 b.2.2.2.2.1,.int .i64 b.2.2.2.2.2,v]⟩
theorem ah3 {α:Type} {P:aQ} {f:FuncId} {args:Array U} {w:au} {e:aH} {k:Nat} {enc:α->List U} {l:List α} {L:List ca} {F:U->U} (av:b_ (aG w) L)
  (h:Calls P f args w λe' w'=>(∃a c,e'= .returned (F (.slice a l.length c))/\dJ w.heap.size (aG w') e k enc (.slice a l.length c) l)/\ch w.heap.size w w'):
  Calls P f args w λe' w'=>(∃y:Option Addr×Nat,e'= .returned (F (.slice y.1 l.length y.2))/\dp (aG w) L (aG w') (L++[iK e k enc (.slice y.1 l.length y.2) l]))/\ch 0 w w':=
 h.mono λe' w' he=>by
   obtain⟨⟨a,c,rfl,cm⟩,hl⟩:=he;have t:dp (aG w) [] (aG w') [iK e k enc (.slice a l.length c) l]:=⟨b_.one (rp cm),λi o af _=>by
    rw[show aG w' i=aG w i from hl.block i (Array.getElem?_eq_some_iff.1 af).1]
    exact af,λb ad=> .inr (Array.getElem?_eq_none_iff.2 (cm.known b (mZ.1 ad)).2)⟩
   exact⟨⟨(a,c),rfl,(av.own.new t).Fk⟩,hl.zero⟩
theorem PT {α:Type} (M:Mem) (e:aH) (k:Nat) (enc:α->List U):dp M [] M [iK e k enc (.slice none 0 0) []]:=
 ⟨b_.one (rp (dJ.nil 0 M e k enc none)),λ_ _ h _=>h,λb ad=>by
   have:some b=eF (.slice none 0 0):=mZ.1 ad
   cases this⟩
theorem PU {α:Type} (M:Mem) (e:aH) (k:Nat) (enc:α->List U):dp M [] M [o7 e k enc (.slice none 0 0) []]:=
 ⟨b_.one (Uf (dJ.nil 0 M e k enc none).queue),λ_ _ h _=>h,λb ad=>by
   have:some b=eF (.slice none 0 0):=mZ.1 ad
   cases this⟩
end AE
section
noncomputable section
namespace AE
theorem PV {x:bA} (h:0<=x.1/\x.1<=15/\0<=x.2.1/\x.2.1<=15/\0<=x.2.2.1/\x.2.2.1<=15/\0<=x.2.2.2/\x.2.2.2<=15):xX x:=λc al=>by
 obtain⟨aJ,h1,ae,ay,bE,cn,cy,fx⟩:=h
 match c,al with
 |0,_=>exact⟨aJ,h1⟩
 |1,_=>exact⟨ae,ay⟩
 |2,_=>exact⟨bE,cn⟩
 |3,_=>exact⟨cy,fx⟩
theorem W2 {N O:bA} {i:Nat} (h:i<4):bL (kI i N O) i=bL O i:=by
 unfold kI;rw[h0 h,aO ao]
theorem W3 {N O:bA} {i:Nat}:sM (kI i N O) i (max (bL N i) (bL O i))=kI (i+1) N O:=bA.ext' λc al=>by
 unfold sM kI;rw[h0 al,h0 al,h0 al];by_cases af:c=i
 ·subst af;rw[aN rfl,aN ao]
 ·rw[aO af]
  by_cases hl:c<i
  ·rw[aN hl,aN ao]
  ·rw[aO hl,aO ao]
theorem W4 {N O:bA} {i:Nat} (h:i<4):u9 (i+1) N O=(u9 i N O||decide (bL O i<bL N i)):=by
 match i,h with
 |0,_=>simp [u9,bL]
 |1,_=>simp [u9,bL]
 |2,_=>simp [u9,bL]
 |3,_=>simp [u9,bL]
theorem W5:∀(l:List Nat) (s:List Nat×List Bool),(mm l s).1.length<=s.1.length+l.length/\(mm l s).2.length=s.2.length
 |[],_=>⟨bY _,rfl⟩
 |k::l,s=>by
  obtain⟨q1,aE⟩:=W5 l (lU s.1 s.2 k,mF s.2 k);have cS:=U_ s.1 s.2 k;have dL:=I4 s.2 k;have e:mm (k::l) s=mm l (lU s.1 s.2 k,mF s.2 k):=rfl;rw[e,List.length_cons];dsimp only at q1 aE;exact⟨ao,aE.trans dL⟩
theorem ah4 {B:Nat} {eC:Mem} {ax:List ca} {M:Mem} {L L':List (aF cw)} (d:Nat) {K:hP cw} {r:aF cw} (ek:n7 L d r (.arr K (.slice none 0 0) []) L') (h:bW B eC ax M (b3 L)):bW B eC ax M (b3 L'):=by
 obtain⟨af,rfl⟩:=ek.get;rw[tG];have t:=PT M K.e K.k K.enc;refine h.l_ d (kF af) ⟨t.sp,λi o af _=>af,λb ad=> ?_⟩;rcases t.fresh b ad with h1|h1
 ·exact absurd h1 (CL b)
 ·exact .inr h1
namespace PW
def t:bs:=
.o (.dR 0) 1 1 []<|
.o (.cu 72 1 0) 2 1 [0,70,1]<|
.o (.bp 70 2) 3 1 [1]<|
.o (.len #[70] 3 3) 4 1 [0,87]<|
.o (.bin .eql 3 4 (I 0)) 5 1 []<|
.ret 5
theorem dw:fJ Tryz.prog 39 {} [0] 1=some t:=gE aw
theorem any {W:au} {g:Nat} {A:dh} {e:bN} (aA:b_ (aG W) (b3 (b1 g A e))):gY cw 39 [.pointer (some ⟨g,20,none⟩)] W (b1 g A e) Unit (λ_=> .bool (decide (((e.u.bz.length:Nat):Int)=0))) λ_=>b1 g A e:=by
 refine kG (ro:=[]) mixed dw [.pointer (some ⟨g,20,none⟩)] aA fB.none ?_;unfold t;refine bK ?_;exact e3 ⟨(),rfl,rfl⟩
end PW
namespace W6
def t:bs:=
.o (.dR 0) 1 1 []<|
.o (.cu 74 1 0) 2 1 [0,26,1]<|
.o (.bp 26 2) 3 1 [1]<|
.o (.len #[26] 3 3) 4 1 [0,3]<|
.o (.bin .eql 3 4 (I 0)) 5 1 []<|
.ret 5
theorem dw:fJ Tryz.prog 40 {} [0] 1=some t:=gE aw
theorem any {W:au} {g:Nat} {A:dh} {e:bN} (aA:b_ (aG W) (b3 (b1 g A e))):gY cw 40 [.pointer (some ⟨g,22,none⟩)] W (b1 g A e) Unit (λ_=> .bool (decide (((e.u.bm.length:Nat):Int)=0))) λ_=>b1 g A e:=by
 refine kG (ro:=[]) mixed dw [.pointer (some ⟨g,22,none⟩)] aA fB.none ?_;unfold t;refine bK ?_;exact e3 ⟨(),rfl,rfl⟩
end W6
namespace W7
def t:bs:=
.o (.dR 0) 1 1 []<|
.o (.cu 69 1 0) 2 1 [0,67,1]<|
.o (.bp 67 2) 3 1 [1]<|
.o (.len #[67] 3 3) 4 1 [0,89]<|
.o (.bin .eql 3 4 (I 0)) 5 1 []<|
.ret 5
theorem dw:fJ Tryz.prog 41 {} [0] 1=some t:=gE aw
theorem any {W:au} {g:Nat} {A:dh} {e:bN} (aA:b_ (aG W) (b3 (b1 g A e))):gY cw 41 [.pointer (some ⟨g,19,none⟩)] W (b1 g A e) Unit (λ_=> .bool (decide (((e.u.reqs.length:Nat):Int)=0))) λ_=>b1 g A e:=by
 refine kG (ro:=[]) mixed dw [.pointer (some ⟨g,19,none⟩)] aA fB.none ?_;unfold t;refine bK ?_;exact e3 ⟨(),rfl,rfl⟩
end W7
end AE
end
end
section
noncomputable section
namespace AE
@[reducible] def wy (e:bN):bN:={e with u:=(gb e.table e.b e.u).2}
namespace W8
def t:bs:=
.pc 34 0<|
.o (.bp 34 1) 2 1 [1]<|
.o (.dR 2) 3 1 []<|
.o (.cu 76 3 8) 4 1 [20,72,1]<|
.call 39 [4] 5 1<|
.o (.un .not 5) 6 1 []<|
.c6 6 (
 .o (.bp 34 1) 7 1 [1]<|
 .o (.dR 7) 8 1 []<|
 .o (.cu 76 8 8) 9 1 [20,72,1]<|
 .call 66 [9] (.agg ⟨[10,11,12,13,14]⟩) 5<|
 .nE 87<|
 .st 87 15 (.agg ⟨[10,11,12,13,14]⟩)<|
 .o (.bp 34 1) 16 1 [1]<|
 .o (.cu 87 15 0) 17 1 [0,3,1]<|
 .o (.bp 3 17) 18 1 [1]<|
 .call 67 [16,18,.func (.func 68) ⟨[]⟩ ⟨[1,15]⟩] (.tuple ⟨[]⟩) 0<|
 .o (.bp 34 1) 19 1 [1]<|
 .o (.dR 19) 20 1 []<|
 .o (.cu 76 20 8) 21 1 [20,72,1]<|
 .call 39 [21] 22 1<|
 .c6 22 (
  .o (.bp 34 1) 23 1 [1]<|
  .o (.dR 23) 24 1 []<|
  .o (.cu 76 24 9) 25 1 [21,26,1]<|
  .o (.bp 26 25) 26 1 [1]<|
  .o (.len #[26] 3 26) 27 1 [0,3]<|
  .loop [I 0] 1<|
  .o (.bin .lss 3 28 27) 29 1 []<|
  .c6 29 (
   .o (.cP 26 26 28) 30 1 [0,3,1]<|
   .o (.bp 3 30) 31 1 [1]<|
   .o (.bp 34 1) 32 1 [1]<|
   .call 32 [32,31] (.tuple ⟨[]⟩) 0<|
   .o (.bin .add 3 28 (I 1)) 33 1 []<|
   .back [33]) (
   .gJ<|
   .o (.bp 34 1) 30 1 [1]<|
   .o (.dR 30) 31 1 []<|
   .o (.cu 76 31 9) 32 1 [21,26,1]<|
   .st 26 32 (.slice none 0 0)<|
   .ret (.bool true))) (
  .ret (.bool true))) (
 .o (.bp 34 1) 7 1 [1]<|
 .o (.dR 7) 8 1 []<|
 .o (.cu 76 8 10) 9 1 [22,74,1]<|
 .call 40 [9] 10 1<|
 .o (.un .not 10) 11 1 []<|
 .c6 11 (
  .o (.bp 34 1) 12 1 [1]<|
  .o (.dR 12) 13 1 []<|
  .o (.cu 76 13 10) 14 1 [22,74,1]<|
  .call 72 [14] 15 1<|
  .o (.bp 34 1) 16 1 [1]<|
  .o (.dR 16) 17 1 []<|
  .o (.cu 76 17 11) 18 1 [23,30,1]<|
  .o (.bp 30 18) 19 1 [1]<|
  .o (.cP 30 19 15) 20 1 [0,4,1]<|
  .st 4 20 (.bool false)<|
  .o (.bp 34 1) 21 1 [1]<|
  .call 73 [21,15] (.agg ⟨[22,23,24,25]⟩) 4<|
  .nE 85<|
  .st 85 26 (.agg ⟨[22,23,24,25]⟩)<|
  .loop [I 0,.bool false] 2<|
  .o (.bin .lss 3 27 (I 4)) 29 1 []<|
  .c6 29 (
   .c6 28 (
    .o (.bp 34 1) 30 1 [1]<|
    .o (.dR 30) 31 1 []<|
    .o (.cu 76 31 5) 32 1 [17,51,1]<|
    .o (.bp 51 32) 33 1 [1]<|
    .o (.cP 85 26 27) 34 1 [1,4,3,1]<|
    .o (.bp 3 34) 35 1 [1]<|
    .o (.cP 51 33 15) 36 1 [0,85,4]<|
    .o (.cP 85 36 27) 37 1 [1,4,3,1]<|
    .o (.bp 3 37) 38 1 [1]<|
    .o (.d_ #[3,3] 3 35 38) 39 1 []<|
    .st 3 37 39<|
    .o (.bin .add 3 27 (I 1)) 40 1 []<|
    .back [40,.bool true]) (
    .o (.cP 85 26 27) 30 1 [1,4,3,1]<|
    .o (.bp 3 30) 31 1 [1]<|
    .o (.bp 34 1) 32 1 [1]<|
    .o (.dR 32) 33 1 []<|
    .o (.cu 76 33 5) 34 1 [17,51,1]<|
    .o (.bp 51 34) 35 1 [1]<|
    .o (.cP 51 35 15) 36 1 [0,85,4]<|
    .o (.cP 85 36 27) 37 1 [1,4,3,1]<|
    .o (.bp 3 37) 38 1 [1]<|
    .o (.bin .gtr 3 31 38) 39 1 []<|
    .o (.d_ #[3,3] 3 31 38) 40 1 []<|
    .st 3 37 40<|
    .o (.bin .add 3 27 (I 1)) 41 1 []<|
    .back [41,39])) (
   .gJ<|
   .c6 28 (
    .o (.bp 34 1) 30 1 [1]<|
    .call 67 [30,15,.func (.func 74) ⟨[]⟩ ⟨[1]⟩] (.tuple ⟨[]⟩) 0<|
    .ret (.bool true)) (
    .ret (.bool true)))) (
  .o (.bp 34 1) 12 1 [1]<|
  .o (.dR 12) 13 1 []<|
  .o (.cu 76 13 7) 14 1 [19,69,1]<|
  .call 41 [14] 15 1<|
  .o (.un .not 15) 16 1 []<|
  .c6 16 (
   .o (.bp 34 1) 17 1 [1]<|
   .o (.dR 17) 18 1 []<|
   .o (.cu 76 18 7) 19 1 [19,69,1]<|
   .call 75 [19] (.agg ⟨[20,21,22]⟩) 3<|
   .o (.bp 34 1) 23 1 [1]<|
   .o (.dR 23) 24 1 []<|
   .o (.cu 76 24 5) 25 1 [17,51,1]<|
   .o (.bp 51 25) 26 1 [1]<|
   .o (.cP 51 26 20) 27 1 [0,85,4]<|
   .o (.bp 85 27) (.agg ⟨h5 4 28⟩) 4 [4]<|
   .call 71 [23,20,.agg ⟨[28,29,30,31]⟩] (.tuple ⟨[]⟩) 0<|
   .o (.bp 34 1) 32 1 [1]<|
   .o (.dR 32) 33 1 []<|
   .o (.cu 76 33 1) 34 1 [7,28,7]<|
   .o (.cu 28 34 1) 35 1 [6,26,1]<|
   .o (.bp 26 35) 36 1 [1]<|
   .o (.cu 76 33 3) 37 1 [15,30,1]<|
   .o (.bp 30 37) 38 1 [1]<|
   .o (.cP 26 36 20) 39 1 [0,3,1]<|
   .o (.cP 30 38 20) 40 1 [0,4,1]<|
   .st 3 39 21<|
   .o (.cP 30 38 20) 41 1 [0,4,1]<|
   .st 4 41 22<|
   .ret (.bool true)) (
   .ret (.bool false))))
theorem dw:fJ Tryz.prog 42 {nF:=[66,72,75,39,40,41,67,73,32,71],marks:=[34,85,87]} [0] 1=some t:=gE aw
theorem any {W:au} {g:Nat} {A:dh} {e:bN} (aA:b_ (aG W) (b3 (b1 g A e))) (G:fK e.table e.b e.u):
  gY cw 42 [b2 g] W (b1 g A e) dh (λ_=> .bool (gb e.table e.b e.u).1) λaV=>b1 g aV (wy e):=by
 have ad:=G.box;have hl:=G.len;have jf:=G.Bw;have Gb:=G.F7;have hw:=G.ahH;have h1:=G.ez;have ae:=G.c2;have ay:=G.c3;have hL:∀n,n<e.u.bS.length->xX (e.u.ar.getD n default):=λn aq=>PV (G.li n aq)
 refine kG (ro:=[]) mixed dw [b2 g] aA fB.none ?_;unfold t;refine Bo (cs:=[b2 g]) J J (λb=>j7) λdv=> ?_
 refine bK ?_;refine sH (dq:=b1 g A e) (λ_=>[.bool (decide (((e.u.bz.length:Nat):Int)=0))]) (λw _ aA=>PW.any aA) λ_=> ?_
 refine bK ?_;refine xJ rfl (λaq=> ?_) λaq=> ?_
 ·have rH:0<e.u.bz.length:=by omega
  have W9:=G.eY _ (by rw[dr,fP rH];exact List.getElem_mem rH:e.u.bz.getD 0 default∈e.u.bz);refine bK ?_;refine sH (dq:=b1 g A e) (λ_=>kg (e.u.bz.getD 0 default)) (λw _ aA=>WM.any aA rH) λy=> ?_
  generalize ak:e.u.bz.getD 0 default=x at W9 ⊢;obtain⟨ry,hY⟩:=W9;refine wi (z:= .agg ⟨kg (0,z4)⟩) (kg (0,z4)) aw rfl (λb=>j7) λnL=> ?_
  refine wh (m:=5) (us:=kg x) (cs':=kg x) J J gO rfl ?_;refine bK ?_;generalize av:lD e.table e.u.lit x.2 (c7 e.b e.u.bS x.1 6) (e.u.bz.drop 1,e.u.gone,e.u.ar)=s;have KX:(e.u.bz.drop 1).length<=e.u.bz.length:=by rw[List.length_drop];omega
  have gH:=PO e.table e.u.lit x.2 (c7 e.b e.u.bS x.1 6) (e.u.bz.drop 1,e.u.gone,e.u.ar);have JN:=ahw (b:=e.b) (sh:=e.u.bS) (k:=x.1) (table:=e.table) (lit:=e.u.lit) (old:=x.2) (s:=(e.u.bz.drop 1,e.u.gone,e.u.ar)) G.go;rw[av] at gH JN;have hU:=PQ e.b e.u.bS x.1 6;have er:(gb e.table e.b e.u)=(true,if s.1.length=0 then {e.u with bz:=s.1,gone:=[],ar:=s.2.2,bm:=(mm s.2.1 (e.u.bm,e.u.waits)).1,waits:=(mm s.2.1 (e.u.bm,e.u.waits)).2} else {e.u with bz:=s.1,gone:=s.2.1,ar:=s.2.2}):=by
   rw[F1 rH];unfold xU wq;rw[ak,av]
  unfold wy;rw[er];refine il (dq:=b1 g {A with o:=y} {e with u:={e.u with bz:=e.u.bz.drop 1}}++[aF.box dv fA [b2 g],aF.box nL sN (kg x)]) (L':=λ(z:c_×c_)=>b1 g {A with o:=z.1,g:=z.2} (BA e s)++[aF.box dv fA [b2 g],aF.box nL sN (kg x)]) (N:=λ(z:c_×c_)=>b1 g {A with o:=z.1,g:=z.2} (BA e s)++[aF.box dv fA [b2 g],aF.box nL sN (kg x)]) [0,1,2,3,4,5,6,7,8,9,10,11,12,13] (λ_=>[]) (λw _ aA=> ?_) (λz=> ?_) (hL:=λz=>FP (n:=14) J J)
  ·have:=WY.any (e:={e with u:={e.u with bz:=e.u.bz.drop 1}}) aA x.1 ad ry hl jf Gb (by show (e.u.bz.drop 1).length<=_;omega) (by show e.u.gone.length<=_;omega) (PV hY) G.cu
   rw[av] at this;exact this
  ·refine bK ?_
   refine sH (dq:=b1 g {A with o:=z.1,g:=z.2} (BA e s)) (λ_=>[.bool (decide (((s.1.length:Nat):Int)=0))]) (λw _ aA=>PW.any aA) λ_=> ?_
   refine fV rfl (λbG=> ?_) λbG=> ?_
   ·have bG:s.1.length=0:=by omega
    rw[aN bG];refine bK ?_;refine u1 (Nat×c_) (λu=>[I (u.1:Nat)]) (λu=>b1 g {A with o:=z.1,g:=z.2,s:=u.2} (JP (BA e s) (mm (s.2.1.take u.1) (e.u.bm,e.u.waits)))++[aF.box dv fA [b2 g],aF.box nL sN (kg x)]) (λu=>u.1<=s.2.1.length) (λu=>s.2.1.length-u.1) (0,A.s) J J (Nat.zero_le _) (λu hu=> ?_);obtain⟨i,a⟩:=u;have hu:i<=s.2.1.length:=hu;dsimp only;obtain⟨cS,dL⟩:=W5 (s.2.1.take i) (e.u.bm,e.u.waits);have fZ:(s.2.1.take i).length<=s.2.1.length:=by rw[List.length_take];omega
    have wN:s.2.1.length<=e.u.gone.length+6:=JN.2;dsimp only at cS dL;refine bK ?_;refine fV rfl (λaf=> ?_) λaf=> ?_
    ·have af:i<s.2.1.length:=by omega
     have ag:=JN.1 i af;refine bK ?_;refine sH (dq:=b1 g {A with o:=z.1,g:=z.2,s:=a} (JP (BA e s) (mm (s.2.1.take i) (e.u.bm,e.u.waits)))) (λ_=>[]) (λw _ aA=>PI.any aA (s.2.1.getD i default) (by show _<(mm (s.2.1.take i) (e.u.bm,e.u.waits)).2.length;rw[dL,hw];exact ag) (by show (mm (s.2.1.take i) (e.u.bm,e.u.waits)).1.length<=_;omega)) λaS=> ?_
     refine bK ?_;refine ng (u:=(i,a)) (i+1,aS) rfl ?_ (by show i+1<=_;omega) (by show s.2.1.length-(i+1)<s.2.1.length-i;omega);obtain⟨t1,t2⟩:=aht (s:=(e.u.bm,e.u.waits)) J J af;unfold zD;dsimp only;rw[t1,t2]
    ·refine bK ?_
     obtain rfl:i=s.2.1.length:=by omega
     rw[List.take_length];exact oO (λM bj=>by exact(ah4 (L':=b1 g {A with o:=z.1,g:=(none,0),s:=a} {e with u:={e.u with bz:=s.1,gone:=[],ar:=s.2.2,bm:=(mm s.2.1 (e.u.bm,e.u.waits)).1,waits:=(mm s.2.1 (e.u.bm,e.u.waits)).2}}++[aF.box dv fA [b2 g],aF.box nL sN (kg x)]) 2 (K:=tK) gO bj).pick PF rfl) ⟨{A with o:=z.1,g:=(none,0),s:=a},rfl,rfl⟩
   ·rw[aO ao]
    exact oO (λM bj=>by exact bj.pre) ⟨{A with o:=z.1,g:=z.2},rfl,rfl⟩
 ·have rH:¬0<e.u.bz.length:=by omega
  refine bK ?_;refine sH (dq:=b1 g A e) (λ_=>[.bool (decide (((e.u.bm.length:Nat):Int)=0))]) (λw _ aA=>W6.any aA) λ_=> ?_
  refine bK ?_;refine xJ rfl (λll=> ?_) λll=> ?_
  ·have BB:0<e.u.bm.length:=by omega
   have ag:=G.qI _ (by rw[dr,fP BB];exact List.getElem_mem BB:e.u.bm.getD 0 default∈e.u.bm);refine bK ?_;refine sH (dq:=b1 g A e) (λ_=>[I (e.u.bm.getD 0 default:Nat)]) (λw _ aA=>WK.any aA BB) λy=> ?_
   generalize ah5:e.u.bm.getD 0 default=k at ag ⊢;have KX:(e.u.bm.drop 1).length<=e.u.bm.length:=by rw[List.length_drop];omega
   have alL:k<e.u.waits.length:=by omega
   have nC:k<e.u.ar.length:=by omega
   refine bK ?_;refine xM (K:=h7) (l:=e.u.waits) (j:=k) false J J gO rfl (λ_ _=>rfl) ?_;refine bK ?_;generalize iQ:sK e.table e.u.lit e.u.ar e.u.bS e.b k=N;generalize cm:e.u.ar.getD k default=O;have er:(gb e.table e.b e.u)=(true,if u9 4 N O=true then {e.u with ar:=e.u.ar.set k (kI 4 N O),bm:=(rN (c7 e.b e.u.bS k 6) (e.u.bm.drop 1,e.u.waits.set k false)).1,waits:=(rN (c7 e.b e.u.bS k 6) (e.u.bm.drop 1,e.u.waits.set k false)).2} else {e.u with ar:=e.u.ar.set k (kI 4 N O),bm:=e.u.bm.drop 1,waits:=e.u.waits.set k false}):=by
    rw[F2 rH BB];unfold xV F0;rw[ah5,iQ,cm]
   unfold wy;rw[er];refine il (v:=λ_=> .agg ⟨ck N⟩) (dq:=b1 g {A with s:=y} {e with u:={e.u with bm:=e.u.bm.drop 1,waits:=e.u.waits.set k false}}) (L':=λ_=>b1 g {A with s:=y} {e with u:={e.u with bm:=e.u.bm.drop 1,waits:=e.u.waits.set k false}}++[aF.box dv fA [b2 g]]) PF (λ_=>ck N) (λw _ aA=>by rw[<-iQ];exact W1.any aA k ad ag hl jf Gb hL (G.cu k ag)) λ_=> ?_
   refine wi (z:= .agg ⟨ck z4⟩) (ck z4) aw rfl (λb=>j7) λF6=> ?_
   refine wh (m:=4) (us:=ck N) (cs':=ck N) J J gO rfl ?_;refine u1 Nat (λi=>[I (i:Nat),.bool (u9 i N O)]) (λi=>b1 g {A with s:=y} {e with u:={e.u with bm:=e.u.bm.drop 1,waits:=e.u.waits.set k false,ar:=e.u.ar.set k (kI i N O)}}++[aF.box dv fA [b2 g],aF.box F6 i' (ck N)]) (λi=>i<=4) (λi=>4-i) 0 rfl ?_ ao (λi af=> ?_)
   ·rw[ahr,<-cm,Va nC]
    rfl
   refine bK ?_;refine fV rfl (λbE=> ?_) λbE=> ?_
   ·have lg:i<4:=by omega
    have nn:k<(e.u.ar.set k (kI i N O)).length:=by rw[List.length_set];exact nC
    have CG:(e.u.ar.set k (kI i N O)).getD k default=kI i N O:=by rw[A9 nC,aN rfl]
    have bg:∀z,(e.u.ar.set k (kI i N O))[k]? =some z->ck (sM (kI i N O) i (max (bL N i) (bL O i)))=(ck z).set (0+i*1) (I (max (bL N i) (bL O i))):=λz bG=>by
     rw[List.getElem?_set,aN rfl,aN nC,cx] at bG;subst bG;exact JL lg _
    refine Bn rfl (λhm=> ?_) λhm=> ?_
    ·refine bK ?_
     refine nI (u:=I (bL N i)) rfl has (xW lg) ?_;refine bK ?_;refine sF (K:=dk) (l:=e.u.ar.set k (kI i N O)) (j:=k) (o:=0+i*1) (u:=I (bL O i)) rfl (by rw[CG,<-W2 (N:=N) lg];exact xW lg) ?_;refine bK ?_;refine xM (K:=dk) (l:=e.u.ar.set k (kI i N O)) (j:=k) (o:=0+i*1) (sM (kI i N O) i (max (bL N i) (bL O i))) J J gO rfl bg ?_ (hj:=nn) (ho:=by show 0+i*1<4;omega);refine bK ?_;refine ng (i+1) ?_ ?_ ao ao
     ·rw[W4 lg,hm]
      rfl
     ·rw[List.set_set,W3]
      rfl
    ·refine bK ?_
     refine nI (u:=I (bL N i)) rfl has (xW lg) ?_;refine bK ?_;refine sF (K:=dk) (l:=e.u.ar.set k (kI i N O)) (j:=k) (o:=0+i*1) (u:=I (bL O i)) rfl (by rw[CG,<-W2 (N:=N) lg];exact xW lg) ?_;refine bK ?_;refine xM (K:=dk) (l:=e.u.ar.set k (kI i N O)) (j:=k) (o:=0+i*1) (sM (kI i N O) i (max (bL N i) (bL O i))) J J gO rfl bg ?_ (hj:=nn) (ho:=by show 0+i*1<4;omega);refine bK ?_;refine ng (i+1) ?_ ?_ ao ao
     ·rw[W4 lg,hm]
      rfl
     ·rw[List.set_set,W3]
      rfl
   ·refine bK ?_
    obtain rfl:i=4:=by omega
    refine Bn rfl (λhm=> ?_) λhm=> ?_
    ·rw[aN hm]
     refine bK ?_;refine il (dq:=b1 g {A with s:=y} {e with u:={e.u with bm:=e.u.bm.drop 1,waits:=e.u.waits.set k false,ar:=e.u.ar.set k (kI 4 N O)}}++[aF.box dv fA [b2 g]]) (L':=λz=>b1 g {A with s:=z} {e with u:={e.u with ar:=e.u.ar.set k (kI 4 N O),bm:=(rN (c7 e.b e.u.bS k 6) (e.u.bm.drop 1,e.u.waits.set k false)).1,waits:=(rN (c7 e.b e.u.bS k 6) (e.u.bm.drop 1,e.u.waits.set k false)).2}}++[aF.box dv fA [b2 g],aF.box F6 i' (ck N)]) [0,1,2,3,4,5,6,7,8,9,10,11,12] (λ_=>[]) (λw _ aA=>WZ.any (e:={e with u:={e.u with bm:=e.u.bm.drop 1,waits:=e.u.waits.set k false,ar:=e.u.ar.set k (kI 4 N O)}}) aA k ad ag hl (by show (e.u.waits.set k false).length=_;rw[List.length_set];exact hw) (by show (e.u.bm.drop 1).length<=_;omega)) λz=> ?_
     exact oO (λM bj=>by exact bj.pre) ⟨{A with s:=z},rfl,rfl⟩
    ·rw[aO (by rw[hm];decide)]
     exact oO (λM bj=>by exact bj.pre) ⟨{A with s:=y},rfl,rfl⟩
  ·have BB:¬0<e.u.bm.length:=by omega
   refine bK ?_;refine sH (dq:=b1 g A e) (λ_=>[.bool (decide (((e.u.reqs.length:Nat):Int)=0))]) (λw _ aA=>W7.any aA) λ_=> ?_
   refine bK ?_;refine xJ rfl (λah6=> ?_) λah6=> ?_
   ·have Dk:0<e.u.reqs.length:=by omega
    have ag:=G.reqs _ (by rw[dr,fP Dk];exact List.getElem_mem Dk:e.u.reqs.getD 0 default∈e.u.reqs);unfold wy;rw[F3 rH BB Dk];unfold JE;refine bK ?_;refine sH (dq:=b1 g A e) (λ_=>uN (e.u.reqs.getD 0 default)) (λw _ aA=>WO.any aA Dk) λy=> ?_
    generalize ak:e.u.reqs.getD 0 default=x at ag ⊢;have nC:x.1<e.u.ar.length:=by omega
    have tp:x.1<e.u.lit.length:=by omega
    refine bK ?_;refine qB (K:=dk) (l:=e.u.ar) (j:=x.1) (c:=ck (e.u.ar.getD x.1 default)) J J J ik ?_;refine sH (dq:=b1 g {A with q:=y} {e with u:={e.u with reqs:=e.u.reqs.drop 1}}) (λ_=>[]) (λw _ aA=>PJ.any aA x.1 (e.u.ar.getD x.1 default) nC (by show e.u.bz.length<=_;omega) (by show e.u.gone.length<=_;omega)) λz=> ?_
    refine bK ?_;refine xM (K:=eT) (l:=e.u.lit) (j:=x.1) x.2.1 J J gO rfl (λ_ _=>rfl) ?_;refine bK ?_;refine xM (K:=h7) (l:=e.u.bS) (j:=x.1) x.2.2 J J gO rfl (λ_ _=>rfl) ?_;exact oO (λM bj=>by exact bj.pre) ⟨{A with q:=y,o:=z.1,g:=z.2},rfl,rfl⟩
   ·have Dk:¬0<e.u.reqs.length:=by omega
    unfold wy;rw[F4 rH BB Dk];exact oO (λM bj=>by exact bj.pre) ⟨A,rfl,rfl⟩
end W8
end AE
end
end
namespace AE
namespace W_
noncomputable def body:Code:=(Tryz.f93.body).getD .skip
def N:Nat:=14
noncomputable abbrev bV:=gu Tryz.prog Tryz.f93
def a6:b6:={sl:=dn [(1,.agg ⟨[I 0,I 0,I 0,I 0,I 0,I 0]⟩),(0,.agg ⟨[0,1,2,3,4,5]⟩)],ms:=[],A:=start}
def cq:bC:=[(.d_ #[3,3] 3 0 (I 0),6),
 (.d_ #[3,3] 3 1 (I 0),7),
 (.d_ #[3,3] 3 2 (I 0),8),
 (.k7 #[3,3] 3 3 (I 0),9),
 (.k7 #[3,3] 3 4 (I 0),10),
 (.k7 #[3,3] 3 5 (I 0),11),
 (.bin .geq 3 6 6,.bool true),
 (.bin .lss 3 6 9,.bool true),
 (.bin .geq 3 7 7,.bool true),
 (.bin .lss 3 7 10,.bool true),
 (.bin .geq 3 8 8,.bool true),
 (.bin .lss 3 8 11,.bool true)]
theorem bk:bV (at' 14 cq [] body a6)=some (.agg ⟨[6,7,8,9,10,11]⟩):=aw
def c4:bC:=[(.d_ #[3,3] 3 0 (I 0),6),
 (.d_ #[3,3] 3 1 (I 0),7),
 (.d_ #[3,3] 3 2 (I 0),8),
 (.k7 #[3,3] 3 3 (I 0),9),
 (.k7 #[3,3] 3 4 (I 0),10),
 (.k7 #[3,3] 3 5 (I 0),11),
 (.bin .geq 3 6 6,.bool true),
 (.bin .lss 3 6 9,.bool true),
 (.bin .geq 3 7 7,.bool true),
 (.bin .lss 3 7 10,.bool true),
 (.bin .geq 3 8 8,.bool true),
 (.bin .lss 3 8 11,.bool false)]
theorem e1:bV (at' 14 c4 [] body a6)=some (.agg ⟨[I 0,I 0,I 0,I 0,I 0,I 0]⟩):=aw
def ew:bC:=[(.d_ #[3,3] 3 0 (I 0),6),
 (.d_ #[3,3] 3 1 (I 0),7),
 (.d_ #[3,3] 3 2 (I 0),8),
 (.k7 #[3,3] 3 3 (I 0),9),
 (.k7 #[3,3] 3 4 (I 0),10),
 (.k7 #[3,3] 3 5 (I 0),11),
 (.bin .geq 3 6 6,.bool true),
 (.bin .lss 3 6 9,.bool true),
 (.bin .geq 3 7 7,.bool true),
 (.bin .lss 3 7 10,.bool false)]
theorem e2:bV (at' 14 ew [] body a6)=some (.agg ⟨[I 0,I 0,I 0,I 0,I 0,I 0]⟩):=aw
def eP:bC:=[(.d_ #[3,3] 3 0 (I 0),6),
 (.d_ #[3,3] 3 1 (I 0),7),
 (.d_ #[3,3] 3 2 (I 0),8),
 (.k7 #[3,3] 3 3 (I 0),9),
 (.k7 #[3,3] 3 4 (I 0),10),
 (.k7 #[3,3] 3 5 (I 0),11),
 (.bin .geq 3 6 6,.bool true),
 (.bin .lss 3 6 9,.bool false)]
theorem dH:bV (at' 14 eP [] body a6)=some (.agg ⟨[I 0,I 0,I 0,I 0,I 0,I 0]⟩):=aw
@[reducible] noncomputable def cl (b:bF):List U:=[I b.1,I b.2.1,I b.2.2.1,I b.2.2.2.1,I b.2.2.2.2.1,I b.2.2.2.2.2,I (max b.1 0),I (max b.2.1 0),I (max b.2.2.1 0),I (min b.2.2.2.1 0),I (min b.2.2.2.2.1 0),I (min b.2.2.2.2.2 0)]
theorem any (W:au) (b:bF):Calls Tryz.prog 93 #[X.val b,.agg ⟨[I 0,I 0,I 0,I 0,I 0,I 0]⟩] W λe w'=>e= .returned (.agg ⟨[I 0,I 0,I 0,I 0,I 0,I 0]⟩)/\ch W.heap.size W w':=by
 refine kH (cl b) body a6 N [.agg ⟨[aj 0,aj 1,aj 2,aj 3,aj 4,aj 5]⟩,.agg ⟨[I 0,I 0,I 0,I 0,I 0,I 0]⟩] Tryz.func93 λa ai=> ?_
 letI:=du ai;by_cases aJ:(max b.1 0)<(min b.2.2.2.1 0)
 ·by_cases h1:(max b.2.1 0)<(min b.2.2.2.2.1 0)
  ·by_cases ae:(max b.2.2.1 0)<(min b.2.2.2.2.2 0)
   ·refine bO cq [] (ah (aR.o5 J J J J J J) (ah (aR.o5 J J J J J J) (ah (aR.o5 J J J J J J) (ah (aR.sd J J J J J J) (ah (aR.sd J J J J J J) (ah (aR.sd J J J J J J) (ah bD (ah bD (ah bD (ah bD (ah bD (ah bD bc)))))))))))) bd ?_ ai
    exact bT bk λw2 br=>(by (exfalso;omega))
   ·refine bO c4 [] (ah (aR.o5 J J J J J J) (ah (aR.o5 J J J J J J) (ah (aR.o5 J J J J J J) (ah (aR.sd J J J J J J) (ah (aR.sd J J J J J J) (ah (aR.sd J J J J J J) (ah bD (ah bD (ah bD (ah bD (ah bD (ah a8 bc)))))))))))) bd ?_ ai
    exact bT e1 λw2 br=>(by rfl)
  ·refine bO ew [] (ah (aR.o5 J J J J J J) (ah (aR.o5 J J J J J J) (ah (aR.o5 J J J J J J) (ah (aR.sd J J J J J J) (ah (aR.sd J J J J J J) (ah (aR.sd J J J J J J) (ah bD (ah bD (ah bD (ah a8 bc)))))))))) bd ?_ ai
   exact bT e2 λw2 br=>(by rfl)
 ·refine bO eP [] (ah (aR.o5 J J J J J J) (ah (aR.o5 J J J J J J) (ah (aR.o5 J J J J J J) (ah (aR.sd J J J J J J) (ah (aR.sd J J J J J J) (ah (aR.sd J J J J J J) (ah bD (ah a8 bc)))))))) bd ?_ ai
  exact bT dH λw2 br=>(by rfl)
end W_
end AE
namespace AE
def JQ:U:= .agg ⟨[.int .i64 0,.int .i64 0,.int .i64 0,.int .i64 0,.int .i64 0,.int .i64 0]⟩
variable [aY]
theorem Xa {x y r:U} {b:bF} (hp:dW [x,y]=true) (hr:aM r=true) (a':et [x,y]=[X.val b,JQ]) (bX:aK r=JQ):ju Tryz.prog (93,[x,y],r):=
 lR (a:= #[X.val b,JQ]) hp hr a' bX λw _=>W_.any w b
end AE
namespace AE
namespace Xb
noncomputable def body:Code:=(Tryz.f43.body).getD .skip
def N:Nat:=8
def a6:b6:={sl:=dn [(0,0)],ms:=[],A:=start}
def cq:bC:=[(.bin .eql 51 0 (.slice none 0 0),.bool true)]
theorem bk:gu Tryz.prog Tryz.f43 (at' 8 cq [] body a6)=some (.slice none 0 0):=aw
def c4:bC:=[(.bin .eql 51 0 (.slice none 0 0),.bool false)]
theorem e1:si 51 (at' 8 c4 [] body a6)=some (.slice (some ⟨0,0,none⟩) 0 0,0):=aw
abbrev jn:=at' 8 c4 [] body a6
def e9:List bM:=[]
def fo:aT:=dn [(2,.slice none 0 0)]
def fD:aT:=iZ 8 fo 7 1
theorem e2:dy (cW jn) fo e9=some []:=aw
def fp:gm:=(body,[1,1,0],3)
theorem kR:gu Tryz.prog Tryz.f43 (eS 8 [] [] fp (db fD e9))=some 1:=aw
@[reducible] noncomputable def cl (l:List bA) (fC:dA) (fR:Nat) (cX:List bA:=[]) (a0:dA:=none) (dc:Nat:=0):List U:=[bI fC l fR,bI a0 cX dc]
theorem any (W:au) {jm:U} {l:List bA} (hl:b7 (aG W) 4 ck jm l) (aq:l.length<=100000):Calls Tryz.prog 43 #[jm] W λe w'=>(∃a c,e= .returned (bI a l c)/\dJ W.heap.size (aG w') sw 4 ck (bI a l c) l)/\ch W.heap.size W w':=by
 obtain⟨fC,fR,rfl⟩:=hl.slice;refine kH (cl l fC fR) body a6 N [aj 0] Tryz.func43 λa ai=> ?_
 letI:=du ai;by_cases aJ:fC=none
 ·refine bO cq [] (ah (aR.H' rfl IY rfl aJ) bc) bd ?_ ai
  exact bT bk λw2 br=>(by (subst aJ;exact H8 hl.isNil))
 ·refine bO c4 [] (ah (aR.H_ rfl IY rfl aJ) bc) bd ?_ ai
  obtain⟨cX,gw⟩:=jk ([]++l);have fO:cX.length=0+l.length:=by rw[gw];simp
  refine H4 (l:=[]) (lx:=l) (l':=cX) (bx:=λva vb=>(cl l fC fR cX va vb)) (T:=none) gw e1 IY U1 U2 U3 U4 afl cv I1 afm e2 (ht fD 1) rfl (H6 aw) (AS J J λw hw=>hl.reads I1 hw) (EJ (show 0+l.length<=1000000 by omega)) (show (0+l.length)*I0<=140737488355328 by unfold I0;omega) (λ_ _ _=>AO) (λ_ _ _=>rfl) ?_;intro lV a0 dc ph oe xZ gd w ai;have Dl:=oe.up xZ (bY _) (λ_ _ h=>h);letI:=du ai;refine gP (gQ fp) [] [] bc bd ?_ ai;exact bT kR λw2 br=>(by (exact H9 ph (by rw[gw];rfl) br))
end Xb
namespace Gc
noncomputable def body:Code:=(Tryz.f30.body).getD .skip
def N:Nat:=8
def a6:b6:={sl:=dn [(0,0)],ms:=[],A:=start}
def cq:bC:=[(.bin .eql 30 0 (.slice none 0 0),.bool true)]
theorem bk:gu Tryz.prog Tryz.f30 (at' 8 cq [] body a6)=some (.slice none 0 0):=aw
def c4:bC:=[(.bin .eql 30 0 (.slice none 0 0),.bool false)]
theorem e1:si 30 (at' 8 c4 [] body a6)=some (.slice (some ⟨0,0,none⟩) 0 0,0):=aw
abbrev jn:=at' 8 c4 [] body a6
def e9:List bM:=[]
def fo:aT:=dn [(2,.slice none 0 0)]
def fD:aT:=iZ 8 fo 7 1
theorem e2:dy (cW jn) fo e9=some []:=aw
def fp:gm:=(body,[1,1,0],3)
theorem kR:gu Tryz.prog Tryz.f30 (eS 8 [] [] fp (db fD e9))=some 1:=aw
@[reducible] noncomputable def cl (l:List Bool) (fC:dA) (fR:Nat) (cX:List Bool:=[]) (a0:dA:=none) (dc:Nat:=0):List U:=[bI fC l fR,bI a0 cX dc]
theorem any (W:au) {jm:U} {l:List Bool} (hl:b7 (aG W) 1 hO jm l) (aq:l.length<=100000):Calls Tryz.prog 30 #[jm] W λe w'=>(∃a c,e= .returned (bI a l c)/\dJ W.heap.size (aG w') lT 1 hO (bI a l c) l)/\ch W.heap.size W w':=by
 obtain⟨fC,fR,rfl⟩:=hl.slice;refine kH (cl l fC fR) body a6 N [aj 0] Tryz.func30 λa ai=> ?_
 letI:=du ai;by_cases aJ:fC=none
 ·refine bO cq [] (ah (aR.H' rfl nD rfl aJ) bc) bd ?_ ai
  exact bT bk λw2 br=>(by (subst aJ;exact H8 hl.isNil))
 ·refine bO c4 [] (ah (aR.H_ rfl nD rfl aJ) bc) bd ?_ ai
  obtain⟨cX,gw⟩:=jk ([]++l);have fO:cX.length=0+l.length:=by rw[gw];simp
  refine H4 (l:=[]) (lx:=l) (l':=cX) (bx:=λva vb=>(cl l fC fR cX va vb)) (T:=none) gw e1 nD NQ NR NS NT afe cv mf NU e2 (ht fD 1) rfl (H6 aw) (AS J J λw hw=>hl.reads mf hw) (EJ (show 0+l.length<=1000000 by omega)) (show (0+l.length)*Fj<=140737488355328 by unfold Fj;omega) (λ_ _ _=>AO) (λ_ _ _=>rfl) ?_;intro lV a0 dc ph oe xZ gd w ai;have Dl:=oe.up xZ (bY _) (λ_ _ h=>h);letI:=du ai;refine gP (gQ fp) [] [] bc bd ?_ ai;exact bT kR λw2 br=>(by (exact H9 ph (by rw[gw];rfl) br))
end Gc
namespace PX
noncomputable def body:Code:=(Tryz.f92.body).getD .skip
def N:Nat:=8
def a6:b6:={sl:=dn [(0,0)],ms:=[],A:=start}
def cq:bC:=[(.bin .eql 26 0 (.slice none 0 0),.bool true)]
theorem bk:gu Tryz.prog Tryz.f92 (at' 8 cq [] body a6)=some (.slice none 0 0):=aw
def c4:bC:=[(.bin .eql 26 0 (.slice none 0 0),.bool false)]
theorem e1:si 26 (at' 8 c4 [] body a6)=some (.slice (some ⟨0,0,none⟩) 0 0,0):=aw
abbrev jn:=at' 8 c4 [] body a6
def e9:List bM:=[]
def fo:aT:=dn [(2,.slice none 0 0)]
def fD:aT:=iZ 8 fo 7 1
theorem e2:dy (cW jn) fo e9=some []:=aw
def fp:gm:=(body,[1,1,0],3)
theorem kR:gu Tryz.prog Tryz.f92 (eS 8 [] [] fp (db fD e9))=some 1:=aw
@[reducible] noncomputable def cl (l:List Int) (fC:dA) (fR:Nat) (cX:List Int:=[]) (a0:dA:=none) (dc:Nat:=0):List U:=[bI fC l fR,bI a0 cX dc]
theorem any (W:au) {jm:U} {l:List Int} (hl:b7 (aG W) 1 ih jm l) (aq:l.length<=100000):Calls Tryz.prog 92 #[jm] W λe w'=>(∃a c,e= .returned (bI a l c)/\dJ W.heap.size (aG w') sj 1 ih (bI a l c) l)/\ch W.heap.size W w':=by
 obtain⟨fC,fR,rfl⟩:=hl.slice;refine kH (cl l fC fR) body a6 N [aj 0] Tryz.func92 λa ai=> ?_
 letI:=du ai;by_cases aJ:fC=none
 ·refine bO cq [] (ah (aR.H' rfl l8 rfl aJ) bc) bd ?_ ai
  exact bT bk λw2 br=>(by (subst aJ;exact H8 hl.isNil))
 ·refine bO c4 [] (ah (aR.H_ rfl l8 rfl aJ) bc) bd ?_ ai
  obtain⟨cX,gw⟩:=jk ([]++l);have fO:cX.length=0+l.length:=by rw[gw];simp
  refine H4 (l:=[]) (lx:=l) (l':=cX) (bx:=λva vb=>(cl l fC fR cX va vb)) (T:=none) gw e1 l8 ady adz adA adB adC cv MQ adD e2 (ht fD 1) rfl (H6 aw) (AS J J λw hw=>hl.reads MQ hw) (EJ (show 0+l.length<=1000000 by omega)) (show (0+l.length)*MP<=140737488355328 by unfold MP;omega) (λ_ _ _=>AO) (λ_ _ _=>rfl) ?_;intro lV a0 dc ph oe xZ gd w ai;have Dl:=oe.up xZ (bY _) (λ_ _ h=>h);letI:=du ai;refine gP (gQ fp) [] [] bc bd ?_ ai;exact bT kR λw2 br=>(by (exact H9 ph (by rw[gw];rfl) br))
end PX
namespace Xc
noncomputable def body:Code:=(Tryz.f29.body).getD .skip
def N:Nat:=8
def a6:b6:={sl:=dn [(0,0)],ms:=[],A:=start}
def cq:bC:=[(.bin .eql 29 0 (.slice none 0 0),.bool true)]
theorem bk:gu Tryz.prog Tryz.f29 (at' 8 cq [] body a6)=some (.slice none 0 0):=aw
def c4:bC:=[(.bin .eql 29 0 (.slice none 0 0),.bool false)]
theorem e1:si 29 (at' 8 c4 [] body a6)=some (.slice (some ⟨0,0,none⟩) 0 0,0):=aw
abbrev jn:=at' 8 c4 [] body a6
def e9:List bM:=[]
def fo:aT:=dn [(2,.slice none 0 0)]
def fD:aT:=iZ 8 fo 7 1
theorem e2:dy (cW jn) fo e9=some []:=aw
def fp:gm:=(body,[1,1,0],3)
theorem kR:gu Tryz.prog Tryz.f29 (eS 8 [] [] fp (db fD e9))=some 1:=aw
@[reducible] noncomputable def cl (l:List cr) (fC:dA) (fR:Nat) (cX:List cr:=[]) (a0:dA:=none) (dc:Nat:=0):List U:=[bI fC l fR,bI a0 cX dc]
theorem any (W:au) {jm:U} {l:List cr} (hl:b7 (aG W) 8 hA jm l) (aq:l.length<=100000):Calls Tryz.prog 29 #[jm] W λe w'=>(∃a c,e= .returned (bI a l c)/\dJ W.heap.size (aG w') nA 8 hA (bI a l c) l)/\ch W.heap.size W w':=by
 obtain⟨fC,fR,rfl⟩:=hl.slice;refine kH (cl l fC fR) body a6 N [aj 0] Tryz.func29 λa ai=> ?_
 letI:=du ai;by_cases aJ:fC=none
 ·refine bO cq [] (ah (aR.H' rfl k9 rfl aJ) bc) bd ?_ ai
  exact bT bk λw2 br=>(by (subst aJ;exact H8 hl.isNil))
 ·refine bO c4 [] (ah (aR.H_ rfl k9 rfl aJ) bc) bd ?_ ai
  obtain⟨cX,gw⟩:=jk ([]++l);have fO:cX.length=0+l.length:=by rw[gw];simp
  refine H4 (l:=[]) (lx:=l) (l':=cX) (bx:=λva vb=>(cl l fC fR cX va vb)) (T:=none) gw e1 k9 adF adG adH adI adJ cv TR adK e2 (ht fD 1) rfl (H6 aw) (AS J J λw hw=>hl.reads TR hw) (EJ (show 0+l.length<=1000000 by omega)) (show (0+l.length)*MR<=140737488355328 by unfold MR;omega) (λ_ _ _=>AO) (λ_ _ _=>rfl) ?_;intro lV a0 dc ph oe xZ gd w ai;have Dl:=oe.up xZ (bY _) (λ_ _ h=>h);letI:=du ai;refine gP (gQ fp) [] [] bc bd ?_ ai;exact bT kR λw2 br=>(by (exact H9 ph (by rw[gw];rfl) br))
end Xc
end AE
namespace AE
namespace Xd
noncomputable def body:Code:=(Tryz.f53.body).getD .skip
def N:Nat:=16
def a6:b6:={sl:=dn [(1,.func (.func 54) ⟨[]⟩ ⟨[0,1]⟩),(0,.agg ⟨[2,3,4,5,6,7,8]⟩)],ms:=[],A:=start}
theorem bk:ml (at' 16 [] [] body a6)=some (92,[8]):=aw
abbrev jn:=at' 16 [] [] body a6
def e9:List bM:=[⟨.cells [2,3,4,5,6,7,8],28,0⟩,⟨.cells [I 0,I 0,I 0,I 0,I 0,I 0,.slice none 0 0],28,0⟩]
def fo:aT:=dn [(4,gF 1 0),(2,gF 0 0),(1,.func (.func 54) ⟨[]⟩ ⟨[0,1]⟩)]
def fD:aT:=iZ 16 fo 8 9
theorem dH:dy (ke Tryz.prog jn) fo e9=some [(0,0),(1,1),(2,2),(3,3),(4,4),(5,5),(6,6),(7,7),(8,8)]:=aw
def fp:gm:=(body,[1,0],3)
def c4:bC:=[(.bp 28 0,.agg ⟨[2,3,4,5,6,7,8]⟩),
 (.cu 28 1 0,1),
 (.bp 25 1,.agg ⟨[I 0,I 0,I 0,I 0,I 0,I 0]⟩)]
def jH:ef:=[(93,[.agg ⟨[2,3,4,5,6,7]⟩,.agg ⟨[I 0,I 0,I 0,I 0,I 0,I 0]⟩],.agg ⟨[I 0,I 0,I 0,I 0,I 0,I 0]⟩)]
theorem lN:gu Tryz.prog Tryz.f53 (eS 16 c4 jH fp (db fD e9))=some (.agg ⟨[2,3,4,5,6,7,9]⟩):=aw
@[reducible] noncomputable def cl (cY:dA) (cG cZ pX:Nat) (b:bF) (pY:Nat) (rP:List Int:=[]) (hB:dA:=none) (hD:Nat:=0):List U:=[gF pX 0,gF pY 0,I b.1,I b.2.1,I b.2.2.1,I b.2.2.2.1,I b.2.2.2.2.1,I b.2.2.2.2.2,.slice cY cG cZ,bI hB rP hD]
theorem any (W:au) {cY:dA} {cG cZ:Nat} {cells:List Int} (hf:b7 (aG W) 1 ih (.slice cY cG cZ) cells) {pX:Nat} {b:bF} (ah7:iJ 0 (aG W) (gF pX 0) 28 [I b.1,I b.2.1,I b.2.2.1,I b.2.2.2.1,I b.2.2.2.2.1,I b.2.2.2.2.2,.slice cY cG cZ]) {pY:Nat} (ah8:iJ 0 (aG W) (gF pY 0) 28 [I 0,I 0,I 0,I 0,I 0,I 0,.slice none 0 0]) (aq:cells.length<=100000):Calls Tryz.prog 53 #[.agg ⟨[I b.1,I b.2.1,I b.2.2.1,I b.2.2.2.1,I b.2.2.2.2.1,I b.2.2.2.2.2,.slice cY cG cZ]⟩,.func (.func 54) #[] #[gF pX 0,gF pY 0]] W λe w'=>(∃a c,e= .returned (jW b (bI a cells c))/\dJ W.heap.size (aG w') sj 1 ih (bI a cells c) cells)/\ch W.heap.size W w':=by
 refine kH (cl cY cG cZ pX b pY) body a6 N [.agg ⟨[aj 2,aj 3,aj 4,aj 5,aj 6,aj 7,aj 8]⟩,.func (.func 54) ⟨[]⟩ ⟨[aj 0,aj 1]⟩] Tryz.func53 λa ai=> ?_
 letI:=du ai;have aA:=bW.qs W;refine bO [] [] bc bd ?_ ai;obtain⟨rP,zF⟩:=jk (cells);refine nJ (Y:=c_) (bx:=λbZ=>(cl cY cG cZ pX b pY rP bZ.1 bZ.2)) aA [] (λbZ=>[]) (λbZ=>[pU bZ.1 rP bZ.2]) bk dH (ht fD 9) (jw:=λw hw dI av=>by rw[zF];exact E3 (PX.any _ ((hf.mono aA.ext).mono hw) aq)) (rest:= ?_);intro lV ⟨hB,hD⟩ dB gd w ai;replace dB:=dB.zv;letI:=du ai;refine gP (gQ fp) c4 jH (ah (aR.Ir (g:=pX) (o:=0) (n:=7) (ah7.up dB.ext) J J J aw aw J J J) (ah (jy 25 0 6) (ah (aR.Ir (g:=pY) (o:=0) (n:=6) (ah8.up dB.ext) J J J aw aw J J J) bc))) (cz (Xa J J J J) bd) ?_ ai;exact bT lN λw2 br=>(by subst zF;exact⟨_,_,rfl,(dB.arr 0 rfl).mono (bY _) λ_ _ _ h=>br _ _ h⟩)
end Xd
namespace PY
noncomputable def body:Code:=(Tryz.f28.body).getD .skip
def N:Nat:=8
def a6:b6:={sl:=dn [(1,.agg ⟨[I 0,I 0,I 0,I 0,I 0,I 0,.slice none 0 0]⟩),(0,.agg ⟨[0,1,2,3,4,5,6]⟩)],ms:=[],A:=start}
def cq:bC:=[(.eo (I 28),I 28)]
theorem bk:y5 (at' 8 cq [] body a6)=some (28,(.agg ⟨[0,1,2,3,4,5,6]⟩)):=aw
abbrev jn:=at' 8 cq [] body a6
def e9:List bM:=[]
def fo:aT:=dn [(1,.agg ⟨[I 0,I 0,I 0,I 0,I 0,I 0,.slice none 0 0]⟩)]
def fD:aT:=iZ 8 fo 2 7
theorem e1:dy (cW jn) fo e9=some []:=aw
def fp:gm:=(body,[0],1)
theorem kY:y5 (eS 8 cq [] fp (db fD e9))=some (28,(.agg ⟨[I 0,I 0,I 0,I 0,I 0,I 0,.slice none 0 0]⟩)):=aw
abbrev oQ:=eS 8 cq [] fp {sl:=fD,ms:=[],A:=eJ e9}
def kZ:List bM:=[]
def jV:aT:=dn [(2,7)]
def hV:aT:=iZ 8 jV 3 8
theorem kR:dy (cW oQ) jV kZ=some [(7,7)]:=aw
def j6:gm:=(body,[0],2)
theorem og:EU (eS 8 cq [] j6 (db hV kZ))=some 28:=aw
abbrev vd:=eS 8 cq [] j6 {sl:=hV,ms:=[],A:=eJ kZ}
def nM:List bM:=[]
def pj:aT:=dn [(3,8),(2,7)]
def iH:aT:=iZ 8 pj 4 9
theorem sO:dy (cW vd) pj nM=some [(8,8),(7,7)]:=aw
def kU:gm:=(body,[0],3)
def c4:bC:=[(.eo (I 28),I 28),
 (.bp 28 7,.agg ⟨[0,1,2,3,4,5,6]⟩)]
theorem ve:ml (eS 8 c4 [] kU (db iH nM))=some (53,[.agg ⟨[0,1,2,3,4,5,6]⟩,.func (.func 54) ⟨[]⟩ ⟨[7,8]⟩]):=aw
abbrev BC:=eS 8 c4 [] kU {sl:=iH,ms:=[],A:=eJ nM}
def qK:List bM:=[]
def vf:aT:=dn [(4,9)]
def mc:aT:=iZ 8 vf 7 (.agg ⟨[0,1,2,3,4,5,10]⟩)
theorem vg:dy (cW BC) vf qK=some [(9,9)]:=aw
def pZ:gm:=(body,[1,0],3)
theorem BD:nY (eS 8 cq [] pZ (db mc qK))=some (28,9,(.agg ⟨[0,1,2,3,4,5,10]⟩)):=aw
abbrev zG:=eS 8 cq [] pZ {sl:=mc,ms:=[],A:=eJ qK}
def x0:List bM:=[]
def x1:aT:=dn [(4,9)]
def ss:aT:=match gy 8 x1 none (.tuple ⟨[]⟩) with|some s=>s|none=> .nil
theorem BE:dy (cW zG) x1 x0=some [(9,9)]:=aw
def Gd:gm:=(body,[1,0],4)
theorem BF:endCell Tryz.f28 (eS 8 cq [] Gd (db ss x0))=some (28,9):=aw
@[reducible] noncomputable def cl (cY:dA) (cG cZ:Nat) (b:bF) (j4:Nat:=0) (g1:Nat:=0) (g2:Nat:=0) (pk:List Int:=[]) (sP:dA:=none) (sQ:Nat:=0):List U:=[I b.1,I b.2.1,I b.2.2.1,I b.2.2.2.1,I b.2.2.2.2.1,I b.2.2.2.2.2,.slice cY cG cZ,gF j4 0,gF g1 0,gF g2 0,bI sP pk sQ]
theorem any (W:au) {b:bF} {cY:dA} {cG cZ:Nat} {cells:List Int} (hf:b7 (aG W) 1 ih (.slice cY cG cZ) cells) (aq:cells.length<=100000):Calls Tryz.prog 28 #[.agg ⟨[I b.1,I b.2.1,I b.2.2.1,I b.2.2.2.1,I b.2.2.2.2.1,I b.2.2.2.2.2,.slice cY cG cZ]⟩,.agg ⟨[I 0,I 0,I 0,I 0,I 0,I 0,.slice none 0 0]⟩] W λe w'=>(∃a c,e= .returned (jW b (bI a cells c))/\dJ W.heap.size (aG w') sj 1 ih (bI a cells c) cells)/\ch W.heap.size W w':=by
 refine kH (cl cY cG cZ b) body a6 N [.agg ⟨[aj 0,aj 1,aj 2,aj 3,aj 4,aj 5,aj 6]⟩,.agg ⟨[I 0,I 0,I 0,I 0,I 0,I 0,.slice none 0 0]⟩] Tryz.func28 λa ai=> ?_
 letI:=du ai;have aA:=bW.qs W;refine bO cq [] (ah (iV _) bc) bd ?_ ai;refine CK (u:= .agg ⟨[I b.1,I b.2.1,I b.2.2.1,I b.2.2.2.1,I b.2.2.2.2.1,I b.2.2.2.2.2,.slice cY cG cZ]⟩) (cs:=[I b.1,I b.2.1,I b.2.2.1,I b.2.2.2.1,I b.2.2.2.2.1,I b.2.2.2.2.2,.slice cY cG cZ]) (bx:=λk0=>(cl cY cG cZ b k0)) bk J J J e1 (ht fD 7) rfl (λ_ k0=>AO) (λ_ _=>rfl) ?_;intro lV j4 fO PZ oe gd w ai;have dB:=aA.new (xq PZ fO oe);replace dB:=dB.zv;letI:=du ai;refine gP (gQ fp) cq [] (ah (iV _) bc) bd ?_ ai;refine CK (u:= .agg ⟨[I 0,I 0,I 0,I 0,I 0,I 0,.slice none 0 0]⟩) (cs:=[I 0,I 0,I 0,I 0,I 0,I 0,.slice none 0 0]) (bx:=λk0=>(cl cY cG cZ b j4 k0)) kY J J J kR (ht hV 8) rfl (λ_ k0=>jj) (λ_ _=>rfl) ?_;intro pa g1 js xt sR gd w ai;have j8:=dB.new (xq xt js sR);replace j8:=j8.FR;letI:=du ai;refine gP (gQ j6) cq [] (ah (iV _) bc) bd ?_ ai;refine M1 (z:= .agg ⟨[I 0,I 0,I 0,I 0,I 0,I 0,.slice none 0 0]⟩) (bx:=λk0=>(cl cY cG cZ b j4 g1 k0)) og aw sO (ht iH 9) rfl (λ_ k0=>jj) (λ_ _=>rfl) ?_;intro oJ g2 ur ll P0 Ge gd w ai;have mq:=j8.new (xq (ty:=28) (cs:=[I 0,I 0,I 0,I 0,I 0,I 0,.slice none 0 0]) (iJ.mk' ur P0) ll Ge);replace mq:=mq.zw;letI:=du ai;refine gP (gQ kU) c4 [] (ah (iV _) (ah (FQ 0 7 0 mq) bc)) bd ?_ ai;obtain⟨pk,Gf⟩:=jk (cells);refine nJ (Y:=c_) (bx:=λbZ=>(cl cY cG cZ b j4 g1 g2 pk bZ.1 bZ.2)) mq [0,1] (λbZ=>[_,_]) (λbZ=>[pU bZ.1 pk bZ.2]) ve vg (ht mc (.agg ⟨[0,1,2,3,4,5,10]⟩)) (jw:=λw hw dI av=>by rw[Gf];exact ah3 (F:=jW b) av (Xd.any _ ((hf.mono mq.ext).mono hw) (av.box 0 rfl) (av.box 1 rfl) aq)) (rest:= ?_);intro Xe ⟨sP,sQ⟩ oR gd w ai;replace oR:=oR.FT;letI:=du ai;refine gP (gQ pZ) cq [] (ah (iV _) bc) bd ?_ ai;refine M9 (g:=g2) (j:=0) (n:=7) (us:=[I b.1,I b.2.1,I b.2.2.1,I b.2.2.2.1,I b.2.2.2.2.1,I b.2.2.2.2.2,bI sP pk sQ]) (cs:=[I 0,I 0,I 0,I 0,I 0,I 0,.slice none 0 0]) (cs':=[I b.1,I b.2.1,I b.2.2.1,I b.2.2.2.1,I b.2.2.2.2.1,I b.2.2.2.2.2,bI sP pk sQ]) (bx:=(cl cY cG cZ b j4 g1 g2 pk sP sQ)) rfl BD aw BE (ht ss (.tuple ⟨[]⟩)) J J J J J (o8 rfl (o8 rfl (o8 rfl (o8 rfl (o8 rfl (o8 rfl (o8 rfl E2))))))) (oR.box 2 rfl) (hJ rfl) (λ_=>jj) ?_;intro P1 P2 Gg gd w ai;have p0:=oR.l_ 2 rfl (v' P2 Gg);replace p0:=p0.FT;letI:=du ai;refine gP (gQ Gd) cq [] (ah (iV _) bc) bd ?_ ai;exact Nn (v:= .agg ⟨[aj 0,aj 1,aj 2,aj 3,aj 4,aj 5,aj 10]⟩) (cs:=[I b.1,I b.2.1,I b.2.2.1,I b.2.2.2.1,I b.2.2.2.2.1,I b.2.2.2.2.2,bI sP pk sQ]) BF J J (p0.box 2 rfl) aw (show a7 Tryz.prog (sizeOf 28)=some 7 by kernel_rfl) J J λw2 P3 br=>⟨(by subst Gf;exact⟨_,_,rfl,(p0.arr 3 rfl).mono (bY _) λ_ _ _ h=>br _ _ h⟩),P3⟩
end PY
end AE
end Go.Proofs.YtepcfjbfkedlpaaGreatDoor
namespace Go.Proofs.YtepcfjbfkedlpaaGreatDoor
open Go Go.Proofs Go.Shelf Go.RowKit Go.Lib
section
def ah9:Go.Shelf.Ren:=⟨λ|212=>58|263=>97|264=>98|n=>n,λ|46=>105|51=>140|146=>141|53=>143|148=>144|n=>n,λ|n=>n⟩
theorem ah':Go.Proofs.Lays.n212 Tryz.prog ah9:={
 mixed:=by kernel_rfl
 f212:=Tryz.func58.trans (congrArg some aw)
 f263:=Tryz.func97.trans (congrArg some aw)
 f264:=Tryz.func98.trans (congrArg some aw)
 t46:=Tryz.underlying105
 a46:=Tryz.isAgg105
 z46:=Tryz.sizeOf105
 v46:=Tryz.zeroValue105
 t51:=Tryz.underlying140
 a51:=Tryz.isAgg140
 z51:=Tryz.sizeOf140
 v51:=Tryz.zeroValue140
 t53:=Tryz.underlying143
 a53:=Tryz.isAgg143
 z53:=Tryz.sizeOf143
 v53:=Tryz.zeroValue143
 t146:=Tryz.underlying141
 a146:=Tryz.isAgg141
 z146:=Tryz.sizeOf141
 v146:=Tryz.zeroValue141
 t148:=Tryz.underlying144
 a148:=Tryz.isAgg144
 z148:=Tryz.sizeOf144
 v148:=Tryz.zeroValue144}
open Go.RowKit Go.Lib in
theorem bits_Mul (x y:Nat) (ak:x<18446744073709551616) (bg:y<18446744073709551616) (w:au):
 Calls Tryz.prog 58 #[.int .u64 x,.int .u64 y] w λe w'=>e= .returned (.tuple #[.int .u64 ((x*y/18446744073709551616:Nat):Int),.int .u64 ((x*y%18446744073709551616:Nat):Int)])/\w'=w:=Any.bits_Mul ah' x y ak bg w
namespace AE
def jo (n i:Nat):List Bool:=List.replicate i true++List.replicate (n-i) false
theorem Xf (n:Nat):jo n n=List.replicate n true:=by simp [jo]
theorem ah_ (n:Nat):(List.replicate n uO).take 0++[true].take (min [true].length ((List.replicate n uO).length-0))++(List.replicate n uO).drop (0+min [true].length ((List.replicate n uO).length-0))=jo n (min [true].length ((List.replicate n uO).length-0)):=by
 have bG:uO=false:=rfl;rw[bG,lG];cases n with
 |zero=>rfl
 |succ n=>
  have:min [true].length (n+1-0)=1:=by simp
  rw[this];simp [jo]
theorem aia {n i:Nat} (h:i<=n):(jo n i).take i++((jo n i).take i).take (min ((jo n i).take i).length ((jo n i).length-i))++(jo n i).drop (i+min ((jo n i).take i).length ((jo n i).length-i))=jo n (i+min ((jo n i).take i).length ((jo n i).length-i)):=by
 have h1:(jo n i).take i=List.replicate i true:=by
  unfold jo;rw[List.take_append_of_le_length (by simp)];simp
 have ae:(jo n i).length=n:=by simp [jo];omega
 rw[h1,ae,lG];generalize hm:min i (n-i)=m;have aib:m<=i:=by omega
 have IM:m<=n-i:=by omega
 unfold jo;rw[List.drop_append,lG,List.drop_of_length_le (by simp),Nat.add_sub_cancel_left,List.take_replicate,List.drop_replicate,Nat.min_eq_left aib,List.nil_append,List.replicate_append_replicate];congr 2;omega
theorem aic {α:Type} {B:Nat} {M:Mem} {e:aH} {k:Nat} {enc:α->List U} {a:Option Addr} {n c:Nat} {l:List α} (h:dJ B M e k enc (.slice a n c) l):l.length<=c:=by
 obtain⟨aS,c',he,al⟩:=h.queue.cap;cases he;exact al
section
variable [aY]
theorem Xg {x y r:U} {p q:Nat} (hp:dW [x,y]=true) (hr:aM r=true) (a':et [x,y]=[.int .u64 ((p:Nat):Int),.int .u64 ((q:Nat):Int)]) (bX:aK r= .tuple ⟨[.int .u64 0,.int .u64 ((q:Nat):Int)]⟩) (h1:p=1) (ae:q<=9000000000000000000):ju Tryz.prog (58,[x,y],r):=
 lR (a:= #[.int .u64 ((p:Nat):Int),.int .u64 ((q:Nat):Int)]) hp hr a' bX λw _=>(bits_Mul p q ao ao w).mono λe w' he=>by
  obtain⟨rfl,rfl⟩:=he;subst h1;refine⟨?_,⟨rfl,rfl,rfl,bY _,λ_ _=>rfl⟩,bY _⟩;rw[Nat.one_mul,Nat.div_eq_of_lt ao,Nat.mod_eq_of_lt ao];rfl
end
end AE
end
end Go.Proofs.YtepcfjbfkedlpaaGreatDoor
namespace Go.Proofs.YtepcfjbfkedlpaaGreatDoor
open Go Go.Proofs Go.RowKit
namespace AE
namespace Xh
noncomputable def body:Code:=(Tryz.f31.body).getD .skip
def N:Nat:=48
def a6:b6:={sl:=dn [(1,1),(0,0)],ms:=[],A:=start}
def cq:bC:=[(.bin .lss 3 1 (I 0),.bool false),
 (.len #[30] 3 0,2),
 (.conv 3 105 2,3),
 (.conv 3 105 1,4),
 (.bin .gtr 105 4 (.int .u64 9223372036854775807),.bool true)]
def lE:ef:=[(58,[3,4],.tuple ⟨[.int .u64 0,4]⟩)]
def c4:bC:=[(.bin .lss 3 1 (I 0),.bool false),
 (.len #[30] 3 0,2),
 (.conv 3 105 2,3),
 (.conv 3 105 1,4),
 (.bin .gtr 105 4 (.int .u64 9223372036854775807),.bool false),
 (.conv 105 3 4,1)]
def jH:ef:=[(58,[3,4],.tuple ⟨[.int .u64 0,4]⟩)]
theorem bk:Ix (at' 48 c4 jH body a6)=some (30,1):=aw
abbrev jn:=at' 48 c4 jH body a6
def e9:List bM:=[]
def fo:aT:=dn [(4,.slice none 0 0),(0,0)]
def fD:aT:=iZ 48 fo 30 5
theorem e1:dy (cW jn) fo e9=some [(0,0)]:=aw
def fp:gm:=(body,[1,1,1,1,0],3)
theorem kY:A4 30 30 (eS 48 [] [] fp (db fD e9))=some (5,0):=aw
abbrev oQ:=eS 48 [] [] fp {sl:=fD,ms:=[],A:=eJ e9}
def kZ:List bM:=[]
def jV:aT:=dn [(7,5),(4,.slice none 0 0)]
def hV:aT:=iZ 48 jV 33 6
theorem kR:dy (cW oQ) jV kZ=some [(5,5)]:=aw
def j6:gm:=(body,[1,1,1,1,1,0],3)
def hH:List bM:=[]
def hI:aT:=dn [(8,7),(7,5),(4,.slice none 0 0)]
abbrev k1:=eS 48 [] [] j6 {sl:=hV,ms:=[],A:=eJ kZ}
theorem og:tv hI hH k1=some [(5,5),(6,7)]:=aw
def h8:Code:=y7 body [1,1,1,1,1,1,0,4]
def lh:List fe:=qp body [1,1,1,1,1,1,0,4] []
theorem sO:se k1=h8:=aw
theorem P4:gX k1=lh:=aw
def eP:bC:=[(.len #[30] 3 5,8),
 (.bin .lss 3 7 8,.bool true),
 (.lr 30 5 (some 7) none none,9),
 (.lr 30 5 none (some 7) none,10)]
theorem P5:A4 30 30 (at' 48 eP [] h8 (db hI hH))=some (9,10):=aw
abbrev vd:=at' 48 eP [] h8 (db hI hH)
def nM:List bM:=[]
def pj:aT:=dn [(38,7),(8,7),(7,5),(4,.slice none 0 0)]
def iH:aT:=iZ 48 pj 45 11
theorem Gh:dy (cW vd) pj nM=some [(5,5),(7,7),(7,7)]:=aw
def kU:gm:=(h8,[1,4],8)
def gL:bC:=[(.bin .add 3 7 11,12)]
theorem vg:uD hI hH (eS 48 gL [] kU (db iH nM))=some [(5,5),(12,7)]:=aw
def iz:bC:=[(.len #[30] 3 5,8),
 (.bin .lss 3 7 8,.bool false)]
theorem P6:gu Tryz.prog Tryz.f31 (qG 48 [] [] lh (at' 48 iz [] h8 (db hI hH)))=some 5:=aw
@[reducible] noncomputable def cl (x:List Bool) (k2:dA) (k3 n:Nat) (jl:List Bool:=[]) (i:Nat:=0) (cX:List Bool:=[]) (a0:dA:=none) (dc:Nat:=0):List U:=[bI k2 x k3,I ((n:Nat):Int),I ((x.length:Nat):Int),.int .u64 ((x.length:Nat):Int),.int .u64 ((n:Nat):Int),bI a0 cX dc,I (((min x.length (cX.length-0)):Nat):Int),I ((i:Nat):Int),I ((jl.length:Nat):Int),.slice (kD a0 dc i 1) (cX.length-i) (dc-i),.slice a0 i dc,I (((min (jl.take i).length (jl.length-i)):Nat):Int),I ((i+(min (jl.take i).length (jl.length-i)):Nat):Int)]
theorem any (W:au) {x:List Bool} {k2:dA} {k3:Nat} (lF:b_ (aG W) [rn 1 hO (bI k2 x k3) x]) (n:Nat) (ak:x=[true]) (aq:n<=100000):Calls Tryz.prog 31 #[bI k2 x k3,I ((n:Nat):Int)] W λe w'=>(∃y:dA×Nat,e= .returned (.slice y.1 n y.2)/\dp (aG W) [rn 1 hO (bI k2 x k3) x] (aG w') [rn 1 hO (bI k2 x k3) x,iK lT 1 hO (.slice y.1 n y.2) (List.replicate n true)])/\ch 0 W w':=by
 refine tJ (cl x k2 k3 n) body a6 N [aj 0,aj 1] Tryz.func31 λa ai=> ?_
 letI:=du ai;have aA:=bW.start W _ lF;have AY:x.length=1:=by rw[ak];rfl
 by_cases aJ:9223372036854775807<((n:Nat):Int)
 ·refine bO cq lE (ah a8 (ah (fW ((aA.red 0 rfl).arr mf) nD) (ah (aR.EL J J aw aw (k':= .u64) aw (IC ao ao) J J) (ah (aR.EL J J aw aw (k':= .u64) aw (IC ao ao) J J) (ah bD bc))))) (cz (Xg J J J J AY ao) bd) ?_ ai
  exfalso;omega
 ·refine bO c4 jH (ah a8 (ah (fW ((aA.red 0 rfl).arr mf) nD) (ah (aR.EL J J aw aw (k':= .u64) aw (IC ao ao) J J) (ah (aR.EL J J aw aw (k':= .u64) aw (IC ao ao) J J) (ah a8 (ah (aR.EL J J aw aw (k':= .i64) aw (wrap64 ao ao) J J) bc)))))) (cz (Xg J J J J AY ao) bd) ?_ ai
  obtain⟨cX,gw⟩:=jk (List.replicate n uO);have fO:cX.length=n:=by rw[gw];exact lG
  refine Um (n:=n) (zr:=uO) (l':=cX) (bx:=λva vb=>(cl x k2 k3 n [] 0 cX va vb)) gw bk nD NQ NR NS NT rfl mf e1 (ht fD 5) J J (by rfl) ao (by unfold Fj;omega) ao (λ_ _ _=>jj) (λ_ _ _=>rfl) ?_;intro lV a0 dc ph oe P7 gd w ai;have dB:=aA.new (Ip ph oe P7);replace dB:=dB.FR;letI:=du ai;refine gP (gQ fp) [] [] bc bd ?_ ai;obtain⟨P8,lo⟩:=jk (cX.take 0++x.take (min x.length (cX.length-0))++cX.drop (0+(min x.length (cX.length-0))));have js:P8.length=cX.length:=by rw[lo];simp only [List.length_append,List.length_take,List.length_drop];omega
  refine Uq (e:=4) (u:=bI a0 cX dc) (a:=a0) (c:=dc) (i:=0) (m:=(min x.length (cX.length-0))) (l:=cX) (ys:=x) (l':=P8) (bx:=(cl x k2 k3 n [] 0 cX a0 dc)) lo rfl kY aw aw mf NU kR (ht hV 6) J J (congrArg (λz=>Value.slice a0 z dc) (show cX.length=cX.length by omega)) rfl ((congrArg (λz=>Value.slice a0 z dc) (show cX.length=cX.length by omega)).trans (aeA _ _ _)) (Us J J ((dB.red 0 rfl).arr mf) mf) (by apply List.ne_nil_of_length_pos;omega) ao (dB.arr 1 rfl) (λ_=>rfl) (λ_=>jj) ?_;intro pa EY sR gd w ai;have j8:=dB.l_ 1 rfl (EX EY sR);replace j8:=j8.FR;letI:=du ai;refine gP (gQ j6) [] [] bc bd ?_ ai;refine y9 (f':=(λ(⟨M,jl,i⟩:Mem×List Bool×Nat)=>aX M (cl x k2 k3 n jl i cX a0 dc))) (λ(⟨M,jl,i⟩:Mem×List Bool×Nat)=>bW 0 (aG W) aA.GY M [rn 1 hO (bI k2 x k3) x,zu a0 cX.length dc jl]/\(i<=n/\jl=jo n i/\jl.length=n/\(0<n->0<i))) (λ(⟨M,jl,i⟩:Mem×List Bool×Nat)=>n-i) ⟨pa,P8,(min x.length (cX.length-0))⟩ og jj (λ_ _ h=>h) (by exact⟨j8,by exact⟨ao,by rw[lo];subst gw ak;exact ah_ n,ao,ao⟩⟩) ?_;intro⟨M,jl,i⟩ bn gd w ai;letI:=du ai;refine y8 sO P4 ?_;have p1:=bn.1;have alM:=aic (p1.arr 1 rfl);have JO:=bn.2.1;have alN:=bn.2.2.2.1;have P9:=bn.2.2.2.2;by_cases nX:((i:Nat):Int)<((jl.length:Nat):Int)
  ·refine bO eP [] (ah (fW ((p1.arr 1 rfl).arr mf) nD) (ah bD (ah (aR.TH J J J nD IU J J (show i<=cX.length by omega) rfl) (ah (aR.adj J J J nD IU J J (show i<=dc by omega) rfl) bc)))) bd ?_ ai
   obtain⟨P',kP⟩:=jk (jl.take i++(jl.take i).take (min (jl.take i).length (jl.length-i))++jl.drop (i+(min (jl.take i).length (jl.length-i))));have ll:P'.length=jl.length:=by rw[kP];simp only [List.length_append,List.length_take,List.length_drop];omega
   refine Uq (e:=4) (u:=bI a0 cX dc) (a:=a0) (c:=dc) (i:=i) (m:=(min (jl.take i).length (jl.length-i))) (l:=jl) (ys:=(jl.take i)) (l':=P') (bx:=(cl x k2 k3 n jl i cX a0 dc)) kP rfl P5 aw aw mf NU Gh (ht iH 11) J J (congrArg (λz=>Value.slice a0 z dc) (show cX.length=jl.length by omega)) rfl (congrArg (λz=>Value.slice (kD a0 dc i 1) z (dc-i)) (show (cX.length-i)=jl.length-i by omega)) (Us J J (((p1.arr 1 rfl).arr mf).take (show i<=cX.length by omega)) mf) (by apply List.ne_nil_of_length_pos;(simp only [List.length_take];omega)) ao (p1.arr 1 rfl) (λ_=>rfl) (λ_=>jj) ?_;intro oJ oD Ge gd w ai;have mq:=p1.l_ 1 rfl (EX oD Ge);replace mq:=mq.FR;letI:=du ai;refine gP (gQ kU) gL [] (ah mj bc) bd ?_ ai;exact zt ⟨oJ,P',i+(min (jl.take i).length (jl.length-i))⟩ vg jj (by exact⟨mq,by have P_:(jl.take i).length=i:=(by rw[List.length_take];omega);exact⟨by rw[P_];omega,by rw[kP,bn.2.2.1];exact aia JO,ao,ao⟩⟩) (by have P_:(jl.take i).length=i:=(by rw[List.length_take];omega);show n-(i+min _ _)<n-i;rw[P_];omega)
  ·refine bO iz [] (ah (fW ((p1.arr 1 rfl).arr mf) nD) (ah a8 bc)) bd ?_ ai
   refine rI [] [] bc bd ?_;exact bT P6 λw2 br=>(by have im:i=n:=ao;have hL:jl=List.replicate n true:=(by rw[bn.2.2.1,im,Xf]);rw[<-hL,<-fO];exact⟨(_,_),rfl,((p1.pick [0,1] rfl).done br)⟩)
end Xh
end AE
namespace AE
def mL (c:Int):Prop:=0<=c/\c<256
instance (c:Int):Decidable (mL c):=by unfold mL;infer_instance
def oS:List Int->Int
 |[]=> -1
 |c::r=>if mL c then (if oS r<0 then -1 else oS r+1) else 0
theorem Qa:∀{l:List Int},(∀c∈l,mL c)->oS l= -1
 |[],_=>rfl
 |c::r,h=>by
  unfold oS;rw[aN (h c (by simp)),Qa λd a_=>h d (by simp [a_]),aN cv]
theorem Qb:∀{l:List Int} {i:Nat},i<l.length->(∀c∈l.take i,mL c)->¬mL (l.getD i default)->oS l=i
 |[],i,h,_,_=>by simp at h
 |c::r,0,_,_,h=>by
  unfold oS;rw[aO (show ¬mL c from h)];rfl
 |c::r,i+1,h,h1,ae=>by
  unfold oS;rw[aN (h1 c (by simp)),Qb (l:=r) (i:=i) (by simpa using h) (λd a_=>h1 d (by simp [a_])) ae,aO ao];omega
theorem aid {l:List Int} {i:Nat} (h:∀c∈l.take i,mL c) (af:i<l.length) (h1:0<=l.getD i default) (ae:l.getD i default<256):∀c∈l.take (i+1),mL c:=by
 have:l.take (i+1)=l.take i++[l.getD i default]:=by
  rw[List.take_add_one,dr,fP af];rfl
 rw[this];intro c al;rcases List.mem_append.1 al with al|al
 ·exact h c al
 ·rw[List.mem_singleton.1 al]
  exact⟨h1,ae⟩
theorem aie {l:List Int} {i:Nat} (h:∀c∈l.take i,mL c) (af:l.length<=i):∀c∈l,mL c:=by
 rwa [List.take_of_length_le af] at h
def Qc:bF:=(0,0,0,0,0,0)
def vh (b:bF) (cells:List Int):Prop:=okB b/\(hG b\/b=Qc)/\dZ b<=2097152/\dZ b=cells.length/\oS cells<0
instance (b:bF) (cells:List Int):Decidable (vh b cells):=by unfold vh;infer_instance
end AE
namespace AE
namespace Qd
noncomputable def body:Code:=(Tryz.f86.body).getD .skip
def N:Nat:=34
noncomputable abbrev bV:=gu Tryz.prog Tryz.f86
def a6:b6:={sl:=dn [(0,.agg ⟨[0,1,2,3,4,5]⟩)],ms:=[],A:=start}
def c4:bC:=[(.bin .lss 3 0 (I (-1048575)),.bool true)]
theorem bk:bV (sI 34 c4 [] 7 (at' 34 [] [] body a6))=some (.bool false):=aw
def ew:bC:=[(.bin .lss 3 0 (I (-1048575)),.bool false),
 (.bin .gtr 3 0 (I 1048575),.bool true)]
theorem e1:bV (sI 34 ew [] 7 (at' 34 [] [] body a6))=some (.bool false):=aw
def eP:bC:=[(.bin .lss 3 0 (I (-1048575)),.bool false),
 (.bin .gtr 3 0 (I 1048575),.bool false),
 (.bin .lss 3 1 (I (-1048575)),.bool true)]
theorem e2:bV (sI 34 eP [] 7 (at' 34 [] [] body a6))=some (.bool false):=aw
def gL:bC:=[(.bin .lss 3 0 (I (-1048575)),.bool false),
 (.bin .gtr 3 0 (I 1048575),.bool false),
 (.bin .lss 3 1 (I (-1048575)),.bool false),
 (.bin .gtr 3 1 (I 1048575),.bool true)]
theorem dH:bV (sI 34 gL [] 7 (at' 34 [] [] body a6))=some (.bool false):=aw
def iz:bC:=[(.bin .lss 3 0 (I (-1048575)),.bool false),
 (.bin .gtr 3 0 (I 1048575),.bool false),
 (.bin .lss 3 1 (I (-1048575)),.bool false),
 (.bin .gtr 3 1 (I 1048575),.bool false),
 (.bin .lss 3 2 (I (-1048575)),.bool true)]
theorem jD:bV (sI 34 iz [] 7 (at' 34 [] [] body a6))=some (.bool false):=aw
def mK:bC:=[(.bin .lss 3 0 (I (-1048575)),.bool false),
 (.bin .gtr 3 0 (I 1048575),.bool false),
 (.bin .lss 3 1 (I (-1048575)),.bool false),
 (.bin .gtr 3 1 (I 1048575),.bool false),
 (.bin .lss 3 2 (I (-1048575)),.bool false),
 (.bin .gtr 3 2 (I 1048575),.bool true)]
theorem oP:bV (sI 34 mK [] 7 (at' 34 [] [] body a6))=some (.bool false):=aw
def oT:bC:=[(.bin .lss 3 0 (I (-1048575)),.bool false),
 (.bin .gtr 3 0 (I 1048575),.bool false),
 (.bin .lss 3 1 (I (-1048575)),.bool false),
 (.bin .gtr 3 1 (I 1048575),.bool false),
 (.bin .lss 3 2 (I (-1048575)),.bool false),
 (.bin .gtr 3 2 (I 1048575),.bool false),
 (.bin .lss 3 3 (I (-1048575)),.bool true)]
theorem kY:bV (sI 34 oT [] 7 (at' 34 [] [] body a6))=some (.bool false):=aw
def qL:bC:=[(.bin .lss 3 0 (I (-1048575)),.bool false),
 (.bin .gtr 3 0 (I 1048575),.bool false),
 (.bin .lss 3 1 (I (-1048575)),.bool false),
 (.bin .gtr 3 1 (I 1048575),.bool false),
 (.bin .lss 3 2 (I (-1048575)),.bool false),
 (.bin .gtr 3 2 (I 1048575),.bool false),
 (.bin .lss 3 3 (I (-1048575)),.bool false),
 (.bin .gtr 3 3 (I 1048575),.bool true)]
theorem kR:bV (sI 34 qL [] 7 (at' 34 [] [] body a6))=some (.bool false):=aw
def vi:bC:=[(.bin .lss 3 0 (I (-1048575)),.bool false),
 (.bin .gtr 3 0 (I 1048575),.bool false),
 (.bin .lss 3 1 (I (-1048575)),.bool false),
 (.bin .gtr 3 1 (I 1048575),.bool false),
 (.bin .lss 3 2 (I (-1048575)),.bool false),
 (.bin .gtr 3 2 (I 1048575),.bool false),
 (.bin .lss 3 3 (I (-1048575)),.bool false),
 (.bin .gtr 3 3 (I 1048575),.bool false),
 (.bin .lss 3 4 (I (-1048575)),.bool true)]
theorem lN:bV (sI 34 vi [] 7 (at' 34 [] [] body a6))=some (.bool false):=aw
def vj:bC:=[(.bin .lss 3 0 (I (-1048575)),.bool false),
 (.bin .gtr 3 0 (I 1048575),.bool false),
 (.bin .lss 3 1 (I (-1048575)),.bool false),
 (.bin .gtr 3 1 (I 1048575),.bool false),
 (.bin .lss 3 2 (I (-1048575)),.bool false),
 (.bin .gtr 3 2 (I 1048575),.bool false),
 (.bin .lss 3 3 (I (-1048575)),.bool false),
 (.bin .gtr 3 3 (I 1048575),.bool false),
 (.bin .lss 3 4 (I (-1048575)),.bool false),
 (.bin .gtr 3 4 (I 1048575),.bool true)]
theorem sS:bV (sI 34 vj [] 7 (at' 34 [] [] body a6))=some (.bool false):=aw
def x2:bC:=[(.bin .lss 3 0 (I (-1048575)),.bool false),
 (.bin .gtr 3 0 (I 1048575),.bool false),
 (.bin .lss 3 1 (I (-1048575)),.bool false),
 (.bin .gtr 3 1 (I 1048575),.bool false),
 (.bin .lss 3 2 (I (-1048575)),.bool false),
 (.bin .gtr 3 2 (I 1048575),.bool false),
 (.bin .lss 3 3 (I (-1048575)),.bool false),
 (.bin .gtr 3 3 (I 1048575),.bool false),
 (.bin .lss 3 4 (I (-1048575)),.bool false),
 (.bin .gtr 3 4 (I 1048575),.bool false),
 (.bin .lss 3 5 (I (-1048575)),.bool true)]
theorem x3:bV (sI 34 x2 [] 7 (at' 34 [] [] body a6))=some (.bool false):=aw
def x4:bC:=[(.bin .lss 3 0 (I (-1048575)),.bool false),
 (.bin .gtr 3 0 (I 1048575),.bool false),
 (.bin .lss 3 1 (I (-1048575)),.bool false),
 (.bin .gtr 3 1 (I 1048575),.bool false),
 (.bin .lss 3 2 (I (-1048575)),.bool false),
 (.bin .gtr 3 2 (I 1048575),.bool false),
 (.bin .lss 3 3 (I (-1048575)),.bool false),
 (.bin .gtr 3 3 (I 1048575),.bool false),
 (.bin .lss 3 4 (I (-1048575)),.bool false),
 (.bin .gtr 3 4 (I 1048575),.bool false),
 (.bin .lss 3 5 (I (-1048575)),.bool false),
 (.bin .gtr 3 5 (I 1048575),.bool true)]
theorem vk:bV (sI 34 x4 [] 7 (at' 34 [] [] body a6))=some (.bool false):=aw
def zH:bC:=[(.bin .lss 3 0 (I (-1048575)),.bool false),
 (.bin .gtr 3 0 (I 1048575),.bool false),
 (.bin .lss 3 1 (I (-1048575)),.bool false),
 (.bin .gtr 3 1 (I 1048575),.bool false),
 (.bin .lss 3 2 (I (-1048575)),.bool false),
 (.bin .gtr 3 2 (I 1048575),.bool false),
 (.bin .lss 3 3 (I (-1048575)),.bool false),
 (.bin .gtr 3 3 (I 1048575),.bool false),
 (.bin .lss 3 4 (I (-1048575)),.bool false),
 (.bin .gtr 3 4 (I 1048575),.bool false),
 (.bin .lss 3 5 (I (-1048575)),.bool false),
 (.bin .gtr 3 5 (I 1048575),.bool false)]
theorem og:bV (sI 34 zH [] 7 (at' 34 [] [] body a6))=some (.bool true):=aw
@[reducible] noncomputable def cl (b:bF):List U:=[I b.1,I b.2.1,I b.2.2.1,I b.2.2.2.1,I b.2.2.2.2.1,I b.2.2.2.2.2]
theorem any (W:au) (b:bF):Calls Tryz.prog 86 #[X.val b] W λe w'=>e= .returned (.bool (decide (okB b)))/\ch W.heap.size W w':=by
 refine kH (cl b) body a6 N [.agg ⟨[aj 0,aj 1,aj 2,aj 3,aj 4,aj 5]⟩] Tryz.func86 λa ai=> ?_
 letI:=du ai;refine bO [] [] bc bd ?_ ai;by_cases aJ:b.1<(-1048575)
 ·refine sg (m:=7) (F:=c4) (T:=[]) (bb:=1000) (d:=10) mixed (ah bD bc) bd ?_
  exact bT bk λw2 br=>(by (rw[di (show ¬okB b from by unfold okB;omega)];rfl))
 ·by_cases h1:1048575<b.1
  ·refine sg (m:=7) (F:=ew) (T:=[]) (bb:=1000) (d:=10) mixed (ah a8 (ah bD bc)) bd ?_
   exact bT e1 λw2 br=>(by (rw[di (show ¬okB b from by unfold okB;omega)];rfl))
  ·by_cases ae:b.2.1<(-1048575)
   ·refine sg (m:=7) (F:=eP) (T:=[]) (bb:=1000) (d:=10) mixed (ah a8 (ah a8 (ah bD bc))) bd ?_
    exact bT e2 λw2 br=>(by (rw[di (show ¬okB b from by unfold okB;omega)];rfl))
   ·by_cases ay:1048575<b.2.1
    ·refine sg (m:=7) (F:=gL) (T:=[]) (bb:=1000) (d:=10) mixed (ah a8 (ah a8 (ah a8 (ah bD bc)))) bd ?_
     exact bT dH λw2 br=>(by (rw[di (show ¬okB b from by unfold okB;omega)];rfl))
    ·by_cases bE:b.2.2.1<(-1048575)
     ·refine sg (m:=7) (F:=iz) (T:=[]) (bb:=1000) (d:=10) mixed (ah a8 (ah a8 (ah a8 (ah a8 (ah bD bc))))) bd ?_
      exact bT jD λw2 br=>(by (rw[di (show ¬okB b from by unfold okB;omega)];rfl))
     ·by_cases cn:1048575<b.2.2.1
      ·refine sg (m:=7) (F:=mK) (T:=[]) (bb:=1000) (d:=10) mixed (ah a8 (ah a8 (ah a8 (ah a8 (ah a8 (ah bD bc)))))) bd ?_
       exact bT oP λw2 br=>(by (rw[di (show ¬okB b from by unfold okB;omega)];rfl))
      ·by_cases cy:b.2.2.2.1<(-1048575)
       ·refine sg (m:=7) (F:=oT) (T:=[]) (bb:=1000) (d:=10) mixed (ah a8 (ah a8 (ah a8 (ah a8 (ah a8 (ah a8 (ah bD bc))))))) bd ?_
        exact bT kY λw2 br=>(by (rw[di (show ¬okB b from by unfold okB;omega)];rfl))
       ·by_cases fx:1048575<b.2.2.2.1
        ·refine sg (m:=7) (F:=qL) (T:=[]) (bb:=1000) (d:=10) mixed (ah a8 (ah a8 (ah a8 (ah a8 (ah a8 (ah a8 (ah a8 (ah bD bc)))))))) bd ?_
         exact bT kR λw2 br=>(by (rw[di (show ¬okB b from by unfold okB;omega)];rfl))
        ·by_cases px:b.2.2.2.2.1<(-1048575)
         ·refine sg (m:=7) (F:=vi) (T:=[]) (bb:=1000) (d:=10) mixed (ah a8 (ah a8 (ah a8 (ah a8 (ah a8 (ah a8 (ah a8 (ah a8 (ah bD bc))))))))) bd ?_
          exact bT lN λw2 br=>(by (rw[di (show ¬okB b from by unfold okB;omega)];rfl))
         ·by_cases zX:1048575<b.2.2.2.2.1
          ·refine sg (m:=7) (F:=vj) (T:=[]) (bb:=1000) (d:=10) mixed (ah a8 (ah a8 (ah a8 (ah a8 (ah a8 (ah a8 (ah a8 (ah a8 (ah a8 (ah bD bc)))))))))) bd ?_
           exact bT sS λw2 br=>(by (rw[di (show ¬okB b from by unfold okB;omega)];rfl))
          ·by_cases alO:b.2.2.2.2.2<(-1048575)
           ·refine sg (m:=7) (F:=x2) (T:=[]) (bb:=1000) (d:=10) mixed (ah a8 (ah a8 (ah a8 (ah a8 (ah a8 (ah a8 (ah a8 (ah a8 (ah a8 (ah a8 (ah bD bc))))))))))) bd ?_
            exact bT x3 λw2 br=>(by (rw[di (show ¬okB b from by unfold okB;omega)];rfl))
           ·by_cases alP:1048575<b.2.2.2.2.2
            ·refine sg (m:=7) (F:=x4) (T:=[]) (bb:=1000) (d:=10) mixed (ah a8 (ah a8 (ah a8 (ah a8 (ah a8 (ah a8 (ah a8 (ah a8 (ah a8 (ah a8 (ah a8 (ah bD bc)))))))))))) bd ?_
             exact bT vk λw2 br=>(by (rw[di (show ¬okB b from by unfold okB;omega)];rfl))
            ·refine sg (m:=7) (F:=zH) (T:=[]) (bb:=1000) (d:=10) mixed (ah a8 (ah a8 (ah a8 (ah a8 (ah a8 (ah a8 (ah a8 (ah a8 (ah a8 (ah a8 (ah a8 (ah a8 bc)))))))))))) bd ?_
             exact bT og λw2 br=>(by (rw[gU (show okB b from by unfold okB;omega)];rfl))
end Qd
namespace Xi
noncomputable def body:Code:=(Tryz.f115.body).getD .skip
def N:Nat:=19
noncomputable abbrev bV:=gu Tryz.prog Tryz.f115
def a6:b6:={sl:=dn [(1,.func (.func 90) ⟨[]⟩ ⟨[]⟩),(0,0)],ms:=[],A:=start}
def cq:bC:=[(.len #[26] 3 0,1)]
def hH:List bM:=[]
def hI:aT:=dn [(8,2),(7,1),(1,.func (.func 90) ⟨[]⟩ ⟨[]⟩),(0,0)]
abbrev k1:=at' 19 cq [] body a6
theorem bk:tv hI hH k1=some [(0,0),(1,1),(I 0,2)]:=aw
def h8:Code:=y7 body [1,0,1,4]
def lh:List fe:=qp body [1,0,1,4] []
theorem e1:se k1=h8:=aw
theorem e2:gX k1=lh:=aw
def c4:bC:=[(.bin .lss 3 2 1,.bool true),
 (.cP 26 0 2,3),
 (.bp 3 3,4),
 (.bin .geq 3 4 (I 0),.bool true),
 (.bin .lss 3 4 (I 256),.bool true),
 (.bin .add 3 2 (I 1),5)]
theorem dH:uD hI hH (at' 19 c4 [] h8 (db hI hH))=some [(0,0),(1,1),(5,2)]:=aw
def ew:bC:=[(.bin .lss 3 2 1,.bool true),
 (.cP 26 0 2,3),
 (.bp 3 3,4),
 (.bin .geq 3 4 (I 0),.bool true),
 (.bin .lss 3 4 (I 256),.bool false)]
theorem jD:bV (qG 19 [] [] lh (at' 19 ew [] h8 (db hI hH)))=some 2:=aw
def gL:bC:=[(.bin .lss 3 2 1,.bool true),
 (.cP 26 0 2,3),
 (.bp 3 3,4),
 (.bin .geq 3 4 (I 0),.bool false)]
theorem oP:bV (qG 19 [] [] lh (at' 19 gL [] h8 (db hI hH)))=some 2:=aw
def iz:bC:=[(.bin .lss 3 2 1,.bool false)]
theorem kY:bV (qG 19 [] [] lh (at' 19 iz [] h8 (db hI hH)))=some (I (-1)):=aw
@[reducible] noncomputable def cl (l:List Int) (fC:dA) (fR:Nat) (i:Nat:=0):List U:=[bI fC l fR,I ((l.length:Nat):Int),I ((i:Nat):Int),iS (bI fC l fR) (i*1),I (l.getD (i) default),I ((i+1:Nat):Int)]
theorem any (W:au) {jm:U} {l:List Int} (hl:b7 (aG W) 1 ih jm l) (aq:l.length<=10000000):Calls Tryz.prog 115 #[jm,.func (.func 90) #[] #[]] W λe w'=>e= .returned (I (oS l))/\ch W.heap.size W w':=by
 obtain⟨fC,fR,rfl⟩:=hl.slice;refine kH (cl l fC fR) body a6 N [aj 0,.func (.func 90) ⟨[]⟩ ⟨[]⟩] Tryz.func115 λa ai=> ?_
 letI:=du ai;refine bO cq [] (ah (fW hl l8) bc) bd ?_ ai;refine y9 (f':=(λi=>aX (aG W) (cl l fC fR i))) (λi=>i<=l.length/\∀c∈l.take i,mL c) (λi=>l.length-i) 0 bk jj (λ_ _ h=>h) (by exact⟨Nat.zero_le _,λc al=>by simp at al⟩) ?_;intro i bn gd w ai;letI:=du ai;refine y8 e1 e2 ?_;have JO:=bn.1;by_cases yC:((i:Nat):Int)<((l.length:Nat):Int)
 ·by_cases hi:0<=(l.getD (i) default)
  ·by_cases gi:(l.getD (i) default)<256
   ·refine bO c4 [] (ah bD (ah (wk hl l8 MN) (ah (Bq 0 hl (rM i) MO) (ah bD (ah bD (ah mj bc)))))) bd ?_ ai
    exact zt (i+1) dH jj (by exact⟨ao,aid bn.2 ao bB ao⟩)
   ·refine bO ew [] (ah bD (ah (wk hl l8 MN) (ah (Bq 0 hl (rM i) MO) (ah bD (ah a8 bc))))) bd ?_ ai
    refine rI [] [] bc bd ?_;exact bT jD λw2 br=>(by (rw[Qb (i:=i) ao bn.2 (λq=>by unfold mL at q;omega)];rfl))
  ·refine bO gL [] (ah bD (ah (wk hl l8 MN) (ah (Bq 0 hl (rM i) MO) (ah a8 bc)))) bd ?_ ai
   refine rI [] [] bc bd ?_;exact bT oP λw2 br=>(by (rw[Qb (i:=i) ao bn.2 (λq=>by unfold mL at q;omega)];rfl))
 ·refine bO iz [] (ah a8 bc) bd ?_ ai
  refine rI [] [] bc bd ?_;exact bT kY λw2 br=>(by (rw[Qa (aie bn.2 ao)];rfl))
end Xi
end AE
namespace AE
namespace Xj
noncomputable def body:Code:=(Tryz.f88.body).getD .skip
def N:Nat:=14
def a6:b6:={sl:=dn [(0,.agg ⟨[0,1,2,3,4,5]⟩)],ms:=[],A:=start}
def cq:bC:=[(.bin .mul 3 6 7,9),
 (.bin .mul 3 9 8,10)]
def lE:ef:=[(95,[.agg ⟨[0,1,2,3,4,5]⟩],.agg ⟨[6,7,8]⟩)]
theorem bk:gu Tryz.prog Tryz.f88 (at' 14 cq lE body a6)=some 10:=aw
@[reducible] noncomputable def cl (b:bF):List U:=[I b.1,I b.2.1,I b.2.2.1,I b.2.2.2.1,I b.2.2.2.2.1,I b.2.2.2.2.2,I (bu b).1,I (bu b).2.1,I (bu b).2.2,I ((bu b).1*(bu b).2.1),I (((bu b).1*(bu b).2.1)*(bu b).2.2)]
theorem any (W:au) (b:bF) (ad:okB b):Calls Tryz.prog 88 #[X.val b] W λe w'=>e= .returned (I (dZ b))/\ch W.heap.size W w':=by
 refine kH (cl b) body a6 N [.agg ⟨[aj 0,aj 1,aj 2,aj 3,aj 4,aj 5]⟩] Tryz.func88 λa ai=> ?_
 letI:=du ai;have bG:=xS ad;have aC:=Pr ad;refine bO cq lE (ah mj (ah mj bc)) (cz (JK J J J J ad) bd) ?_ ai;exact bT bk λw2 br=>(by rfl)
end Xj
namespace Qe
noncomputable def body:Code:=(Tryz.f87.body).getD .skip
def N:Nat:=8
noncomputable abbrev bV:=gu Tryz.prog Tryz.f87
def a6:b6:={sl:=dn [(0,.agg ⟨[0,1,2,3,4,5]⟩)],ms:=[],A:=start}
def cq:bC:=[(.bin .geq 3 0 0,.bool true),
 (.bin .lss 3 0 3,.bool true),
 (.bin .geq 3 1 1,.bool true),
 (.bin .lss 3 1 4,.bool true),
 (.bin .geq 3 2 2,.bool true),
 (.bin .lss 3 2 5,.bool true)]
theorem bk:bV (at' 8 cq [] body a6)=some (.bool false):=aw
def c4:bC:=[(.bin .geq 3 0 0,.bool true),
 (.bin .lss 3 0 3,.bool true),
 (.bin .geq 3 1 1,.bool true),
 (.bin .lss 3 1 4,.bool true),
 (.bin .geq 3 2 2,.bool true),
 (.bin .lss 3 2 5,.bool false)]
theorem e1:bV (at' 8 c4 [] body a6)=some (.bool true):=aw
def ew:bC:=[(.bin .geq 3 0 0,.bool true),
 (.bin .lss 3 0 3,.bool true),
 (.bin .geq 3 1 1,.bool true),
 (.bin .lss 3 1 4,.bool false)]
theorem e2:bV (at' 8 ew [] body a6)=some (.bool true):=aw
def eP:bC:=[(.bin .geq 3 0 0,.bool true),
 (.bin .lss 3 0 3,.bool false)]
theorem dH:bV (at' 8 eP [] body a6)=some (.bool true):=aw
@[reducible] noncomputable def cl (b:bF):List U:=[I b.1,I b.2.1,I b.2.2.1,I b.2.2.2.1,I b.2.2.2.2.1,I b.2.2.2.2.2]
theorem any (W:au) (b:bF):Calls Tryz.prog 87 #[X.val b] W λe w'=>e= .returned (.bool (decide (¬hG b)))/\ch W.heap.size W w':=by
 refine kH (cl b) body a6 N [.agg ⟨[aj 0,aj 1,aj 2,aj 3,aj 4,aj 5]⟩] Tryz.func87 λa ai=> ?_
 letI:=du ai;by_cases aJ:b.1<b.2.2.2.1
 ·by_cases h1:b.2.1<b.2.2.2.2.1
  ·by_cases ae:b.2.2.1<b.2.2.2.2.2
   ·refine bO cq [] (ah bD (ah bD (ah bD (ah bD (ah bD (ah bD bc)))))) bd ?_ ai
    exact bT bk λw2 br=>(by (rw[di (show ¬¬hG b from by unfold hG;omega)];rfl))
   ·refine bO c4 [] (ah bD (ah bD (ah bD (ah bD (ah bD (ah a8 bc)))))) bd ?_ ai
    exact bT e1 λw2 br=>(by (rw[gU (show ¬hG b from by unfold hG;omega)];rfl))
  ·refine bO ew [] (ah bD (ah bD (ah bD (ah a8 bc)))) bd ?_ ai
   exact bT e2 λw2 br=>(by (rw[gU (show ¬hG b from by unfold hG;omega)];rfl))
 ·refine bO eP [] (ah bD (ah a8 bc)) bd ?_ ai
  exact bT dH λw2 br=>(by (rw[gU (show ¬hG b from by unfold hG;omega)];rfl))
end Qe
end AE
end Go.Proofs.YtepcfjbfkedlpaaGreatDoor
