/- Parts of the proof. -/
import Derived.Test.YtepcfjbfkedlpaaGreatDoorMs3
import Derived.ProofKit
import Derived.Shelf.Bits.Mul64
import Derived.Ground.Names2Prog
import Derived.Shelf.GgClosure.StringsIndexFuncTop
import Derived.Ground.GgwProg
set_option maxRecDepth 100000
set_option maxHeartbeats 4000000
noncomputable section
namespace Go.Proofs.YtepcfjbfkedlpaaGreatDoor
open Go Go.Proofs Go.RowKit
namespace AE
variable {P:aQ} [Lib P] {cf:hJ} {B:Nat} {W:ao} {au:List b4} {post:J->List (aw P)->Prop} {ro:List (fk P)}
omit [Lib P] in
theorem sR {N n:Nat} {s:cC} {dst:Option Tmp} {r:J} {q:a1×List bS} (h:q0 N n s dst r=some q):∃dF bG,d' s dF q.2=some bG/\np n bG/\p2 q.2=true/\gG N dF dst r=some q.1/\Nat.blt n d_=true:=by
 unfold q0 at h;dsimp only at h;cases ad:Nat.blt n d_&&(yB s&&qZ n (yA n s).2) with
 |false=>rw[ad] at h;cases h
 |true=>
  rw[ad,bs] at h;simp only [cV] at ad;obtain⟨aA,hs,ad⟩:=ad;obtain⟨bG,ho,h1,ae⟩:=OL hs ad;split at h
  ·rename_i sl hp
   cases h;exact⟨_,bG,ho,h1,ae,hp,aA⟩
  ·cases h
theorem OW (M M':Mem) {env:List J} {n:Nat} (ak:env.length=n):mI n (cn M env) (cn M' env):=sO M M' (cR:=[]) ak
theorem rY {M:Mem} {n:Nat} {env:List J} {v:J} (aA:Nat.blt n d_=true) (ak:env.length=n) (ho:eJ env) (h1:lr v=v): @aM (cn M (v::env)) (aq n)=v:=by
 rw[jS M (env:=v::env) (n:=n+1) ⟨h1,ho⟩ (by simp [ak])];show (bif Nat.beq 0 0 then (bif Nat.blt n d_ then look (v::env) (n+1) n else .pointer (some ⟨n-d_,0,none⟩)) else .complex .f64 n 0)=v;rw[show Nat.beq 0 0=true from rfl,bs,aA,bs];unfold look;rw[show Nat.beq (n+1-1) n=true by rw[Nat.add_sub_cancel];exact Nat.beq_refl n,bs]
omit [Lib P] in
theorem sS (L:List (aw P)) (i:Nat) (r:aw P):bD (L.set i r)=(bD L).set i r.res:=List.map_set
structure nS (cf:hJ) (B:Nat) (W:ao) (au:List b4) (ro:List (fk P)) (post:J->List (aw P)->Prop) (NX:Nat->a1->List bS->Option a7) (o:Option bQ) (n:Nat) (env:List J) (L:List (aw P)) (aL:List (eu P)) (Q:Exit->Act->ao->Prop) (M:Mem):Prop where
 da:∀M,kR (aE W) au M->dR ro M
 ak:env.length=n
 ho:eJ env
 aV:b6 B (aE W) au M (bD L)
 cont:∀{m:Nat} {sl:a1} {aT:List bS} {k:a7} {cR:List J} {L':List (aw P)} {M':Mem} {a:Act} {w:ao},NX (n+m) sl aT=some k->db B W au ro post (n+m) (cR++env) L' aL k->cR.length=m->eJ cR->b6 B (aE W) au M' (bD L')->k9 cf B W M' (cR++env) (eg sl aT) a w->wpListIn (Fr none) 0 P (jq o) (dK P (hk o) Q) (jo o) a w
section
variable {NX:Nat->a1->List bS->Option a7} {n:Nat} {env:List J} {L:List (aw P)} {aL:List (eu P)} {Q:Exit->Act->ao->Prop} {M:Mem} {o:Option bQ}
omit [Lib P] in
theorem nS.rest (H:nS cf B W au ro post NX o n env L aL Q M) {m:Nat} {sl:a1} {aT:List bS} {k:a7} (h:NX (n+m) sl aT=some k) {cR:List J} {L':List (aw P)} (hw:db B W au ro post (n+m) (cR++env) L' aL k) (hm:cR.length=m) (h1:eJ cR) {M':Mem} (sM:b6 B (aE W) au M' (bD L')) {a:Act} {w:ao} (al:k9 cf B W M' (cR++env) (eg sl aT) a w):
 wpListIn (Fr none) 0 P (jq o) (dK P (hk o) Q) (jo o) a w:=H.cont h hw hm h1 sM al
omit [Lib P] in
theorem ag7 (H:nS cf B W au ro post NX o n env L aL Q M) {e:jh} (he:N6 cf n o=some e) {k:a7} (h:NX (n+e.2.2.2) e.2.1 e.2.2.1=some k) (hw:db B W au ro post n env L aL (e.1 k)): @eW (cn M env) eV P cf.N B W Q o:=by
 unfold N6 at he;split at he
 ·rename_i t p x cF
  cases ad:aP p&&aP x with
  |false=>rw[ad] at he;cases he
  |true=>
   rw[ad,bs] at he;simp only [cV] at ad;obtain⟨hp,ah⟩:=ad;obtain⟨q,aU,rfl⟩:=Option.map_eq_some_iff.1 he;obtain⟨dF,bG,cY,gN,hB,dW,_⟩:=sR aU;letI:=eV;have hm:∀M',e8 (cn M env) (cn M' env) bG:=λM'=>Cq (OW M M' H.ak) gN
   have ga:=λv=>jS M H.ho H.ak v
   cases hw with
   |OH i hL Ay Az hj hu h1 b5 ag=>
    refine T' (bC:=env.reverse) rfl cF b5 cY dW hp ah ((ga p).trans Ay) ((ga x).trans Az) hu h1 (H.aV.box i (kf hL)) hj hm (λM' jf bU aR w al=> ?_) (Nat.zero_le _) (fR hB);refine H.rest (m:=0) (cR:=[]) h ag rfl trivial (M':=M') ?_ al;rw[sS];exact H.aV.mG i (kf hL) (yj jf bU)
   |VG i hL Ay Az hj hu h1 b5 ag=>
    refine aeW (bC:=env.reverse) rfl cF b5 cY dW hp ah ((ga p).trans Ay) ((ga x).trans Az) hu h1 (H.aV.box i (kf hL)) hj hm (λM' jf bU aR w al=> ?_) (Nat.zero_le _) (fR hB);refine H.rest (m:=0) (cR:=[]) h ag rfl trivial (M':=M') ?_ al;rw[sS];exact H.aV.mG i (kf hL) (yj jf bU)
   | @VH _ _ _ _ _ _ _ _ d K v l i j y u hL Ay af Az hj hu h1 a_ b5 ag=>
     refine Ug (bC:=env.reverse) rfl cF b5 K.len hj a_ cY dW hp ah ((ga p).trans Ay) ((ga x).trans Az) hu h1 (H.aV.arr d (kf hL)) af hm (λM' jf bU aR w al=> ?_) (Nat.zero_le _) (fR hB);refine H.rest (m:=0) (cR:=[]) h ag rfl trivial (M':=M') ?_ al;rw[sS];exact H.aV.mG d (kf hL) (Et jf bU)
   | @agM _ _ _ _ _ _ _ _ d K v l i y hL Ay af Az b5 ag=>
     refine ad3 (bC:=env.reverse) rfl cF b5 K.len K.one cY dW hp ah ((ga p).trans Ay) ((ga x).trans Az) (H.aV.arr d (kf hL)) af hm (λM' jf bU aR w al=> ?_) (Nat.zero_le _) (fR hB);refine H.rest (m:=0) (cR:=[]) h ag rfl trivial (M':=M') ?_ al;rw[sS];exact H.aV.mG d (kf hL) (Et jf bU)
 ·cases he
omit [Lib P] in
theorem uh (H:nS cf B W au ro post NX o n env L aL Q M) {bG:ec} (gN:np n bG) (M':Mem) (v:J):e8 (cn M env) (cn M' (v::env)) bG:=Cq (sO M M' (cR:=[v]) H.ak) gN
omit [Lib P] in
theorem ag8 (H:nS cf B W au ro post NX o n env L aL Q M) {e:jh} (he:N8 P cf n o=some e) {k:a7} (h:NX (n+e.2.2.2) e.2.1 e.2.2.1=some k) (hw:db B W au ro post n env L aL (e.1 k)): @eW (cn M env) eV P cf.N B W Q o:=by
 unfold N8 at he;split at he
 ·rename_i vs x sg
  cases hp:aP vs with
  |false=>rw[hp] at he;cases he
  |true=>
   rw[hp,bs] at he;split at he
   ·rename_i c gv
    cases x3:ev c with
    |false=>rw[x3] at he;cases he
    |true=>
     rw[x3,bs] at he;obtain⟨q,aU,rfl⟩:=Option.map_eq_some_iff.1 he;obtain⟨dF,bG,cY,gN,hB,dW,aA⟩:=sR aU;letI:=eV;have ga:=λv=>jS M H.ho H.ak v
     have Jf:=λv=>rS M H.ho H.ak v
     have b5:∀K:gE P,P.underlying (wR o)=some (.slice K.e)->N7 P (wR o)=K.k:=λK aF=>by
      unfold N7 elemOf;rw[aF];simp only;rw[K.size]
     cases hw with
     | @VI _ _ _ _ _ _ _ _ d K v l lx hL hs ah aF hd ad ag=>
       obtain⟨Jg,z,af,bu,ui,iS,k4⟩:=K.info;refine TF (l':=l++lx) (bC:=λa c=>(.slice a (l++lx).length c::env).reverse) (dV:=aq n) rfl sg aF af bu ui iS k4 K.pos K.len K.one cY dW rfl (ek v)
        (Ty hp ((ga vs).trans hs) (H.aV.arr d (kf hL))) (My (by rw[b5 K aF] at gv;exact gv) K.len K.pos ((Jf c).trans ah)) hd ad (λM' a c=>uh H gN M' _) (λM' a c=>rY aA H.ak H.ho rfl)
        (λM' a c jf bU dE aO aR w al=> ?_) (Nat.zero_le _) (fR hB)
       refine H.rest (m:=1) (cR:=[.slice a (l++lx).length c]) h (ag a c) rfl ⟨rfl,trivial⟩ (M':=M') ?_ al;rw[sS];exact H.aV.mG d (kf hL) (MZ jf bU aO)
     | @agN _ _ _ _ _ _ _ _ d K v l lx hL hs ah aF hd ad ag=>
       obtain⟨Jg,z,af,bu,ui,iS,k4⟩:=K.info;refine M1 (l':=l++lx) (bC:=λa c=>(.slice a (l++lx).length c::env).reverse) (dV:=aq n) rfl sg aF af bu ui iS k4 K.pos K.len K.one cY dW rfl (ek v)
        (M4 hp ((ga vs).trans hs) (H.aV.kO d (kf hL))) (My (by rw[b5 K aF] at gv;exact gv) K.len K.pos ((Jf c).trans ah)) hd ad (λM' a c=>uh H gN M' _) (λM' a c=>rY aA H.ak H.ho rfl)
        (λM' a c jf bU aO aR w al=> ?_) (Nat.zero_le _) (fR hB)
       refine H.rest (m:=1) (cR:=[.slice a (l++lx).length c]) h (ag a c) rfl ⟨rfl,trivial⟩ (M':=M') ?_ al;rw[sS];exact H.aV.mG d (kf hL) (Ib jf bU aO)
   ·cases he
 ·cases he
omit [Lib P] in
theorem ag9 (H:nS cf B W au ro post NX o n env L aL Q M) {e:jh} (he:N9 cf n o=some e) {k:a7} (h:NX (n+e.2.2.2) e.2.1 e.2.2.1=some k) (hw:db B W au ro post n env L aL (e.1 k)): @eW (cn M env) eV P cf.N B W Q o:=by
 unfold N9 at he;split at he
 ·rename_i vs x sg
  cases ad:aP vs&&aP x with
  |false=>rw[ad] at he;cases he
  |true=>
   rw[ad,bs] at he;simp only [cV] at ad;obtain⟨hp,lW⟩:=ad;obtain⟨q,aU,rfl⟩:=Option.map_eq_some_iff.1 he;obtain⟨dF,bG,cY,gN,hB,dW,aA⟩:=sR aU;letI:=eV;have ga:=λv=>jS M H.ho H.ak v
   cases hw with
   | @VJ _ _ _ _ _ _ _ _ d K v l vx lx hL hs ah aF fB hd ad ag=>
     obtain⟨Jg,z,af,bu,ui,iS,k4⟩:=K.info;refine TF (l':=l++lx) (bC:=λa c=>(.slice a (l++lx).length c::env).reverse) (dV:=aq n) rfl sg aF af bu ui iS k4 K.pos K.len K.one cY dW rfl (ek v)
      (Ty hp ((ga vs).trans hs) (H.aV.arr d (kf hL))) (z1 lW ((ga x).trans ah) λw hw=>(fB M H.aV (H.da M (EV H.aV))).reads K.len hw) hd ad (λM' a c=>uh H gN M' _) (λM' a c=>rY aA H.ak H.ho rfl)
      (λM' a c jf bU dE aO aR w al=> ?_) (Nat.zero_le _) (fR hB)
     refine H.rest (m:=1) (cR:=[.slice a (l++lx).length c]) h (ag a c) rfl ⟨rfl,trivial⟩ (M':=M') ?_ al;rw[sS];exact H.aV.mG d (kf hL) (MZ jf bU aO)
   | @VK _ _ _ _ _ _ _ _ d K v l vx lx hL hs ah aF fB hd ad ag=>
     obtain⟨Jg,z,af,bu,ui,iS,k4⟩:=K.info;refine M1 (l':=l++lx) (bC:=λa c=>(.slice a (l++lx).length c::env).reverse) (dV:=aq n) rfl sg aF af bu ui iS k4 K.pos K.len K.one cY dW rfl (ek v)
      (M4 hp ((ga vs).trans hs) (H.aV.kO d (kf hL))) (z1 lW ((ga x).trans ah) λw hw=>(fB M H.aV (H.da M (EV H.aV))).reads K.len hw) hd ad (λM' a c=>uh H gN M' _) (λM' a c=>rY aA H.ak H.ho rfl)
      (λM' a c jf bU aO aR w al=> ?_) (Nat.zero_le _) (fR hB)
     refine H.rest (m:=1) (cR:=[.slice a (l++lx).length c]) h (ag a c) rfl ⟨rfl,trivial⟩ (M':=M') ?_ al;rw[sS];exact H.aV.mG d (kf hL) (Ib jf bU aO)
 ·cases he
omit [Lib P] in
theorem AA (L:List (aw P)) (r:aw P):bD (L++[r])=bD L++[r.res]:=List.map_append
omit [Lib P] in
theorem ag' (H:nS cf B W au ro post NX o n env L aL Q M) {e:jh} (he:N' cf n o=some e) {k:a7} (h:NX (n+e.2.2.2) e.2.1 e.2.2.1=some k) (hw:db B W au ro post n env L aL (e.1 k)): @eW (cn M env) eV P cf.N B W Q o:=by
 unfold N' at he;split at he
 ·rename_i t x cF
  cases lW:aP x with
  |false=>rw[lW] at he;cases he
  |true=>
   rw[lW,bs] at he;obtain⟨q,aU,rfl⟩:=Option.map_eq_some_iff.1 he;obtain⟨dF,bG,cY,gN,hB,dW,aA⟩:=sR aU;letI:=eV;have ga:=λv=>jS M H.ho H.ak v
   cases hw with
   | @mk _ _ _ _ _ _ _ K z m aF bu ah hd ad ai ag=>
     obtain⟨Jg,VX,af,bu,ui,iS,pb⟩:=bu;refine Ul (l':=List.replicate m z) (bC:=λa c=>(.slice a (List.replicate m z).length c::env).reverse) (dV:=aq n) rfl cF aF af bu ui iS pb K.len cY dW rfl lW ((ga x).trans ah) hd ad ai (λM' a c=>uh H gN M' _) (λM' a c=>rY aA H.ak H.ho rfl)
      (λM' a c jf bU aO aR w al=> ?_) (Nat.zero_le _) (fR hB)
     refine H.rest (m:=1) (cR:=[.slice a (List.replicate m z).length c]) h (ag a c) rfl ⟨rfl,trivial⟩ (M':=M') ?_ al;rw[AA];exact H.aV.new (Ic jf bU aO)
 ·cases he
omit [Lib P] in
theorem ag_ (H:nS cf B W au ro post NX o n env L aL Q M) {e:jh} (he:N_ cf n o=some e) {k:a7} (h:NX (n+e.2.2.2) e.2.1 e.2.2.1=some k) (hw:db B W au ro post n env L aL (e.1 k)): @eW (cn M env) eV P cf.N B W Q o:=by
 unfold N_ at he;split at he
 ·rename_i t x cF
  cases lW:aP x with
  |false=>rw[lW] at he;cases he
  |true=>
   rw[lW,bs] at he;obtain⟨q,aU,rfl⟩:=Option.map_eq_some_iff.1 he;obtain⟨dF,bG,cY,gN,hB,dW,aA⟩:=sR aU;letI:=eV;have ga:=λv=>jS M H.ho H.ak v
   cases hw with
   | @lt _ _ _ _ _ _ _ K y u aF bu kH ah hu ag=>
     obtain⟨VX,bu⟩:=bu;refine ae2 (l':=[y]) (bC:=λa c=>(.slice a [y].length c::env).reverse) (dV:=aq n) rfl cF aF K.size bu K.pos kH K.len cY dW rfl lW ((ga x).trans ah) hu (λM' a c=>uh H gN M' _) (λM' a c=>rY aA H.ak H.ho rfl)
      (λM' a c jf bU aO aR w al=> ?_) (Nat.zero_le _) (fR hB)
     refine H.rest (m:=1) (cR:=[.slice a [y].length c]) h (ag a c) rfl ⟨rfl,trivial⟩ (M':=M') ?_ al;rw[AA];exact H.aV.new (Ic jf bU aO)
 ·cases he
omit [Lib P] in
theorem aha (H:nS cf B W au ro post NX o n env L aL Q M) {e:jh} (he:Oa cf n o=some e) {k:a7} (h:NX (n+e.2.2.2) e.2.1 e.2.2.1=some k) (hw:db B W au ro post n env L aL (e.1 k)): @eW (cn M env) eV P cf.N B W Q o:=by
 unfold Oa at he;split at he
 ·rename_i t xs cF
  cases lW:ev xs with
  |false=>rw[lW] at he;cases he
  |true=>
   rw[lW,bs] at he;obtain⟨q,aU,rfl⟩:=Option.map_eq_some_iff.1 he;obtain⟨dF,bG,cY,gN,hB,dW,aA⟩:=sR aU;letI:=eV;cases hw with
   | @ou _ _ _ _ _ _ _ K l us aF bu kH ah hu ag=>
     obtain⟨VX,bu⟩:=bu;refine ags (bC:=λa c=>(.slice a l.length c::env).reverse) (dV:=aq n) cF aF K.size bu K.pos kH K.len cY dW rfl lW ((rS M H.ho H.ak xs).trans ah) hu (λM' a c=>uh H gN M' _) (λM' a c=>rY aA H.ak H.ho rfl)
      (λM' a c jf bU aO aR w al=> ?_) (Nat.zero_le _) (fR hB)
     refine H.rest (m:=1) (cR:=[.slice a l.length c]) h (ag a c) rfl ⟨rfl,trivial⟩ (M':=M') ?_ al;rw[AA];exact H.aV.new (Ic jf bU aO)
 ·cases he
omit [Lib P] in
theorem ahb (H:nS cf B W au ro post NX o n env L aL Q M) {e:jh} (he:Ob cf n o=some e) {k:a7} (h:NX (n+e.2.2.2) e.2.1 e.2.2.1=some k) (hw:db B W au ro post n env L aL (e.1 k)): @eW (cn M env) eV P cf.N B W Q o:=by
 unfold Ob at he;split at he
 ·rename_i vs x sg
  cases hp:aP vs with
  |false=>rw[hp] at he;cases he
  |true=>
   rw[hp,bs] at he;split at he
   ·rename_i c gv
    cases x3:ev c with
    |false=>rw[x3] at he;cases he
    |true=>
     rw[x3,bs] at he;obtain⟨q,aU,rfl⟩:=Option.map_eq_some_iff.1 he;obtain⟨dF,bG,cY,gN,hB,dW,_⟩:=sR aU;letI:=eV;have hm:∀M',e8 (cn M env) (cn M' env) bG:=λM'=>Cq (OW M M' H.ak) gN
     have ga:=λv=>jS M H.ho H.ak v
     have Jf:=λv=>rS M H.ho H.ak v
     cases hw with
     | @qO _ _ _ _ _ _ _ _ i g ty e cs us j m uU hL hs ah aF bu aJ rk h1 hj ag=>
       have hlen:us.length=c.length:=by rw[<-ah,Vf]
       refine ae7 (bC:=env.reverse) (n:=us.length) rfl sg aF bu cY (by rw[hlen];exact dW) hp ((ga vs).trans hs) (My (enc:=λu:J=>[u]) gv (λ_=>rfl) ck ((Jf c).trans (ah.trans (by simp)))) rfl aJ rk h1 (H.aV.box i (kf hL)) hj hm (λM' jf bU aR w al=> ?_) (Nat.zero_le _) (fR hB);refine H.rest (m:=0) (cR:=[]) h ag rfl trivial (M':=M') ?_ al;rw[sS];exact H.aV.mG i (kf hL) (yj jf bU)
   ·cases he
 ·cases he
omit [Lib P] in
theorem ahc (H:nS cf B W au ro post NX o n env L aL Q M) {e:jh} (he:Oc cf n o=some e) {k:a7} (h:NX (n+e.2.2.2) e.2.1 e.2.2.1=some k) (hw:db B W au ro post n env L aL (e.1 k)): @eW (cn M env) eV P cf.N B W Q o:=by
 unfold Oc at he;split at he
 ·rename_i t x cF
  cases lW:aP x with
  |false=>rw[lW] at he;cases he
  |true=>
   rw[lW,bs] at he;obtain⟨q,aU,rfl⟩:=Option.map_eq_some_iff.1 he;obtain⟨dF,bG,cY,gN,hB,dW,aA⟩:=sR aU;letI:=eV;have ga:=λv=>jS M H.ho H.ak v
   cases hw with
   | @nn _ _ _ _ _ _ _ u cs ah hu ag=>
     refine T9 (bC:=λg=>(.pointer (some ⟨g,0,none⟩)::env).reverse) (dV:=aq n) cF lW ((ga x).trans ah) hu cY dW rfl (λM' g=>uh H gN M' _) (λM' g=>rY aA H.ak H.ho rfl)
      (λM' g wN jf bU aR w al=> ?_) (Nat.zero_le _) (fR hB)
     refine H.rest (m:=1) (cR:=[.pointer (some ⟨g,0,none⟩)]) h (ag g) rfl ⟨rfl,trivial⟩ (M':=M') ?_ al;rw[AA];exact H.aV.new (MY jf wN bU)
 ·cases he
omit [Lib P] in
theorem ahd (H:nS cf B W au ro post NX o n env L aL Q M) {e:jh} (he:Od cf n o=some e) {k:a7} (h:NX (n+e.2.2.2) e.2.1 e.2.2.1=some k) (hw:db B W au ro post n env L aL (e.1 k)): @eW (cn M env) eV P cf.N B W Q o:=by
 unfold Od at he;split at he
 ·rename_i t cF
  obtain⟨q,aU,rfl⟩:=Option.map_eq_some_iff.1 he;obtain⟨dF,bG,cY,gN,hB,dW,aA⟩:=sR aU;letI:=eV;cases hw with
  | @mJ _ _ _ _ _ _ z cs bu hu ag=>
    refine aeM (bC:=λg=>(.pointer (some ⟨g,0,none⟩)::env).reverse) (dV:=aq n) cF bu cY dW rfl (λM' g=>uh H gN M' _) (λM' g=>rY aA H.ak H.ho rfl)
     (λM' g vj wN ahe bU aR w al=> ?_) (Nat.zero_le _) (fR hB)
    refine H.rest (m:=1) (cR:=[.pointer (some ⟨g,0,none⟩)]) h (ag g) rfl ⟨rfl,trivial⟩ (M':=M') ?_ al;rw[AA];exact H.aV.new (MY (B:=B) (iK.mk' vj (by rw[ahe,hu])) wN bU)
 ·cases he
omit [Lib P] in
theorem ahf (H:nS cf B W au ro post NX o n env L aL Q M) {e:jh} (he:Oe cf n o=some e) {k:a7} (h:NX (n+e.2.2.2) e.2.1 e.2.2.1=some k) (hw:db B W au ro post n env L aL (e.1 k)): @eW (cn M env) eV P cf.N B W Q o:=by
 unfold Oe at he;split at he
 ·rename_i t cF
  obtain⟨q,aU,rfl⟩:=Option.map_eq_some_iff.1 he;obtain⟨dF,bG,cY,gN,hB,dW,aA⟩:=sR aU;letI:=eV;cases hw with
  | @yw _ _ _ _ _ _ ag=>
    refine agn (bC:=λg=>(.map (some g)::env).reverse) (dV:=aq n) cF cY dW rfl (λM' g=>uh H gN M' _) (λM' g=>rY aA H.ak H.ho rfl)
     (λM' g wN vj jf bU aR w al=> ?_) (Nat.zero_le _) (fR hB)
    refine H.rest (m:=1) (cR:=[.map (some g)]) h (ag g) rfl ⟨rfl,trivial⟩ (M':=M') ?_ al;rw[AA];exact H.aV.new (agq jf wN bU)
 ·cases he
omit [Lib P] in
theorem ahg (H:nS cf B W au ro post NX o n env L aL Q M) {e:jh} (he:Og cf n o=some e) {k:a7} (h:NX (n+e.2.2.2) e.2.1 e.2.2.1=some k) (hw:db B W au ro post n env L aL (e.1 k)): @eW (cn M env) eV P cf.N B W Q o:=by
 unfold Og at he;split at he
 ·rename_i t m i x cF
  cases ad:aP m&&(aP i&&aP x) with
  |false=>rw[ad] at he;cases he
  |true=>
   rw[ad,bs] at he;simp only [cV] at ad;obtain⟨iY,jO,qb⟩:=ad;obtain⟨q,aU,rfl⟩:=Option.map_eq_some_iff.1 he;obtain⟨dF,bG,cY,gN,hB,dW,aA⟩:=sR aU;letI:=eV;have hm:∀M',e8 (cn M env) (cn M' env) bG:=λM'=>Cq (OW M M' H.ak) gN
   have ga:=λv=>jS M H.ho H.ak v
   cases hw with
   | @yx _ _ _ _ _ eI tS _ _ _ Fb js _ d g es K bU aF hL yk af ah ag aO ai=>
     have hb:=kf hL;refine ago (bC:=env.reverse) (g:=g) (es:=es) bU cF aF cY dW iY jO qb ((ga m).trans yk) ((ga i).trans af) ((ga x).trans ah) (H.aV.sp.ok d _ hb) (H.aV.low g ⟨d,_,hb,rfl⟩) ag aO hm (λM' jf ahh aR w al=> ?_) (Nat.zero_le _) (fR hB);refine H.rest (m:=0) (cR:=[]) h ai rfl trivial (M':=M') ?_ al;rw[sS];exact H.aV.mG d hb (agp jf ahh)
 ·cases he
theorem ahi (H:nS cf B W au ro post NX o n env L aL Q M) {e:jh} (he:Oh P cf n o=some e) {k:a7} (h:NX (n+e.2.2.2) e.2.1 e.2.2.1=some k) (hw:db B W au ro post n env L aL (e.1 k)): @eW (cn M env) eV P cf.N B W Q o:=by
 unfold Oh at he;split at he
 ·rename_i f args r m ko
  cases ad:aP r&&(nN n args&&ev args) with
  |false=>rw[ad] at he;cases he
  |true=>
   rw[ad,bs] at he;simp only [cV] at ad;obtain⟨zq,amM,OX⟩:=ad;obtain⟨q,aU,rfl⟩:=Option.map_eq_some_iff.1 he;obtain⟨dF,bG,cY,gN,hB,dW,aA⟩:=sR aU;letI:=eV;have xQ:∃br,tO P o=some (f,args,br):=by
    unfold N0 at ko;split at ko
    ·rename_i iJ fA br xQ
     cases ad:ev fA&&nN n fA with
     |false=>rw[ad] at ko;cases ko
     |true=>
      rw[ad,bs] at ko;split at ko
      ·cases ko;exact⟨br,xQ⟩
      ·cases ko
    ·cases ko
   obtain⟨br,xQ⟩:=xQ;have Ig:qM P o=(f,args,br):=by unfold qM;rw[xQ];rfl
   cases hw with
   | @call _ _ _ _ _ _ _ _ _ Y is hU vs ku ug hl hm h1 zN ag=>
     refine Um (bC:=λy=>((vs y).reverse++env).reverse) (r:=λy=>ex ((vs y).reverse++env) (n+m) r) (Aj:=λy=>bD (ku y++ug y)) H.aV is (λy=>bD (ku y)) (λy=>bD (ug y)) (by rw[xQ];rfl) (by rw[Ig]) (by rw[Ig]) cY dW (by rw[List.length_map];exact hU)
      (λM' y=>jS M' (qV (nM (h1 y)) H.ho) (by have:=H.ak;simp only [List.length_append,List.length_reverse,hm];omega) r) (λy=>List.map_append) (λw hw dQ aH=> ?_) (λy M'=>Cq (sO M M' H.ak) gN) (λM' y cj aR w al=> ?_) (λy=>by rw[List.length_map];exact hl y) OX zq (Nat.zero_le _) (fR hB)
     ·rw[rS M H.ho H.ak args]
      exact zN w (VR H.da H.aV hw) dQ aH
     ·refine H.rest (m:=m) (cR:=(vs y).reverse) h (ag y) (by rw[List.length_reverse,hm]) (nM (h1 y)) (M':=M') ?_ al
      rw[show bD (uf L is (ku y)++ug y)=bD (uf L is (ku y))++bD (ug y) from List.map_append,VF];exact cj
 ·cases he
theorem ahj {G:iw} {cs:List h8} (H:nS cf B W au ro post NX o n env L aL Q M) (eE:ow cf B W au ro post G) (ai:l0 cf B W au post cs aL Q env) {op:Oper} {r:List Oper} {os:Array Oper} {s:cC} {ks:List fu} {e:jh} (he:Oi n (some (.oper op r os s ks))=some e) {k:a7} (h:qg P cf G (n+e.2.2.2) cs (.ops (op::r) os ks) e.2.1 e.2.2.1=some k) (hw:db B W au ro post n env L aL (e.1 k)): @eW (cn M env) eV P cf.N B W Q (some (.oper op r os s ks)):=by
 unfold Oi at he;split at he
 ·rename_i t b Mb
  split at he
  ·rename_i c m cap OX
   split at he
   ·rename_i bG gN
    cases ad:N1 n bG&&(p2 (rV (de (some (.oper op r os s ks))).A b 0)&&(ev c&&(Nat.blt n d_&&(Nat.ble (rV (de (some (.oper op r os s ks))).A b 0).length b&&(Nat.blt 0 m&&Nat.ble m cap))))) with
    |false=>rw[ad] at he;cases he
    |true=>
     rw[ad,bs] at he;simp only [cV] at ad;obtain⟨jc,jz,rm,tp,GC,Ko,Kp⟩:=ad;obtain⟨sl,eN,rfl⟩:=Option.map_eq_some_iff.1 he;letI:=eV;cases hw with
     | @rU _ _ _ _ _ _ _ _ K xs ah hm ag=>
       refine Na (q:=n) (bC:=λg=>(.slice (some ⟨g,0,none⟩) m cap::env).reverse) OX K.len hm (Nat.blt_eq.mp Ko) (Nat.ble_eq.mp Kp) rm ((rS M H.ho H.ak c).trans ah) (Nat.ble_eq.mp GC) gN (λM' g=>uh H (agO jc) M' _) eN (λg=> ?_) (λM' g jD vj wN bU Ia=> ?_) (Nat.zero_le _) (fR jz)
       ·exact(@G' (cn M (.slice (some ⟨g,0,none⟩) m cap::env)) n).symm.trans (rY tp H.ak H.ho rfl)
       ·refine⟨_,rfl,λa w al=> ?_⟩
        refine sQ eE h (ag g) (by simp [H.ak]) ⟨rfl,H.ho⟩ (ai.ext [_]) (M:=M') ?_ al;rw[AA];exact H.aV.new (Nc jD wN bU Ia)
   ·cases he
  ·cases he
 ·cases he
omit [Lib P] in
theorem uj {a b:Option jh} {e:jh} (h:rW a b=some e):a=some e\/b=some e:=by
 unfold rW at h;split at h
 ·exact .inl h
 ·exact .inr h
theorem VY (H:nS cf B W au ro post NX o n env L aL Q M) {e:jh} (he:I7 P cf n o=some e) {k:a7} (h:NX (n+e.2.2.2) e.2.1 e.2.2.1=some k) (hw:db B W au ro post n env L aL (e.1 k)): @eW (cn M env) eV P cf.N B W Q o:=by
 unfold I7 at he;rcases uj he with he|he
 ·exact ag7 H he h hw
 rcases uj he with he|he
 ·exact ag8 H he h hw
 rcases uj he with he|he
 ·exact ag9 H he h hw
 rcases uj he with he|he
 ·exact ag' H he h hw
 rcases uj he with he|he
 ·exact ag_ H he h hw
 rcases uj he with he|he
 ·exact aha H he h hw
 rcases uj he with he|he
 ·exact ahb H he h hw
 rcases uj he with he|he
 ·exact ahc H he h hw
 rcases uj he with he|he
 ·exact ahd H he h hw
 rcases uj he with he|he
 ·exact ahf H he h hw
 rcases uj he with he|he
 ·exact ahg H he h hw
 ·exact ahi H he h hw
end
section
variable {G:iw} {n:Nat} {env:List J} {L:List (aw P)} {aL:List (eu P)} {cs:List h8} {Q:Exit->Act->ao->Prop} {M:Mem}
structure AB (cf:hJ) (B:Nat) (W:ao) (au:List b4) (ro:List (fk P)) (post:J->List (aw P)->Prop) (G:iw) (n:Nat) (env:List J) (L:List (aw P)) (aL:List (eu P)) (cs:List h8) (Q:Exit->Act->ao->Prop) (M:Mem):Prop where
 da:∀M,kR (aE W) au M->dR ro M
 eE:ow cf B W au ro post G
 ak:env.length=n
 ho:eJ env
 ai:l0 cf B W au post cs aL Q env
 aV:b6 B (aE W) au M (bD L)
theorem AB.iT (H:AB cf B W au ro post G n env L aL cs Q M) (o:Option bQ):nS cf B W au ro post (λfi sl aT=>qg P cf G fi cs (Vs o) sl aT) o n env L aL Q M where
 da:=H.da
 ak:=H.ak
 ho:=H.ho
 aV:=H.aV
 cont h hw hm h1 sM al:=sQ H.eE h hw (by have:=H.ak;simp only [List.length_append];omega) (qV h1 H.ho) (H.ai.ext _) sM al
theorem ahk (H:AB cf B W au ro post G n env L aL cs Q M) {o:Option bQ} {t:a7} (h:Oy P cf G n cs o=some t) (hw:db B W au ro post n env L aL t): @eW (cn M env) eV P cf.N B W Q o:=by
 unfold Oy at h;split at h
 ·rename_i og sl aT m he
  obtain⟨k,ag,rfl⟩:=Option.map_eq_some_iff.1 h;exact VY (H.iT o) he ag hw
 ·cases h
end
omit [Lib P] in
theorem OY:∀(a b:a7),iU a b=true->a=b:=by
 intro a
 induction a<;>intro b h<;>cases b<;>simp only [iU,cV,Bool.false_eq_true,Ot,decide_eq_true_eq] at h
 case o.o b9 _ _ _ _ _=>rw[Ls h.1,gw _ _ h.2.1,cq h.2.2.1,h.2.2.2.1,b9 _ h.2.2.2.2]
 case s.s rf rh _ _ _ _=>rw[Ls h.1,h.2.1,rf _ h.2.2.1,rh _ h.2.2.2]
 case c.c b9 _ _ _ _ _=>rw[cq h.1,pT _ _ h.2.1,gw _ _ h.2.2.1,cq h.2.2.2.1,b9 _ h.2.2.2.2]
 case cs.cs rf rh _ _ _ _=>rw[cq h.1,pT _ _ h.2.1,rf _ h.2.2.1,rh _ h.2.2.2]
 case bb.bb rf rh _ _ _=>rw[gw _ _ h.1,rf _ h.2.1,rh _ h.2.2]
 case qW.qW rf rh ahl _ _ _ _ _=>rw[gw _ _ h.1,rf _ h.2.1,rh _ h.2.2.1,cq h.2.2.2.1,ahl _ h.2.2.2.2]
 case no.no=>rfl
 case ou.ou b9 _ _ _=>rw[cq h.1,pT _ _ h.2.1,b9 _ h.2.2]
 case alt.alt rf rh _ _=>rw[rf _ h.1,rh _ h.2]
 case nO.nO=>rw[cq h.1,gw _ _ h.2]
 case qO.qO b9 _ _ _ _=>rw[cq h.1,gw _ _ h.2.1,pT _ _ h.2.2.1,b9 _ h.2.2.2]
 case ret.ret=>rw[gw _ _ h]
 case back.back=>rw[pT _ _ h]
 case loop.loop b9 _ _ _=>rw[pT _ _ h.1,cq h.2.1,b9 _ h.2.2]
 case c4.c4 b9 _=>rw[b9 _ h]
 case st.st b9 _ _ _ _=>rw[cq h.1,gw _ _ h.2.1,gw _ _ h.2.2.1,b9 _ h.2.2.2]
 case rT.rT b9 _ _ _ _=>rw[cq h.1,gw _ _ h.2.1,pT _ _ h.2.2.1,b9 _ h.2.2.2]
 case qX.qX b9 _ _ _ _=>rw[cq h.1,gw _ _ h.2.1,gw _ _ h.2.2.1,b9 _ h.2.2.2]
 case mk.mk b9 _ _ _=>rw[cq h.1,gw _ _ h.2.1,b9 _ h.2.2]
 case rU.rU b9 _ _ _ _=>rw[pT _ _ h.1,cq h.2.1,cq h.2.2.1,b9 _ h.2.2.2]
 case lt.lt b9 _ _ _=>rw[cq h.1,gw _ _ h.2.1,b9 _ h.2.2]
 case nn.nn b9 _ _ _=>rw[cq h.1,gw _ _ h.2.1,b9 _ h.2.2]
 case mJ.mJ b9 _ _=>rw[cq h.1,b9 _ h.2]
 case yw.yw b9 _ _=>rw[cq h.1,b9 _ h.2]
 case yx.yx b9 _ _ _ _ _=>rw[cq h.1,gw _ _ h.2.1,gw _ _ h.2.2.1,gw _ _ h.2.2.2.1,b9 _ h.2.2.2.2]
 case call.call b9 _ _ _ _ _=>rw[cq h.1,pT _ _ h.2.1,gw _ _ h.2.2.1,cq h.2.2.2.1,b9 _ h.2.2.2.2]
omit [Lib P] in
theorem ahm {x:a7} {n:Nat} {env:List J} {L:List (aw P)} {aL:List (eu P)}:∀(t:a7),E8 x t=true->db B W au ro post n env L aL t->db B W au ro post n env L aL x:=by
 intro t
 induction t with
 |alt a b _ b9=>
  intro h hw;cases hw with
  |alt h1 ae=>
   have h:(iU x a||E8 x b)=true:=h;rw[Bool.or_eq_true] at h;rcases h with h|h
   ·rw[OY _ _ h];exact h1
   ·exact b9 h ae
 |_=>exact λh hw=>by rw[OY _ _ h];exact hw
omit [Lib P] in
theorem OZ {n:Nat} {env:List J} {L:List (aw P)} {aL:List (eu P)}:∀{l:List (Option a7)} {t:a7},Ja l=some t->db B W au ro post n env L aL t->∀x∈l,∃y,x=some y/\db B W au ro post n env L aL y
 |[],_,h,_=>by cases h
 |[a],t,h,hw=>λx ah=>by
  rw[List.mem_singleton] at ah;rw[ah];exact⟨t,h,hw⟩
 |a::b::r,t,h,hw=>by
  unfold Ja at h;split at h
  ·rename_i x y hr
   cases he:E8 x y with
   |false=>
    rw[he,dZ,cz] at h;subst h;cases hw with
    |alt h1 ae=>
     intro z bu;rcases List.mem_cons.1 bu with rfl|bu
     ·exact⟨x,rfl,h1⟩
     ·exact OZ hr ae z bu
   |true=>
    rw[he,bs,cz] at h;subst h;intro z bu;rcases List.mem_cons.1 bu with rfl|bu
    ·exact⟨x,rfl,ahm _ he hw⟩
    ·exact OZ hr hw z bu
  ·cases h
omit [Lib P] in
theorem ahn {os:Array Oper} {K:Act->ao->Prop} {Q:Exit->Act->ao->Prop} {i:Nat} {o:Oper} {a:Act} {w:ao} (ho:os[i]? =some o) (h:wpListIn (Fr none) 0 P os (Exit.then K Q) [o] a w):wpOpIn (Fr none) 0 P os Q i K a w:=by
 unfold wpListIn at h;unfold wpOpIn;rw[ho];simp only;split at h
 ·rename_i h2
  rw[aI h2];unfold Oper.wpIn at h ⊢;refine⟨h.1,?_⟩;have ae:=h.2;generalize (o.semAt (Fr none).round a.eval).run P w=r at ae;cases r with
  |ok x w'=>cases x<;>exact ae
  |halt x w'=>cases x<;>exact ae
 ·rename_i h2
  rw[aG h2];exact h
section
variable {G:iw} {n:Nat} {env:List J} {L:List (aw P)} {aL:List (eu P)} {cs:List h8} {Q:Exit->Act->ao->Prop} {M:Mem}
omit [Lib P] in
theorem VZ (eE:ow cf B W au ro post G) {dC:h'} {F:i'} {T:jg} {sl:a1} {aT:List bS} {t:a7} (h:E9 G n cs dC F T sl aT=some t) (hw:db B W au ro post n env L aL t) (ak:env.length=n) (ho:eJ env) (ai:l0 cf B W au post cs aL Q env) (cl:mK B W au L env F) (dE:mL B W au L env T) (aV:b6 B (aE W) au M (bD L)) {a:Act} {w:ao} (al:k9 cf B W M env (eg sl aT) a w):dC.jR P Q a w:=
 Je eE h hw ak ho ai cl dE aV λad=>Cr (Fe n _) (VQ ad) al
omit [Lib P] in
theorem V0 (eE:ow cf B W au ro post G) {dC:h'} {F:i'} {T:jg} {s:cC} {t:a7} (h:Jb G n cs dC F T s=some t) (hw:db B W au ro post n env L aL t) (ak:env.length=n) (ho:eJ env) (ai:l0 cf B W au post cs aL Q env) (cl:mK B W au L env F) (dE:mL B W au L env T) (aV:b6 B (aE W) au M (bD L)) {a:Act} {w:ao} (al:k9 cf B W M env s a w):dC.jR P Q a w:=by
 unfold Jb at h;cases hs:yB s with
 |false=>rw[hs] at h;cases h
 |true=>
  rw[hs,bs] at h;exact Je eE h hw ak ho ai cl dE aV λad=>Cr (Fe n _) (OL hs ad) al
omit [Lib P] in
theorem O0 [dO P] {N:Nat} {os:Array Oper} {l:Array Bool} {sl:a1}:∀{qF:List Nat} {i:Nat} {eb:a1},E' P N os l sl qF=some (i,eb)->i∈qF/\Jc P N os l sl i=some eb
 |[],i,eb,h=>by cases h
 |j::r,i,eb,h=>by
  unfold E' at h;split at h
  ·rename_i q aU
   cases h;exact⟨List.mem_cons_self,aU⟩
  ·obtain⟨h1,ae⟩:=O0 h
   exact⟨List.mem_cons_of_mem _ h1,ae⟩
omit [Lib P] in
theorem aho [a6] {φ:bM} {ρ':Operand->J} {o:Oper} {t:Operand} {i:Nat} {x v:J} (ah:aD φ x (ρ' t)) (h:Dq x i=some v) (ca:o.op= .extract t i):∃aC,(∀w,(execOp ρ' o).run P w= .ok (.value aC) w)/\aD φ v aC:=by
 cases x with
 |tuple cs=>
  obtain⟨cs⟩:=cs;have h:cs[i]? =some v:=h;cases aU:ρ' t with
  |tuple cs'=>
   rw[aU] at ah;cases ah with
   |tuple _ _ h1 ae=>
    obtain⟨bt,_⟩:=List.getElem?_eq_some_iff.1 h;have qA:i<cs'.size:=by rw[<-h1];simpa using bt
    refine⟨cs'[i],λw=> ?_,?_⟩
    ·unfold execOp
     rw[ca];simp [aU,Instr.extract,qA,Sem.run,pure]
    ·have:=ae i (by simpa using bt)
     simp only [eO,List.getElem?_toArray,h,Option.getD_some] at this;simpa [qA] using this
  |_=>rw[aU] at ah;cases ah
 |_=>cases h
omit [Lib P] in
theorem ahp [a6] [dO P] (cl:pV P) {φ:bM} {ρ ρ':Operand->J} {o:Oper} {v:J} (cI:∀x,aD φ (ρ x) (ρ' x)) (h:Ov P ρ o=some v):(∃aC,(∀w,(execOp ρ' o).run P w= .ok (.value aC) w)/\aD φ v aC)/\Co o=true:=by
 unfold Ov at h;unfold Co;split at h
 ·rename_i c x y ca
  split at h
  ·rename_i b ai
   cases h;have ad:=cI c;rw[ai] at ad;have dw:ρ' c= .bool b:=by
    generalize ρ' c=u at ad;cases ad;rfl
   refine⟨⟨bif b then ρ' x else ρ' y,λw=> ?_,?_⟩,by rw[ca]⟩
   ·unfold execOp
    rw[ca];simp only [dw];cases b<;>rfl
   ·cases b
    ·exact cI y
    ·exact cI x
  ·cases h
 ·rename_i t i ca
  refine⟨aho (cI t) h ca,by rw[ca]⟩
 case h_9 c ca=>
  split at h
  ·rename_i b ad
   split at h
   ·rename_i f aO
    cases hp:Bw f with
    |false=>rw[hp] at h;cases h
    |true=>
     rw[hp,bs] at h;exact⟨Bz cl cI h λiJ mY=>by rw[aO] at mY;cases mY;exact hp,by rw[ca];dsimp only;rw[ad]⟩
   ·cases h
  ·cases h
 case h_10 ca=>exact⟨Bz cl cI h λf aO=>by unfold pU at aO;rw[ca] at aO;cases aO;rfl,by rw[ca]⟩
 all_goals first
  |(rename_i ca;refine⟨DN cl cI h,by rw[ca]⟩)
  |cases h
omit [Lib P] in
theorem V1 [a6] {N:Nat} {ds:List Deferred} {os:Array Oper} {φ:bM} {sl:a1} {a:Act} {o:Oper} {b:Bool} (hs:fe N ds φ sl a) (h:Ou N os sl o=some b):Region.wanted o (yielded os a.tmps)=b:=by
 unfold Ou at h;unfold Region.wanted;split at h
 ·rename_i aA
  rw[aA];cases h;rfl
 ·rename_i j want aA
  rw[aA];dsimp only;split at h
  ·rename_i t aF
   cases bt:Nat.blt t N with
   |false=>rw[bt] at h;cases h
   |true=>
    rw[bt,bs] at h;split at h
    ·rename_i b' dw
     cases h;have ax:=hs.get t _ dw;have ad:a.tmps.getD t undef= .bool b':=by
      generalize a.tmps.getD t undef=u at ax;cases ax;rfl
     have Fh:t<a.tmps.size:=by rw[hs.size];exact Nat.blt_eq.mp bt
     have a_:yielded os a.tmps j=some b':=by
      unfold yielded;have a8:((os[j]?).bind (·.dst)).bind (a.tmps[·]?)=some (.bool b'):=by
       have:(os[j]?).bind (·.dst)=some t:=aF;rw[this];simp only [Option.bind_some];rw[eO,Array.getElem?_eq_getElem Fh] at ad;rw[Array.getElem?_eq_getElem Fh];exact congrArg some ad
      rw[a8]
     rw[a_];cases b'<;>cases want<;>rfl
    ·cases h
  ·cases h
omit [Lib P] in
theorem V2 [a6] [dO P] (cl:pV P) {N:Nat} {ds:List Deferred} {os:Array Oper} {Q:Exit->Act->ao->Prop} (nG:Region.noSelect os=true) (pg:∀c a w,¬Q (.panic c) a w) {φ:bM} {w:ao} {bk:Nat} {l:Array Bool} {sl eb:a1} {i:Nat} {a:Act} (hs:fe N ds φ sl a) (af:i∈Region.ready .any os l) (h:Jc P N os l sl i=some eb)
  (ag:∀aR,fe N ds φ eb aR->wpAnyIn (Fr none) 0 P .any os Q bk (l.setIfInBounds i true) aR w):wpAnyIn (Fr none) 0 P .any os Q (bk+1) l a w:=by
 have about:∀{o:Oper},Co o=true->∀w,o.about P w a.eval=none:=by
  intro o ho w;unfold Oper.about;unfold Co at ho;split at ho
  ·rename_i c ai
   split at ho
   ·rename_i b ad
    unfold resolve;simp only [ai,ad];rfl
   ·cases ho
  ·rename_i ak
   split
   ·rename_i c ai
    exact absurd ai (ak c)
   ·rfl
 unfold Jc at h;split at h
 ·rename_i o ho
  split at h
  ·rename_i aA
   have va:=V1 hs aA;split at h
   ·rename_i v tA
    cases zE:Region.free .any os l i with
    |false=>rw[zE] at h;cases h
    |true=>
     rw[zE,bs] at h;obtain⟨⟨aC,eH,ax⟩,kM⟩:=ahp cl (fZ (hE φ) hs.get) tA;exact wpAnyIn_take (F:=Fr none) rfl ho nG zE (List.contains_iff_mem.2 af) (λc a w h=>absurd h (pg c _ w)) ⟨.inl ⟨va,eH⟩,about kM⟩ (ag _ (hs.put ax h))
   ·cases h
  ·rename_i aA
   have va:=V1 hs aA;cases ad:Co o&&Region.free .any os l i with
   |false=>rw[ad] at h;cases h
   |true=>
    rw[ad,bs] at h;rw[cV] at ad;exact wpAnyIn_take (F:=Fr none) rfl ho nG ad.2 (List.contains_iff_mem.2 af) (λc a w h=>absurd h (pg c _ w)) ⟨.inr ⟨va,rfl⟩,about ad.1⟩ (ag _ (hs.put (aD.xF φ) h))
  ·cases h
 ·cases h
omit [Lib P] in
theorem V3 [a6] [dO P] (cl:pV P) {N:Nat} {ds:List Deferred} {os:Array Oper} {Q:Exit->Act->ao->Prop} (nG:Region.noSelect os=true) (pg:∀c a w,¬Q (.panic c) a w) {φ:bM} {w:ao}:∀(bk:Nat) (l:Array Bool) (sl:a1) (a:Act),fe N ds φ sl a->
  (∀aR,fe N ds φ (Cp P N os bk l sl).2.2 aR->wpAnyIn (Fr none) 0 P .any os Q (Cp P N os bk l sl).1 (Cp P N os bk l sl).2.1 aR w)->wpAnyIn (Fr none) 0 P .any os Q bk l a w
 |0,l,sl,a,hs,ag=>ag a hs
 |bk+1,l,sl,a,hs,ag=>by
  unfold Cp at ag;split at ag
  ·rename_i i eb af
   obtain⟨h1,ae⟩:=O0 af;exact V2 cl nG pg hs h1 ae λaR my=>V3 cl nG pg bk _ eb aR my ag
  ·exact ag a hs
theorem ahq (cH:P.follows .mixedOrders=true) (H:AB cf B W au ro post G n env L aL cs Q M) {bk:Nat} {os:Array Oper} {listed:Array Bool} {ks:List fu} {s:cC} {F:i'} {T:jg} {i:Nat} {t:a7} (h:anyOp P cf G n cs bk os listed ks s F T i=some t) (hw:db B W au ro post n env L aL t) (cl:mK B W au L env F) (dE:mL B W au L env T) {a:Act} {w:ao} (al:k9 cf B W M env s a w):
  wpOpIn (Fr none) 0 P os (dK P ks Q) i (wpAnyIn (Fr none) 0 P .any os (dK P ks Q) bk (listed.setIfInBounds i true)) a w:=by
 unfold anyOp at h;split at h
 ·cases h
 ·rename_i o ho
  refine ahn ho ?_;letI:=cn M env;letI:=eV;split at h
  ·rename_i eb br cF
   letI:dO P:=⟨F⟩;letI:sG P:=⟨T⟩;have cG:=zQ (gl:= .nil) (bk:=1000) cH (cl M H.aV []) (λp hp=>(dE M H.aV [] p hp).Mf) cf.d;exact Td (l1:=[o]) (s:=s) cG [] (by simp only [u1,cF]) al λaR w' wv=>V0 (dC:= .any bk os (listed.setIfInBounds i true) ks) H.eE h hw H.ak H.ho H.ai cl dE H.aV wv
  ·split at h
   ·rename_i og dJ VC m he
    obtain⟨k,ag,rfl⟩:=Option.map_eq_some_iff.1 h;have ahr:nS cf B W au ro post (λfi sl aT=>E9 G fi cs (.any bk os (listed.setIfInBounds i true) ks) (EZ cf.marks) [] sl aT) (some (.oper o [] os s [])) n env L aL (Exit.then (wpAnyIn (Fr none) 0 P .any os (dK P ks Q) bk (listed.setIfInBounds i true)) (dK P ks Q)) M:=
     {da:=H.da,ak:=H.ak,ho:=H.ho,aV:=H.aV
      cont:=λh hw hm h1 sM al=>VZ (dC:= .any bk os (listed.setIfInBounds i true) ks) H.eE h hw (by have:=H.ak;simp only [List.length_append];omega) (qV h1 H.ho) (H.ai.ext _) (mK.marks _ _ _) (mL.nil _ _) sM al}
    obtain⟨st,cF,hq⟩:=VY ahr he ag hw;cases cF;exact hq a w al
   ·cases h
theorem ahs (cH:P.follows .mixedOrders=true) (H:AB cf B W au ro post G n env L aL cs Q M) {bk:Nat} {os:Array Oper} {listed:Array Bool} {ks:List fu} {sl:a1} {aT:List bS} {F:i'} {T:jg} {t:a7} (h:Ow P cf G n cs bk os listed ks sl aT F T=some t) (hw:db B W au ro post n env L aL t) (cl:mK B W au L env F) (dE:mL B W au L env T) {a:Act} {w:ao} (al:k9 cf B W M env (eg sl aT) a w):
  wpAnyIn (Fr none) 0 P .any os (dK P ks Q) bk listed a w:=by
 unfold Ow at h;split at h
 ·rename_i hr
  exact wpAnyIn_done hr (sQ (dC:= .k .normal ks) H.eE h hw H.ak H.ho H.ai H.aV al) bk
 ·rename_i qF cv
  split at h
  ·cases h
  ·rename_i bk
   split at h
   ·rename_i i eb ui
    cases nG:Region.noSelect os with
    |false=>rw[nG] at h;cases h
    |true=>
     rw[nG,bs] at h;obtain⟨h1,ae⟩:= @O0 P ⟨F⟩ _ _ _ _ _ _ _ ui;obtain⟨⟨φ,ds,q1,aB,b_,eB,hh⟩,ln,pR⟩:=al;letI:=cn M env;letI:=eV;have V4:nI (dK P ks Q):=H.ai.calm.vg ks;refine @V2 P (cn M env) ⟨F⟩ (cl M H.aV []) _ _ _ _ nG V4 _ _ _ _ _ _ _ _ aB h1 ae λaR my=> ?_
     refine @V3 P (cn M env) ⟨F⟩ (cl M H.aV []) _ _ _ _ nG V4 _ _ bk _ _ aR my λcr aht=> ?_
     exact VZ (dC:= .any _ os _ ks) H.eE h hw H.ak H.ho H.ai cl dE H.aV ⟨⟨φ,ds,q1,aht,b_,eB,hh⟩,ln,pR⟩
   ·refine wpAnyIn_all rfl cv λi af=> ?_
    obtain⟨y,e,a_⟩:=OZ h hw _ (List.mem_map.2 ⟨i,af,rfl⟩);exact ahq cH H e a_ cl dE al
end
theorem ahu (cH:P.follows .mixedOrders=true) {G:iw} {n:Nat} {env:List J} {L:List (aw P)} {aL:List (eu P)} {cs:List h8} {Q:Exit->Act->ao->Prop} {M:Mem} (H:AB cf B W au ro post G n env L aL cs Q M) {OA:Option J} {F:i'} {T:jg} {o:Option bQ} {t:a7} (h:Oz P cf G n cs OA F T o=some t) (hw:db B W au ro post n env L aL t) (cl:mK B W au L env F) (dE:mL B W au L env T): @eW (cn M env) eV P cf.N B W Q o:=by
 letI:=eV;unfold Oz at h;split at h
 ·rename_i id os s ks
  split at h
  ·rename_i v
   refine⟨_,rfl,λa w al=> ?_⟩;obtain⟨b,ad,ag⟩:=OV H.eE h hw H.ak H.ho H.ai H.aV al;cases b with
   |true=>exact ag
   |false=>exact ag
  ·refine⟨_,rfl,λa w al=>wpIn_region_any cH ?_⟩
   have aU:k9 cf B W M env s a {w with drawn:=w.drawn+1}:= @Here.quiet (cn M env) eV _ _ _ _ _ _ _ al ⟨⟨rfl,rfl,rfl,bL _,λ_ _=>rfl⟩,bL _⟩;exact V0 (dC:= .any os.size os (Array.replicate os.size false) ks) H.eE h hw H.ak H.ho H.ai cl dE H.aV aU
 ·exact⟨_,rfl,λa w al=>ag1 H.eE h hw H.ak H.ho H.ai H.aV al⟩
 ·exact⟨_,rfl,λa w al=>ag4 H.eE h hw H.ak H.ho H.ai H.aV al⟩
 ·rename_i c x y s ks
  cases hp:aP (dU .nil s.sl c) with
  |false=>rw[hp] at h;cases h
  |true=>
   rw[hp,bs] at h;refine⟨_,rfl,λa w al=> ?_⟩;split at h
   ·obtain⟨b,ad,ag⟩:=ag6 H.eE h hw H.ak H.ho H.ai H.aV al
    exact wpIn_cond (t:=b) ((VW hp al).trans ad) ag
   obtain⟨b,ad,ag⟩:=OV H.eE h hw H.ak H.ho H.ai H.aV al;refine wpIn_cond (t:=b) ((VW hp al).trans ad) ?_;cases b with
   |true=>exact ag
   |false=>exact ag
 ·rename_i op r os s ks
  split at h
  ·rename_i v ax
   refine⟨_,rfl,λa w al=> ?_⟩;obtain⟨b,ad,ag⟩:=OV H.eE h hw H.ak H.ho H.ai H.aV al;cases b with
   |true=>exact ag
   |false=>exact ag
  ·split at h
   ·rename_i og sl aT m he
    obtain⟨k,ag,rfl⟩:=Option.map_eq_some_iff.1 h;exact ahj (H.iT (some (.oper op r os s ks))) H.eE H.ai he ag hw
   ·exact ahk H h hw
 ·cases h
theorem ahv (cH:P.follows .mixedOrders=true) (da:∀M,kR (aE W) au M->dR ro M) {G:iw} (eE:ow cf B W au ro post G):ow cf B W au ro post (OD P cf G):=by
 intro n cs dC cU sl aT F T o t h l6 gU cR L aL Q hw ak fX ho ai cl dE M aV a w al;unfold OD at h;split at h
 ·exact OQ da eE h l6 hw ak fX ho ai cl dE M aV a w al
 ·exact OR da eE h l6 hw ak fX ho ai cl dE M aV a w al
 ·split at h
  ·exact OQ da eE h l6 hw ak fX ho ai cl dE M aV a w al
  ·exact OR da eE h l6 hw ak fX ho ai cl dE M aV a w al
  ·have H:AB cf B W au ro post G n (cR++gU) L aL cs Q M:=⟨da,eE,ak,ho,ai.ext cR,aV⟩
   letI:=cn M (cR++gU);letI:=eV;exact h'.agZ ai.calm cH (cl M aV []) (λp hp=>(dE M aV [] p hp).Mf) dC (ahu cH H h hw cl dE) (Cr (e1:=gU) (e2:=cR++gU) (sO M M fX) l6 al)
theorem ahw (cH:P.follows .mixedOrders=true) (da:∀M,kR (aE W) au M->dR ro M) {G:iw} (eE:ow cf B W au ro post G):ow cf B W au ro post (OG P cf G):=by
 intro n cs dC cU sl aT F T o t h l6 gU cR L aL Q hw ak fX ho ai cl dE M aV a w al;unfold OG at h;split at h
 ·rename_i bk os listed ks
  split at h
  ·exact OQ da eE h l6 hw ak fX ho ai cl dE M aV a w al
  ·exact OR da eE h l6 hw ak fX ho ai cl dE M aV a w al
  ·exact ahs cH ⟨da,eE,ak,ho,ai.ext cR,aV⟩ h hw cl dE (Cr (e1:=gU) (e2:=cR++gU) (sO M M fX) l6 al)
 ·exact ahv cH da eE n cs dC cU sl aT F T o t h l6 gU cR L aL Q hw ak fX ho ai cl dE M aV a w al
theorem O1 (cH:P.follows .mixedOrders=true) (da:∀M,kR (aE W) au M->dR ro M):∀bk,ow cf B W au ro post (gen P cf bk)
 |0=>λ_ _ _ _ _ _ _ _ _ _ h=>by cases h
 |bk+1=>ahw cH da (O1 cH da bk)
def V5 (a:Option a7) (t:a7):Bool:=match a with
 |some x=>iU x t
 |none=>false
theorem dg {a:Option a7} {t:a7} (h:V5 a t=true):a=some t:=by
 unfold V5 at h;split at h
 ·rw[OY _ _ h]
 ·cases h
theorem V6 (cH:P.follows .mixedOrders=true) {f:FuncId} {h:yy} {args vs:List J} {n:Nat} {t:a7} (aA:cZ P f h args n=some t) (da:∀M,kR (aE W) [] M->dR ro M) (ak:vs.length=n) (ho:eJ vs)
  (hw:db W.heap.size W [] ro post n vs.reverse [] [] t):Calls P f ⟨fG vs.reverse n args⟩ W λe w=>Jd W [] post e w/\cA W.heap.size W w:=by
 unfold cZ at aA;split at aA
 ·rename_i fn lK
  split at aA
  ·rename_i c O2
   split at aA
   ·rename_i sl gC
    dsimp only at aA;cases hp:ev args with
    |false=>rw[hp] at aA;cases aA
    |true=>
     rw[hp,bs] at aA;have hl:vs.reverse.length=n:=by simpa using ak
     have kY:=nM ho;letI:=cn (aE W) vs.reverse;rw[<-rS (aE W) kY hl args];refine Tt lK O2 gC hp rfl (λi o h=>h) λa al=> ?_
     letI:=eV;exact sQ (cf:=⟨h,args.length+(fn.ntmps-args.length),fn⟩) (dC:= .k .normal [.lL c]) (O1 cH da 10000) aA hw hl kY (.nil _) (b6.MX W) al
   ·cases aA
  ·cases aA
 ·cases aA
theorem ahx (cH:P.follows .mixedOrders=true) {f:FuncId} {h:yy} {args vs:List J} {n:Nat} {t:a7} (aA:cZ P f h args n=some t) (L:List (aw P)) (aH:bY (aE W) (bD L)) (da:∀M,kR (aE W) (bD L) M->dR ro M) (ak:vs.length=n) (ho:eJ vs)
  (hw:db 0 W (bD L) ro post n vs.reverse L [] t):Calls P f ⟨fG vs.reverse n args⟩ W λe w=>Jd W (bD L) post e w/\cA 0 W w:=by
 unfold cZ at aA;split at aA
 ·rename_i fn lK
  split at aA
  ·rename_i c O2
   split at aA
   ·rename_i sl gC
    dsimp only at aA;cases hp:ev args with
    |false=>rw[hp] at aA;cases aA
    |true=>
     rw[hp,bs] at aA;have hl:vs.reverse.length=n:=by simpa using ak
     have kY:=nM ho;letI:=cn (aE W) vs.reverse;rw[<-rS (aE W) kY hl args];refine TD lK O2 gC hp rfl (λi o h=>h) λa al=> ?_
     letI:=eV;exact sQ (cf:=⟨h,args.length+(fn.ntmps-args.length),fn⟩) (dC:= .k .normal [.lL c]) (O1 cH da 10000) aA hw hl kY (.nil _) (b6.start W _ aH) al
   ·cases aA
  ·cases aA
 ·cases aA
end AE
namespace AE
variable {P:aQ} {B:Nat} {W:ao} {au:List b4} {ro:List (fk P)} {post:J->List (aw P)->Prop}
structure X (B:Nat) (W:ao) (au:List b4) (ro:List (fk P)) (post:J->List (aw P)->Prop) (n:Nat) (env:List J) (L:List (aw P)) (aL:List (eu P)) (t:a7):Prop where
 go:env.length=n->eJ env->db B W au ro post n env L aL t
instance amN {n:Nat} {env:List J} {L:List (aw P)} {aL:List (eu P)} {t:a7}:CoeFun (X B W au ro post n env L aL t) λ_=>env.length=n->eJ env->db B W au ro post n env L aL t:=⟨X.go⟩
inductive ix.{u} {α:Type u}:List α->α->Prop
 |z {a:α} {r:List α}:ix (a::r) a
 |s {x a:α} {r:List α} (h:ix r a):ix (x::r) a
inductive nq.{u} {α:Type u}:List α->Nat->α->α->List α->Prop
 |z {a b:α} {r:List α}:nq (a::r) 0 a b (b::r)
 |s {d:Nat} {x a b:α} {r dN:List α} (h:nq r d a b dN):nq (x::r) (d+1) a b (x::dN)
inductive uk.{u} {α:Type u}:List α->Nat->α->List α->Prop
 |z {a b:α} {r:List α}:uk (a::r) 0 b (b::r)
 |s {x b:α} {i:Nat} {r dN:List α} (h:uk r i b dN):uk (x::r) (i+1) b (x::dN)
inductive oY.{u} {α:Type u}:List α->α->List α->Prop
 |z {a:α}:oY [] a [a]
 |s {x a:α} {r dN:List α} (h:oY r a dN):oY (x::r) a (x::dN)
theorem ix.get.{u} {α:Type u} {l:List α} {a:α} (h:ix l a):∃i:Nat,l[i]? =some a:=by
 induction h with
 |z=>exact⟨0,rfl⟩
 |s _ b9=>obtain⟨i,af⟩:=b9;exact⟨i+1,by simpa using af⟩
theorem nq.get.{u} {α:Type u} {l l':List α} {d:Nat} {a b:α} (h:nq l d a b l'):l[d]? =some a/\l'=l.set d b:=by
 induction h with
 |z=>exact⟨rfl,rfl⟩
 |s _ b9=>exact⟨by simpa using b9.1,by rw[b9.2];rfl⟩
theorem uk.eq.{u} {α:Type u} {l l':List α} {i:Nat} {b:α} (h:uk l i b l'):l'=l.set i b/\i<l.length:=by
 induction h with
 |z=>exact⟨rfl,by simp⟩
 |s _ b9=>exact⟨by rw[b9.1];rfl,by simp;exact b9.2⟩
theorem oY.eq.{u} {α:Type u} {l l':List α} {a:α} (h:oY l a l'):l'=l++[a]:=by
 induction h with
 |z=>rfl
 |s _ b9=>rw[b9];rfl
inductive fU (ro:List (fk P)) (L:List (aw P)) (K:gE P) (v:J) (l:List K.α):Prop
 |ro (h:ix ro ⟨K,v,l⟩)
 |arr (h:ix L (.arr K v l))
 |kO (h:ix L (.kO K v l))
 |red (h:ix L (.red K v l))
theorem fU.p7 {ro:List (fk P)} {L:List (aw P)} {K:gE P} {v:J} {l:List K.α} (h:fU ro L K v l) {M:Mem} (aV:b6 B (aE W) au M (bD L)) (da:dR ro M):bT M K.k K.enc v l:=by
 cases h with
 |ro h=>obtain⟨i,af⟩:=h.get;exact da i _ af
 |arr h=>obtain⟨i,af⟩:=h.get;exact NS aV af rfl
 |kO h=>obtain⟨i,af⟩:=h.get;exact NS aV af rfl
 |red h=>obtain⟨i,af⟩:=h.get;exact NS aV af rfl
theorem fU.at {ro:List (fk P)} {L:List (aw P)} {K:gE P} {v:J} {l:List K.α} (h:fU ro L K v l) {w:ao} (hw:ji W au ro L w):bT (aE w) K.k K.enc v l:=by
 cases h with
 |ro h=>obtain⟨i,af⟩:=h.get;exact hw.ro i _ af
 |arr h=>obtain⟨i,af⟩:=h.get;exact NT hw.own af rfl
 |kO h=>obtain⟨i,af⟩:=h.get;exact NT hw.own af rfl
 |red h=>obtain⟨i,af⟩:=h.get;exact NT hw.own af rfl
theorem Ct {ro:List (fk P)} {L:List (aw P)} {K:gE P} {v:J} {l:List K.α} (h:fU ro L K v l:=by first|(apply fU.ro;(repeat (first|exact ix.z|apply ix.s));done)|(apply fU.arr;(repeat (first|exact ix.z|apply ix.s));done)|(apply fU.kO;(repeat (first|exact ix.z|apply ix.s));done)|(apply fU.red;(repeat (first|exact ix.z|apply ix.s));done)):fU ro L K v l:=h
theorem has {α:Type 1} {l:List α} {a:α} (h:ix l a:=by repeat (first|exact ix.z|apply ix.s)):ix l a:=h
section
variable {n q:Nat} {al:List Nat} {env:List J} {L:List (aw P)} {aL:List (eu P)} {k cB cW:a7}
theorem wU {gY:a6} {f:fF} {r dN:J} (h: @aZ gY P (f,r)) (he: @aM gY dN= @aM gY r) (hr:aP dN=true:=by rfl): @aZ gY P (f,dN):=by
 obtain⟨h1,ae,ar⟩:=h;refine⟨h1,hr,?_⟩;simp only at ar ⊢;rw[he];exact ar
theorem O3:∀(m q:Nat),aP (.agg ⟨fC m q⟩)=true
 |0,_=>rfl
 |m+1,q=>by
  have:=O3 m (q+1);unfold aP at this ⊢;unfold fC ev;rw[this];rfl
theorem V7 {env:List J} {n:Nat}:∀(m i:Nat) (c:List J),(∀j,j<m->ex env n (aq (i+j))=c.getD j undef)->c.length=m->fG env n (fC m i)=c
 |0,i,c,_,ai=>by rw[List.length_eq_zero_iff.1 ai];rfl
 |m+1,i,[],_,ai=>by simp at ai
 |m+1,i,u::c,h,ai=>by
  unfold fC fG;have aJ:=h 0 aj;rw[Nat.add_zero] at aJ;rw[aJ,V7 m (i+1) c (λj hj=>by have:=h (j+1) aj;rw[show i+(j+1)=i+1+j by omega] at this;simpa using this) (by simpa using ai)];rfl
theorem ahy {env c:List J} {n m:Nat} (ak:env.length=n) (ai:c.length=m) (aA:n+m<d_):fG (c.reverse++env) (n+m) (fC m n)=c:=by
 refine V7 m n c (λj hj=> ?_) ai;show (bif Nat.beq 0 0 then (bif Nat.blt (n+j) d_ then look (c.reverse++env) (n+m) (n+j) else .pointer (some ⟨n+j-d_,0,none⟩)) else .complex .f64 (n+j) 0)=_;rw[show Nat.beq 0 0=true from rfl,bs,show Nat.blt (n+j) d_=true from Nat.blt_eq.mpr aj,bs,I1 _ _ _ (by simp [ak,ai];omega),List.reverse_append,List.reverse_reverse,c_,List.getElem?_append_right (by simp [ak]),show n+j-env.reverse.length=j by simp [ak],c_,fy aj];rfl
theorem ky {f:fF} (v:J) (aO:∀M,b6 B (aE W) au M (bD L)->dR ro M->(∀x,@aM (cn M (v::env)) x=ex (v::env) (q+1) x)-> @aM (cn M (v::env)) (aq q)=v-> @aZ (cn M (v::env)) P (f,aq q)) (h:X B W au ro post (q+1) (v::env) L aL k) (h1:lr v=v) (aA:Nat.blt q d_=true) (aU:n=q):X B W au ro post n env L aL (.o f (aq q) 1 al k):=by
 subst aU;refine⟨λak ho=> ?_⟩;have kY:eJ (v::env):=⟨h1,ho⟩;have eT:(v::env).length=n+1:=by simp [ak]
 exact .o [v] rfl ⟨h1,trivial⟩ (λM aV hr=>aO M aV hr (λx=>jS M kY eT x) (rY aA ak ho h1)) (h eT kY)
section
variable {t:aK} {x y:J} {fS:IntKind} {a b:Int}
theorem wV {op:BinOp} {v:J} (ca:wA op=true) (ax:vh op fS a b=v) (h1:lr v=v) (ah:ex (v::env) (q+1) x= .int fS a) (a_:ex (v::env) (q+1) y= .int fS b) (h:X B W au ro post (q+1) (v::env) L aL k) (dY:aP x=true) (h9:aP y=true) (aA:Nat.blt q d_=true) (aU:n=q):X B W au ro post n env L aL (.o (.bin op t x y) (aq q) 1 al k):=
 ky v (λM _ _ af hs=> @aZ.bi (cn M (v::env)) P op t x y (aq q) fS a b dY h9 rfl ca ((af x).trans ah) ((af y).trans a_) (hs.trans ax.symm)) h h1 aA aU
theorem ahz (ah:ex (.bool (decide (a<b))::env) (q+1) x= .int fS a) (a_:ex (.bool (decide (a<b))::env) (q+1) y= .int fS b) (h:X B W au ro post (q+1) (.bool (decide (a<b))::env) L aL k) (dY:aP x=true:=by rfl) (h9:aP y=true:=by rfl) (aA:Nat.blt q d_=true:=by rfl) (aU:n=q:=by rfl):X B W au ro post n env L aL (.o (.bin .lss t x y) (aq q) 1 al k):=wV U U U ah a_ h dY h9 aA aU
theorem ahA (ah:ex (.bool (decide (a<=b))::env) (q+1) x= .int fS a) (a_:ex (.bool (decide (a<=b))::env) (q+1) y= .int fS b) (h:X B W au ro post (q+1) (.bool (decide (a<=b))::env) L aL k) (dY:aP x=true:=by rfl) (h9:aP y=true:=by rfl) (aA:Nat.blt q d_=true:=by rfl) (aU:n=q:=by rfl):X B W au ro post n env L aL (.o (.bin .leq t x y) (aq q) 1 al k):=wV U U U ah a_ h dY h9 aA aU
theorem ahB (ah:ex (.bool (decide (b<a))::env) (q+1) x= .int fS a) (a_:ex (.bool (decide (b<a))::env) (q+1) y= .int fS b) (h:X B W au ro post (q+1) (.bool (decide (b<a))::env) L aL k) (dY:aP x=true:=by rfl) (h9:aP y=true:=by rfl) (aA:Nat.blt q d_=true:=by rfl) (aU:n=q:=by rfl):X B W au ro post n env L aL (.o (.bin .gtr t x y) (aq q) 1 al k):=wV U U U ah a_ h dY h9 aA aU
theorem ahC (ah:ex (.bool (decide (b<=a))::env) (q+1) x= .int fS a) (a_:ex (.bool (decide (b<=a))::env) (q+1) y= .int fS b) (h:X B W au ro post (q+1) (.bool (decide (b<=a))::env) L aL k) (dY:aP x=true:=by rfl) (h9:aP y=true:=by rfl) (aA:Nat.blt q d_=true:=by rfl) (aU:n=q:=by rfl):X B W au ro post n env L aL (.o (.bin .geq t x y) (aq q) 1 al k):=wV U U U ah a_ h dY h9 aA aU
theorem O4 (ah:ex (.bool (decide (a=b))::env) (q+1) x= .int fS a) (a_:ex (.bool (decide (a=b))::env) (q+1) y= .int fS b) (h:X B W au ro post (q+1) (.bool (decide (a=b))::env) L aL k) (dY:aP x=true:=by rfl) (h9:aP y=true:=by rfl) (aA:Nat.blt q d_=true:=by rfl) (aU:n=q:=by rfl):X B W au ro post n env L aL (.o (.bin .eql t x y) (aq q) 1 al k):=wV U U U ah a_ h dY h9 aA aU
theorem wW (ah:ex (.bool (decide (a≠b))::env) (q+1) x= .int fS a) (a_:ex (.bool (decide (a≠b))::env) (q+1) y= .int fS b) (h:X B W au ro post (q+1) (.bool (decide (a≠b))::env) L aL k) (dY:aP x=true:=by rfl) (h9:aP y=true:=by rfl) (aA:Nat.blt q d_=true:=by rfl) (aU:n=q:=by rfl):X B W au ro post n env L aL (.o (.bin .neq t x y) (aq q) 1 al k):=wV (op:= .neq) rfl (congrArg Value.bool (by by_cases h:a=b<;>simp [h])) rfl ah a_ h dY h9 aA aU
theorem Fi (ah:ex (.int .i64 (a+b)::env) (q+1) x= .int .i64 a) (a_:ex (.int .i64 (a+b)::env) (q+1) y= .int .i64 b) (h:X B W au ro post (q+1) (.int .i64 (a+b)::env) L aL k) (q2: -9223372036854775808<=a+b:=by omega) (Fj:a+b<=9223372036854775807:=by omega) (dY:aP x=true:=by rfl) (h9:aP y=true:=by rfl) (aA:Nat.blt q d_=true:=by rfl) (aU:n=q:=by rfl):X B W au ro post n env L aL (.o (.bin .add t x y) (aq q) 1 al k):=wV rfl (congrArg (Value.int .i64) (wrap64 q2 Fj)) rfl ah a_ h dY h9 aA aU
theorem AD (ah:ex (.int .i64 (a-b)::env) (q+1) x= .int .i64 a) (a_:ex (.int .i64 (a-b)::env) (q+1) y= .int .i64 b) (h:X B W au ro post (q+1) (.int .i64 (a-b)::env) L aL k) (q2: -9223372036854775808<=a-b:=by omega) (Fj:a-b<=9223372036854775807:=by omega) (dY:aP x=true:=by rfl) (h9:aP y=true:=by rfl) (aA:Nat.blt q d_=true:=by rfl) (aU:n=q:=by rfl):X B W au ro post n env L aL (.o (.bin .sub t x y) (aq q) 1 al k):=wV rfl (congrArg (Value.int .i64) (wrap64 q2 Fj)) rfl ah a_ h dY h9 aA aU
theorem wX (ah:ex (.int .i64 (a*b)::env) (q+1) x= .int .i64 a) (a_:ex (.int .i64 (a*b)::env) (q+1) y= .int .i64 b) (h:X B W au ro post (q+1) (.int .i64 (a*b)::env) L aL k) (q2: -9223372036854775808<=a*b:=by omega) (Fj:a*b<=9223372036854775807:=by omega) (dY:aP x=true:=by rfl) (h9:aP y=true:=by rfl) (aA:Nat.blt q d_=true:=by rfl) (aU:n=q:=by rfl):X B W au ro post n env L aL (.o (.bin .mul t x y) (aq q) 1 al k):=wV rfl (congrArg (Value.int .i64) (wrap64 q2 Fj)) rfl ah a_ h dY h9 aA aU
theorem Fk (ah:ex (.int .i64 (a/b)::env) (q+1) x= .int .i64 a) (a_:ex (.int .i64 (a/b)::env) (q+1) y= .int .i64 b) (h:X B W au ro post (q+1) (.int .i64 (a/b)::env) L aL k) (aJ:0<=a/\a<=9223372036854775807:=by omega) (ad:1<=b:=by omega) (dY:aP x=true:=by rfl) (h9:aP y=true:=by rfl) (aA:Nat.blt q d_=true:=by rfl) (aU:n=q:=by rfl):X B W au ro post n env L aL (.o (.bin .quo t x y) (aq q) 1 al k):=
 ky _ (λM _ _ af hs=> @aZ.quo (cn M (_::env)) P t x y (aq q) a b aJ ad dY h9 rfl ((af x).trans ah) ((af y).trans a_) hs) h rfl aA aU
theorem Fl (ah:ex (.int .i64 (a%b)::env) (q+1) x= .int .i64 a) (a_:ex (.int .i64 (a%b)::env) (q+1) y= .int .i64 b) (h:X B W au ro post (q+1) (.int .i64 (a%b)::env) L aL k) (aJ:0<=a/\a<=9223372036854775807:=by omega) (ad:1<=b:=by omega) (dY:aP x=true:=by rfl) (h9:aP y=true:=by rfl) (aA:Nat.blt q d_=true:=by rfl) (aU:n=q:=by rfl):X B W au ro post n env L aL (.o (.bin .rem t x y) (aq q) 1 al k):=
 ky _ (λM _ _ af hs=> @aZ.rem (cn M (_::env)) P t x y (aq q) a b aJ ad dY h9 rfl ((af x).trans ah) ((af y).trans a_) hs) h rfl aA aU
theorem vq {cM:Array aK} (ah:ex (.int fS (max a b)::env) (q+1) x= .int fS a) (a_:ex (.int fS (max a b)::env) (q+1) y= .int fS b) (h:X B W au ro post (q+1) (.int fS (max a b)::env) L aL k) (dY:aP x=true:=by rfl) (h9:aP y=true:=by rfl) (aA:Nat.blt q d_=true:=by rfl) (aU:n=q:=by rfl):X B W au ro post n env L aL (.o (.dT cM t x y) (aq q) 1 al k):=
 ky _ (λM _ _ af hs=> @aZ.rG (cn M (_::env)) P cM t x y (aq q) fS a b dY h9 rfl ((af x).trans ah) ((af y).trans a_) hs) h rfl aA aU
theorem ahD {cM:Array aK} (ah:ex (.int fS (min a b)::env) (q+1) x= .int fS a) (a_:ex (.int fS (min a b)::env) (q+1) y= .int fS b) (h:X B W au ro post (q+1) (.int fS (min a b)::env) L aL k) (dY:aP x=true:=by rfl) (h9:aP y=true:=by rfl) (aA:Nat.blt q d_=true:=by rfl) (aU:n=q:=by rfl):X B W au ro post n env L aL (.o (.kJ cM t x y) (aq q) 1 al k):=
 ky _ (λM _ _ af hs=> @aZ.rH (cn M (_::env)) P cM t x y (aq q) fS a b dY h9 rfl ((af x).trans ah) ((af y).trans a_) hs) h rfl aA aU
end
theorem ox {x:J} {b:Bool} (ah:ex (.bool (!b)::env) (q+1) x= .bool b) (h:X B W au ro post (q+1) (.bool (!b)::env) L aL k) (dY:aP x=true:=by rfl) (aA:Nat.blt q d_=true:=by rfl) (aU:n=q:=by rfl):X B W au ro post n env L aL (.o (.un .not x) (aq q) 1 al k):=
 ky _ (λM _ _ af hs=>by
  have:= @aZ.MD (cn M (_::env)) P x b (!b) dY ((af x).trans ah) rfl
  exact wU this (by rw[hs];rfl)) h rfl aA aU
theorem ahE {t:aK} {x y:J} {a b:Bool} (ah:ex (.bool (a==b)::env) (q+1) x= .bool a) (a_:ex (.bool (a==b)::env) (q+1) y= .bool b) (h:X B W au ro post (q+1) (.bool (a==b)::env) L aL k) (aF:P.underlying t=some .bool:=by kernel_rfl) (dY:aP x=true:=by rfl) (h9:aP y=true:=by rfl) (aA:Nat.blt q d_=true:=by rfl) (aU:n=q:=by rfl):X B W au ro post n env L aL (.o (.bin .eql t x y) (aq q) 1 al k):=
 ky _ (λM _ _ af hs=>wU (@aZ.Ek (cn M (_::env)) P t x y a b _ aF dY h9 ((af x).trans ah) ((af y).trans a_) rfl) (by rw[hs];rfl)) h rfl aA aU
theorem O5 {t:aK} {x y:J} {a b:Bool} (ah:ex (.bool (!(a==b))::env) (q+1) x= .bool a) (a_:ex (.bool (!(a==b))::env) (q+1) y= .bool b) (h:X B W au ro post (q+1) (.bool (!(a==b))::env) L aL k) (aF:P.underlying t=some .bool:=by kernel_rfl) (dY:aP x=true:=by rfl) (h9:aP y=true:=by rfl) (aA:Nat.blt q d_=true:=by rfl) (aU:n=q:=by rfl):X B W au ro post n env L aL (.o (.bin .neq t x y) (aq q) 1 al k):=
 ky _ (λM _ _ af hs=>wU (@aZ.ad7 (cn M (_::env)) P t x y a b _ aF dY h9 ((af x).trans ah) ((af y).trans a_) rfl) (by rw[hs];rfl)) h rfl aA aU
def nr (v:J) (j k o:Nat):J:=kt v (j*k+o)
def ic (c:List J):Nat->List J->List J
 |0,e=>e
 |m+1,e=>c.getD m undef::ic c m e
theorem wY:∀(m:Nat) (c e:List J),ic c m e=((List.range m).map λi=>c.getD i undef).reverse++e
 |0,c,e=>rfl
 |m+1,c,e=>by
  unfold ic;rw[wY m c e,List.range_succ];simp
theorem yD (c:List J) (m:Nat) (h:c.length=m):(List.range m).map (λi=>c.getD i undef)=c:=by
 apply List.ext_getElem
 ·simp [h]
 ·intro i h1 ae
  simp only [List.getElem_map,List.getElem_range];rw[c_,fy ae];rfl
theorem V8 {α:Type} {l:List α} {j:Nat} (d:α) (h:j<l.length):l[j]? =some (l.getD j d):=by
 rw[c_,fy h];rfl
section
variable {t:aK} {x y i:J} {fS:IntKind} {K:gE P} {v:J} {l:List K.α}
theorem ahF {a:Option Addr} {m c e:Nat} {ty:aK} (ah:ex (.int .i64 (m:Nat)::env) (q+1) x= .slice a m c) (h:X B W au ro post (q+1) (.int .i64 (m:Nat)::env) L aL k) (aF:P.underlying t=some (.slice e):=by kernel_rfl) (dY:aP x=true:=by rfl) (aA:Nat.blt q d_=true:=by rfl) (aU:n=q:=by rfl):X B W au ro post n env L aL (.o (.len #[t] ty x) (aq q) 1 [0,e] k):=
 ky _ (λM _ _ af hs=> @aZ.len (cn M (_::env)) P t ty e x (aq q) a m c dY rfl aF ((af x).trans ah) hs) h rfl aA aU
theorem ie {j e aX:Nat} (ah:ex (nr v j K.k 0::env) (q+1) x=v) (af:ex (nr v j K.k 0::env) (q+1) i= .int fS (j:Nat)) (h:X B W au ro post (q+1) (nr v j K.k 0::env) L aL k) (hs:fU ro L K v l:=by exact Ct) (hj:j<l.length:=by omega) (aF:P.underlying t=some (.slice K.e):=by kernel_rfl) (dY:aP x=true:=by rfl) (pi:aP i=true:=by rfl) (aA:Nat.blt q d_=true:=by rfl) (aU:n=q:=by rfl):
  X B W au ro post n env L aL (.o (.cm t x i) (aq q) 1 [0,e,aX] k):=
 ky _ (λM aV hr pA rZ=> @aZ.Mp (cn M (_::env)) P K.α K.k K.enc v l (hs.p7 aV hr) t K.e x i (aq q) j fS hj dY pi rfl aF K.size ((pA x).trans ah) ((pA i).trans af) rZ) h rfl aA aU
theorem ahG {a:Int} {e aX:Nat} (ah:ex (nr v a.toNat K.k 0::env) (q+1) x=v) (af:ex (nr v a.toNat K.k 0::env) (q+1) i= .int fS a) (h:X B W au ro post (q+1) (nr v a.toNat K.k 0::env) L aL k) (hs:fU ro L K v l:=by exact Ct) (aJ:0<=a:=by omega) (hj:a.toNat<l.length:=by omega) (aF:P.underlying t=some (.slice K.e):=by kernel_rfl) (dY:aP x=true:=by rfl) (pi:aP i=true:=by rfl) (aA:Nat.blt q d_=true:=by rfl) (aU:n=q:=by rfl):
  X B W au ro post n env L aL (.o (.cm t x i) (aq q) 1 [0,e,aX] k):=
 ie ah (by rw[af,Int.toNat_of_nonneg aJ]) h hs hj aF dY pi aA aU
theorem Cu {j o off ty aX f:Nat} (ah:ex (nr v j K.k (o+off)::env) (q+1) x=nr v j K.k o) (h:X B W au ro post (q+1) (nr v j K.k (o+off)::env) L aL k) (hs:fU ro L K v l:=by exact Ct) (hj:j<l.length:=by omega) (aO:((P.fieldsOf t)[f]?).map (λf=>(f.type,f.offset))=some (ty,off):=by kernel_rfl) (aF:a' P (underlying t)=some (.struct (P.fieldsOf t)):=by kernel_rfl) (hm:a' P (sizeOf ty)=some aX:=by kernel_rfl) (aJ:aX≠0:=by decide) (dY:aP x=true:=by rfl) (aA:Nat.blt q d_=true:=by rfl) (aU:n=q:=by rfl):
  X B W au ro post n env L aL (.o (.b7 t x f) (aq q) 1 [off,ty,aX] k):=
 ky _ (λM aV hr pA rZ=>by
  obtain⟨gX,tP,ahH⟩:=Option.map_eq_some_iff.1 aO;cases ahH
  exact @aZ.adF (cn M (nr v j K.k (o+gX.offset)::env)) P t x (aq q) v f (j*K.k+o) (j*K.k+(o+gX.offset)) (P.fieldsOf t) gX aX dY rfl aF tP hm aJ (@TN (cn M (nr v j K.k (o+gX.offset)::env)) _ _ _ _ _ (hs.p7 aV hr) j hj) aj ((pA x).trans ah) rZ) h rfl aA aU
theorem Cv {j o c m e aX:Nat} (ah:ex (nr v j K.k (o+c*aX)::env) (q+1) x=nr v j K.k o) (af:ex (nr v j K.k (o+c*aX)::env) (q+1) i= .int fS (c:Nat)) (h:X B W au ro post (q+1) (nr v j K.k (o+c*aX)::env) L aL k) (hs:fU ro L K v l:=by exact Ct) (hj:j<l.length:=by omega) (ai:c<m:=by omega) (aF:P.underlying t=some (.array m e):=by kernel_rfl) (bu:a' P (sizeOf e)=some aX:=by kernel_rfl) (dY:aP x=true:=by rfl) (pi:aP i=true:=by rfl) (aA:Nat.blt q d_=true:=by rfl) (aU:n=q:=by rfl):
  X B W au ro post n env L aL (.o (.cm t x i) (aq q) 1 [1,m,e,aX] k):=
 ky _ (λM aV hr pA rZ=> @aZ.ad9 (cn M (nr v j K.k (o+c*aX)::env)) P t e x i (aq q) v m aX c (j*K.k+o) (j*K.k+(o+c*aX)) fS dY pi rfl aF bu (@TN (cn M (nr v j K.k (o+c*aX)::env)) _ _ _ _ _ (hs.p7 aV hr) j hj) ai aj ((pA x).trans ah) ((pA i).trans af) rZ) h rfl aA aU
theorem mM {j o aX:Nat} {u:J} (ah:ex (u::env) (q+1) x=nr v j K.k o) (hu:(K.enc (l.getD j K.I2))[o]? =some u) (h:X B W au ro post (q+1) (u::env) L aL k) (hs:fU ro L K v l:=by exact Ct) (hj:j<l.length:=by omega) (h1:lr u=u:=by rfl) (ha:a' P (isAgg t)=some false:=by kernel_rfl) (dY:aP x=true:=by rfl) (aA:Nat.blt q d_=true:=by rfl) (aU:n=q:=by rfl):
  X B W au ro post n env L aL (.o (.bf t x) (aq q) 1 [aX] k):=
 ky _ (λM aV hr pA rZ=> @aZ.Tn (cn M (_::env)) P K.α K.k K.enc v l (hs.p7 aV hr) t x (aq q) j (j*K.k+o) o (l.getD j K.I2) u (V8 _ hj) dY rfl ha rfl hu ((pA x).trans ah) rZ) h h1 aA aU
theorem V9 {f:fF} {m:Nat} (c:List J) (ai:c.length=m) (h1:eJ c) (aO:∀M,b6 B (aE W) au M (bD L)->dR ro M->(∀x,@aM (cn M (ic c m env)) x=ex (ic c m env) (q+m) x)-> @aM (cn M (ic c m env)) (.agg ⟨fC m q⟩)= .agg ⟨c⟩-> @aZ (cn M (ic c m env)) P (f,.agg ⟨fC m q⟩)) (h:X B W au ro post (q+m) (ic c m env) L aL k) (aA:Nat.blt (q+m) d_=true) (aU:n=q):
  X B W au ro post n env L aL (.o f (.agg ⟨fC m q⟩) m al k):=by
 subst aU;refine⟨λak ho=> ?_⟩;have e:ic c m env=c.reverse++env:=by rw[wY,yD c m ai]
 have kY:eJ (c.reverse++env):=qV (nM h1) ho;have eT:(c.reverse++env).length=n+m:=by simp [ak,ai];omega
 have ag:=h;rw[e] at ag;refine .o c ai h1 (λM aV hr=> ?_) (ag eT kY);have:=aO M aV hr;rw[e] at this;refine this (λx=>jS M kY eT x) ?_;rw[jS M kY eT];show Value.agg ⟨fG (c.reverse++env) (n+m) (fC m n)⟩= .agg ⟨c⟩;rw[ahy ak ai (Nat.blt_eq.mp aA)]
theorem nt {j o aX:Nat} {c:List J} (ah:ex env n x=nr v j K.k o) (hu:c=((K.enc (l.getD j K.I2)).drop o).take aX) (ai:c.length=aX) (h1:eJ c) (h:X B W au ro post (q+aX) (ic c aX env) L aL k) (hs:fU ro L K v l:=by exact Ct) (hj:j<l.length:=by omega) (ha:a' P (isAgg t)=some true:=by kernel_rfl) (bu:a' P (sizeOf t)=some aX:=by kernel_rfl) (dY:aP x=true:=by rfl) (O6:jT n x=true:=by rfl) (aA:Nat.blt (q+aX) d_=true:=by rfl) (aU:n=q:=by rfl):
  X B W au ro post n env L aL (.o (.bf t x) (.agg ⟨fC aX q⟩) aX [aX] k):=⟨λak ho=>
 V9 c ai h1 (λM aV hr pA rZ=> @aZ.ad8 (cn M (ic c aX env)) P K.α K.k K.enc v l (hs.p7 aV hr) t x _ j (j*K.k+o) o aX (l.getD j K.I2) c (V8 _ hj) dY (O3 aX q) ha bu rfl ai (λi u af=>by
  rw[hu,List.getElem?_take] at af;split at af
  ·rw[List.getElem?_drop] at af;exact af
  ·cases af) (by
   have e:ic c aX env=c.reverse++env:=by rw[wY,yD c aX ai]
   rw[e,<-jU (sO M M ak) x O6,jS M ho ak,ah];rfl) rZ) h aA aU ak ho⟩
end
section
variable {t:aK} {x y i:J} {g ty:Nat} {cs:List J}
theorem ahI {a:Addr} (ah:ex (.pointer (some a)::env) (q+1) x= .pointer (some a)) (h:X B W au ro post (q+1) (.pointer (some a)::env) L aL k) (dY:aP x=true:=by rfl) (aA:Nat.blt q d_=true:=by rfl) (aU:n=q:=by rfl):X B W au ro post n env L aL (.o (.dp x) (aq q) 1 al k):=
 ky _ (λM _ _ af hs=> @aZ.T7 (cn M (_::env)) P x (aq q) a dY rfl ((af x).trans ah) hs) h rfl aA aU
theorem ahJ {o off f:Nat} {Jh aX:Nat} (ah:ex (.pointer (some ⟨g,o+off,none⟩)::env) (q+1) x= .pointer (some ⟨g,o,none⟩)) (h:X B W au ro post (q+1) (.pointer (some ⟨g,o+off,none⟩)::env) L aL k) (aO:((P.fieldsOf t)[f]?).map (λf=>(f.type,f.offset))=some (Jh,off):=by kernel_rfl) (aF:a' P (underlying t)=some (.struct (P.fieldsOf t)):=by kernel_rfl) (hm:a' P (sizeOf Jh)=some aX:=by kernel_rfl) (aJ:aX≠0:=by decide) (dY:aP x=true:=by rfl) (aA:Nat.blt q d_=true:=by rfl) (aU:n=q:=by rfl):
  X B W au ro post n env L aL (.o (.b7 t x f) (aq q) 1 [off,Jh,aX] k):=
 ky _ (λM _ _ af hs=> @aZ.T8 (cn M (_::env)) P t x (aq q) f g o Jh off aX aO aF hm aJ dY rfl ((af x).trans ah) hs) h rfl aA aU
theorem pB {o j m e aX:Nat} {fS:IntKind} (ah:ex (.pointer (some ⟨g,o+j*aX,none⟩)::env) (q+1) x= .pointer (some ⟨g,o,none⟩)) (af:ex (.pointer (some ⟨g,o+j*aX,none⟩)::env) (q+1) i= .int fS (j:Nat)) (h:X B W au ro post (q+1) (.pointer (some ⟨g,o+j*aX,none⟩)::env) L aL k) (hj:j<m:=by omega) (aF:P.underlying t=some (.array m e):=by kernel_rfl) (bu:a' P (sizeOf e)=some aX:=by kernel_rfl) (dY:aP x=true:=by rfl) (pi:aP i=true:=by rfl) (aA:Nat.blt q d_=true:=by rfl) (aU:n=q:=by rfl):
  X B W au ro post n env L aL (.o (.cm t x i) (aq q) 1 [1,m,e,aX] k):=
 ky _ (λM _ _ pA hs=> @aZ.TH (cn M (_::env)) P t e x i (aq q) g o m aX j fS dY pi rfl aF bu ((pA x).trans ah) ((pA i).trans af) hj hs) h rfl aA aU
theorem kz {o aX:Nat} {u:J} (ah:ex (u::env) (q+1) x= .pointer (some ⟨g,o,none⟩)) (hL:ix L (.box g ty cs)) (hu:cs[o]? =some u) (h:X B W au ro post (q+1) (u::env) L aL k) (h1:lr u=u:=by rfl) (ha:a' P (isAgg t)=some false:=by kernel_rfl) (dY:aP x=true:=by rfl) (aA:Nat.blt q d_=true:=by rfl) (aU:n=q:=by rfl):
  X B W au ro post n env L aL (.o (.bf t x) (aq q) 1 [aX] k):=
 ky _ (λM aV _ pA rZ=> @aZ.T6 (cn M (_::env)) P B g o ty t cs x (aq q) u (hL.get.elim λd a8=>aV.box d (kf a8)) hu dY rfl ha ((pA x).trans ah) rZ) h h1 aA aU
theorem mN {o aX:Nat} {c:List J} (ah:ex env n x= .pointer (some ⟨g,o,none⟩)) (hL:ix L (.box g ty cs)) (hu:c=(cs.drop o).take aX) (ai:c.length=aX) (h1:eJ c) (h:X B W au ro post (q+aX) (ic c aX env) L aL k) (ha:a' P (isAgg t)=some true:=by kernel_rfl) (bu:a' P (sizeOf t)=some aX:=by kernel_rfl) (dY:aP x=true:=by rfl) (O6:jT n x=true:=by rfl) (aA:Nat.blt (q+aX) d_=true:=by rfl) (aU:n=q:=by rfl):
  X B W au ro post n env L aL (.o (.bf t x) (.agg ⟨fC aX q⟩) aX [aX] k):=⟨λak ho=>
 V9 c ai h1 (λM aV hr pA rZ=> @aZ.M0 (cn M (ic c aX env)) P B g o aX ty t cs c x _ (hL.get.elim λd a8=>aV.box d (kf a8)) hu dY (O3 aX q) ha bu ai (by
   have e:ic c aX env=c.reverse++env:=by rw[wY,yD c aX ai]
   rw[e,<-jU (sO M M ak) x O6,jS M ho ak,ah]) rZ) h aA aU ak ho⟩
end
theorem bR {x:J} {p:Prop} [Decidable p] (ah:ex env n x= .bool (decide p)) (h1:p->X B W au ro post n env L aL cB) (ae:¬p->X B W au ro post n env L aL cW):X B W au ro post n env L aL (.bb x cB cW):=⟨λak ho=>
 .bb _ ah (λh=>h1 (of_decide_eq_true h) ak ho) (λh=>ae (of_decide_eq_false h) ak ho)⟩
theorem i_ {x:J} {p:Prop} [Decidable p] (ah:ex env n x= .bool (!decide p)) (h1:¬p->X B W au ro post n env L aL cB) (ae:p->X B W au ro post n env L aL cW):X B W au ro post n env L aL (.bb x cB cW):=⟨λak ho=>
 .bb _ ah (λh=>h1 (by simpa using h) ak ho) (λh=>ae (by simpa using h) ak ho)⟩
theorem nT {x:J} (ah:ex env n x= .bool true) (h:X B W au ro post n env L aL cB):X B W au ro post n env L aL (.bb x cB cW):=⟨λak ho=> .bb _ ah (λ_=>h ak ho) (λh=>by cases h)⟩
theorem q3 {x:J} (ah:ex env n x= .bool false) (h:X B W au ro post n env L aL cW):X B W au ro post n env L aL (.bb x cB cW):=⟨λak ho=> .bb _ ah (λh=>by cases h) (λ_=>h ak ho)⟩
theorem V' {t:aK} {x:J} {a:Addr} (ah:ex (.bool false::env) (q+1) x= .pointer (some a)) (h:X B W au ro post (q+1) (.bool false::env) L aL k) (aF:P.underlying t=some (.pointer (P.pointee t)):=by kernel_rfl) (dY:aP x=true:=by rfl) (aA:Nat.blt q d_=true:=by rfl) (aU:n=q:=by rfl):X B W au ro post n env L aL (.o (.bin .eql t x (.pointer none)) (aq q) 1 al k):=
 ky _ (λM _ _ af hs=>wU (@aZ.agj (cn M (_::env)) P t x a dY aF ((af x).trans ah)) (by rw[hs];rfl)) h rfl aA aU
theorem ahK {t:aK} {x:J} {a:Addr} (ah:ex (.bool true::env) (q+1) x= .pointer (some a)) (h:X B W au ro post (q+1) (.bool true::env) L aL k) (aF:P.underlying t=some (.pointer (P.pointee t)):=by kernel_rfl) (dY:aP x=true:=by rfl) (aA:Nat.blt q d_=true:=by rfl) (aU:n=q:=by rfl):X B W au ro post n env L aL (.o (.bin .neq t x (.pointer none)) (aq q) 1 al k):=
 ky _ (λM _ _ af hs=>wU (@aZ.agk (cn M (_::env)) P t x a dY aF ((af x).trans ah)) (by rw[hs];rfl)) h rfl aA aU
theorem um {x:J} {b:Bool} (ah:ex env n x= .bool b) (h1:b=true->X B W au ro post n env L aL cB) (ae:b=false->X B W au ro post n env L aL cW):X B W au ro post n env L aL (.bb x cB cW):=⟨λak ho=>
 .bb _ ah (λh=>h1 h ak ho) (λh=>ae h ak ho)⟩
theorem V_ (h1:X B W au ro post n env L aL cB) (ae:X B W au ro post n env L aL cW):X B W au ro post n env L aL (.alt cB cW):=⟨λak ho=> .alt (h1 ak ho) (ae ak ho)⟩
theorem bx {x:J} (h:post (ex env n x) L):X B W au ro post n env L aL (.ret x):=⟨λ_ _=> .ret L (h4.refl L) h⟩
theorem hV {vp:eu P} (h:X B W au ro post n env L aL k):X B W au ro post n env L (vp::aL) (.c4 k):=⟨λak ho=> .c4 (h ak ho)⟩
end
end AE
namespace AE
variable {P:aQ} {B:Nat} {W:ao} {au:List b4} {ro:List (fk P)} {post:J->List (aw P)->Prop}
theorem fK.{u} {α:Type u} {l l':List α} {d:Nat} {a b:α} (h:nq l d a b l':=by repeat (first|exact nq.z|apply nq.s)):nq l d a b l':=h
theorem pC.{u} {α:Type u} {l l':List α} {i:Nat} {b:α} (h:uk l i b l':=by repeat (first|exact uk.z|apply uk.s)):uk l i b l':=h
theorem iy.{u} {α:Type u} {l l':List α} {a:α} (h:oY l a l':=by repeat (first|exact oY.z|apply oY.s)):oY l a l':=h
theorem fL {l:List J} (h:eJ l:=by repeat (first|exact trivial|refine⟨rfl,?_⟩)):eJ l:=h
section
variable {n q:Nat} {env:List J} {L L':List (aw P)} {aL:List (eu P)} {k cB cW:a7}
section
variable {t:aK} {p x:J}
theorem pD {d g ty j:Nat} {cs cs':List J} {u:J} (hp:ex env n p= .pointer (some ⟨g,j,none⟩)) (ah:ex env n x=u) (hP:nq L d (.box g ty cs) (.box g ty cs') L') (hs:uk cs j u cs') (h:X B W au ro post n env L' aL k) (hu:u.cells= #[u]:=by rfl) (h1:u.oneCell'=true:=by rfl) (bu:a' P (sizeOf t)=some 1:=by kernel_rfl):
  X B W au ro post n env L aL (.st t p x k):=⟨λak ho=>by
 obtain⟨af,rfl⟩:=hP.get;obtain⟨rfl,hj⟩:=hs.eq
 exact .OH d af hp ah hj hu h1 bu (h ak ho)⟩
theorem Wa {d g ty j:Nat} {cs cs':List J} {u:J} (hp:ex env n p= .pointer (some ⟨g,j,none⟩)) (ah:ex env n x=u) (hP:nq L d (.box g ty cs) (.box g ty cs') L') (hs:cs'=cs.set j u) (h:X B W au ro post n env L' aL k) (hj:j<cs.length) (hu:u.cells= #[u]:=by rfl) (h1:u.oneCell'=true:=by rfl) (bu:a' P (sizeOf t)=some 1:=by kernel_rfl):
  X B W au ro post n env L aL (.st t p x k):=⟨λak ho=>by
 obtain⟨af,rfl⟩:=hP.get;subst hs
 exact .OH d af hp ah hj hu h1 bu (h ak ho)⟩
theorem uo {K:gE P} {v:J} {l k2:List K.α} {d j o:Nat} {u:J} (y:K.α) (hp:ex env n p=nr v j K.k o) (ah:ex env n x=u) (hP:nq L d (.arr K v l) (.arr K v k2) L') (hl:k2=l.set j y) (a_:∀z,l[j]? =some z->K.enc y=(K.enc z).set o u) (h:X B W au ro post n env L' aL k) (hj:j<l.length:=by omega) (ho:o<K.k:=by decide) (hu:u.cells= #[u]:=by rfl) (h1:u.oneCell'=true:=by rfl) (bu:a' P (sizeOf t)=some 1:=by kernel_rfl):
  X B W au ro post n env L aL (.st t p x k):=⟨λak kY=>by
 obtain⟨af,rfl⟩:=hP.get;subst hl
 exact .VH d j o y af hp hj ah ho hu h1 a_ bu (h ak kY)⟩
theorem sT {d g ty j m:Nat} {cs cs' us:List J} (hp:ex env n p= .pointer (some ⟨g,j,none⟩)) (ah:ex env n x= .agg ⟨us⟩) (hP:nq L d (.box g ty cs) (.box g ty cs') L') (hs:cs'=cs.take j++us++cs.drop (j+m)) (h:X B W au ro post n env L' aL k) (hj:j+m<=cs.length:=by exact hQ rfl) (hu:us.length=m:=by rfl) (h1:∀u∈us,u.oneCell'=true:=by repeat (first|exact Nd|refine Nf rfl ?_)) (bu:a' P (sizeOf t)=some m:=by kernel_rfl):
  X B W au ro post n env L aL (.st t p x k):=⟨λak ho=>by
 obtain⟨af,rfl⟩:=hP.get;subst hs
 exact .VG d af hp ah hj hu h1 bu (h ak ho)⟩
end
theorem ahL {t:aK} {s:J} {c us cs cs':List J} {d g ty j m uU e:Nat} (hs:ex env n s= .slice (some ⟨g,j,none⟩) m uU) (ah:fG env n c=us) (hP:nq L d (.box g ty cs) (.box g ty cs') L') (he:cs'=cs.take j++us++cs.drop (j+us.length)) (h:X B W au ro post n env L' aL k)
  (aJ:0<us.length:=by exact hQ rfl) (hm:us.length<=m:=by exact hQ rfl) (hj:j+us.length<=cs.length:=by exact hQ rfl) (h1:∀u∈us,u.oneCell'=true:=by repeat (first|exact Nd|refine Nf rfl ?_)) (aF:P.underlying t=some (.slice e):=by kernel_rfl) (bu:(P.info? e).map (·.size)=some 1:=by kernel_rfl):
  X B W au ro post n env L aL (.qO t s c k):=⟨λak ho=>by
 obtain⟨af,rfl⟩:=hP.get;subst he
 exact .qO d af hs ah aF bu aJ hm h1 hj (h ak ho)⟩
theorem AF {t:aK} {x:J} {g ty:Nat} {cs:List J} {L':List (aw P)} (ah:ex env n x= .pointer (some ⟨g,0,none⟩)) (hL:ix L (.box g ty cs)) (dE:∀M,b6 B (aE W) au M (bD L)->b6 B (aE W) au M (bD L')) (h:post (.agg ⟨cs⟩) L') (ha:a' P (isAgg t)=some true:=by kernel_rfl) (hs:a' P (sizeOf t)=some cs.length:=by kernel_rfl) (v:J:= .agg ⟨cs⟩) (ax:aP v=true:=by rfl) (af:ex env n v= .agg ⟨cs⟩:=by rfl):
 X B W au ro post n env L aL (.nO t x):=⟨λ_ _=>hL.get.elim λi aA=> .nO i aA ah ha hs ax af L' dE h⟩
section
variable {t:aK} {s x:J} {c:List J} {K:gE P} {v:J} {l:List K.α}
theorem Fm {d:Nat} {L':Option Addr->Nat->List (aw P)} (lx:List K.α) (hs:ex env n s=v) (hP:∀a c,nq L d (.arr K v l) (.arr K (.slice a (l++lx).length c) (l++lx)) (L' a c)) (ah:fG env n c=lx.flatMap K.enc) (h:∀a c,X B W au ro post (n+1) (.slice a (l++lx).length c::env) (L' a c) aL k) (hd:l.length+lx.length<=maxLen) (ad:(l.length+lx.length)*K.bytes<=140737488355328) (aF:P.underlying t=some (.slice K.e):=by kernel_rfl):
  X B W au ro post n env L aL (.rT t s c k):=⟨λak ho=>
 .VI d lx (hP none 0).get.1 hs ah aF hd ad λa c=>(hP a c).get.2▸h a c (by simp [ak]) ⟨rfl,ho⟩⟩
theorem Wb {d:Nat} {L':Option Addr->Nat->List (aw P)} {vx:J} {lx:List K.α} (hs:ex env n s=v) (ah:ex env n x=vx) (hP:∀a c,nq L d (.arr K v l) (.arr K (.slice a (l++lx).length c) (l++lx)) (L' a c)) (fB:fU ro L K vx lx) (h:∀a c,X B W au ro post (n+1) (.slice a (l++lx).length c::env) (L' a c) aL k) (hd:l.length+lx.length<=maxLen) (ad:(l.length+lx.length)*K.bytes<=140737488355328) (aF:P.underlying t=some (.slice K.e):=by kernel_rfl):
  X B W au ro post n env L aL (.qX t s x k):=⟨λak ho=>
 .VJ d vx lx (hP none 0).get.1 hs ah aF (λ_ aV hr=>fB.p7 aV hr) hd ad λa c=>(hP a c).get.2▸h a c (by simp [ak]) ⟨rfl,ho⟩⟩
theorem O7 {d:Nat} {L':Option Addr->Nat->List (aw P)} {vx:J} {lx:List K.α} (hs:ex env n s=v) (ah:ex env n x=vx) (hP:∀a c,nq L d (.kO K v l) (.kO K (.slice a (l++lx).length c) (l++lx)) (L' a c)) (fB:fU ro L K vx lx) (h:∀a c,X B W au ro post (n+1) (.slice a (l++lx).length c::env) (L' a c) aL k) (hd:l.length+lx.length<=maxLen) (ad:(l.length+lx.length)*K.bytes<=140737488355328) (aF:P.underlying t=some (.slice K.e):=by kernel_rfl):
  X B W au ro post n env L aL (.qX t s x k):=⟨λak ho=>
 .VK d vx lx (hP none 0).get.1 hs ah aF (λ_ aV hr=>fB.p7 aV hr) hd ad λa c=>(hP a c).get.2▸h a c (by simp [ak]) ⟨rfl,ho⟩⟩
theorem ahM {L':Option Addr->Nat->List (aw P)} (K:gE P) (z:K.α) (m:Nat) (ah:ex env n x= .int .i64 (m:Nat)) (hP:∀a c,oY L (.arr K (.slice a (List.replicate m z).length c) (List.replicate m z)) (L' a c)) (h:∀a c,X B W au ro post (n+1) (.slice a (List.replicate m z).length c::env) (L' a c) aL k) (bu:∃i v,P.info? K.e=some i/\i.zero=some v/\i.size=K.k/\i.bytes=K.bytes/\v.cells.toList=K.enc z) (hd:m<=1000000:=by omega) (ad:m*K.bytes<=140737488355328) (ai:m*K.k<=16777216) (aF:P.underlying t=some (.slice K.e):=by kernel_rfl):
  X B W au ro post n env L aL (.mk t x k):=⟨λak ho=>
 .mk K z m aF bu ah hd ad ai λa c=>(hP a c).eq▸h a c (by simp [ak]) ⟨rfl,ho⟩⟩
theorem ahN {L':Option Addr->Nat->List (aw P)} {u:J} (K:gE P) (y:K.α) (ah:ex env n x=u) (hu:u.cells=⟨K.enc y⟩) (hP:∀a c,oY L (.arr K (.slice a [y].length c) [y]) (L' a c)) (h:∀a c,X B W au ro post (n+1) (.slice a [y].length c::env) (L' a c) aL k) (bu:∃z,a' P (zeroValue K.e)=some z) (ag:K.k<=1000:=by decide) (aF:P.underlying t=some (.slice K.e):=by kernel_rfl):
  X B W au ro post n env L aL (.lt t x k):=⟨λak ho=>
 .lt K y aF bu ag ah hu λa c=>(hP a c).eq▸h a c (by simp [ak]) ⟨rfl,ho⟩⟩
theorem yE {L':Option Addr->Nat->List (aw P)} {us xs:List J} (K:gE P) (l:List K.α) (ah:fG env n xs=us) (hu:us.map Value.cells=l.map λy=>⟨K.enc y⟩) (hP:∀a c,oY L (.arr K (.slice a l.length c) l) (L' a c)) (h:∀a c,X B W au ro post (n+1) (.slice a l.length c::env) (L' a c) aL k) (bu:∃z,a' P (zeroValue K.e)=some z) (ag:K.k<=1000:=by decide) (aF:P.underlying t=some (.slice K.e):=by kernel_rfl):
  X B W au ro post n env L aL (.ou t xs k):=⟨λak ho=>
 .ou K l aF bu ag ah hu λa c=>(hP a c).eq▸h a c (by simp [ak]) ⟨rfl,ho⟩⟩
theorem O8 {m cap:Nat} {L':Nat->List (aw P)} (K:gE P) (xs:List K.α) (ah:fG env n c=xs.flatMap K.enc) (hP:∀g,oY L (.red K (.slice (some ⟨g,0,none⟩) m cap) xs) (L' g)) (h:∀g,X B W au ro post (n+1) (.slice (some ⟨g,0,none⟩) m cap::env) (L' g) aL k) (hm:xs.length=m:=by rfl):X B W au ro post n env L aL (.rU c m cap k):=⟨λak ho=>
 .rU K xs ah hm λg=>(hP g).eq▸h g (by simp [ak]) ⟨rfl,ho⟩⟩
theorem vr {L':Nat->List (aw P)} {u:J} {cs:List J} (ah:ex env n x=u) (hu:u.cells=⟨cs⟩) (hP:∀g,oY L (.box g t cs) (L' g)) (h:∀g,X B W au ro post (n+1) (.pointer (some ⟨g,0,none⟩)::env) (L' g) aL k):X B W au ro post n env L aL (.nn t x k):=⟨λak ho=>
 .nn ah hu λg=>(hP g).eq▸h g (by simp [ak]) ⟨rfl,ho⟩⟩
theorem uq {L':Nat->List (aw P)} {z:J} (cs:List J) (bu:a' P (zeroValue t)=some z) (hu:z.cells=⟨cs⟩) (hP:∀g,oY L (.box g t cs) (L' g)) (h:∀g,X B W au ro post (n+1) (.pointer (some ⟨g,0,none⟩)::env) (L' g) aL k):X B W au ro post n env L aL (.mJ t k):=⟨λak ho=>
 .mJ bu hu λg=>(hP g).eq▸h g (by simp [ak]) ⟨rfl,ho⟩⟩
end
section
variable {f:FuncId} {args:List J} {r:J} {m:Nat}
theorem ew {v:J} (ai:∀w,ji W au ro L w->Calls P f ⟨fG env n args⟩ w λe w'=>e= .returned v/\cA w.heap.size w w') (h:X B W au ro post (q+1) (v::env) L aL k) (h1:lr v=v:=by rfl) (aA:Nat.blt q d_=true:=by rfl) (aU:n=q:=by rfl):X B W au ro post n env L aL (.c f args (aq q) 1 k):=by
 subst aU;refine⟨λak ho=> ?_⟩;have eT:(v::env).length=n+1:=by simp [ak]
 refine .c [v] rfl ⟨h1,trivial⟩ (λw hw=> ?_) (h eT ⟨h1,ho⟩);have:=rY (M:=λ_=>none) aA ak ho h1;rw[jS (λ_=>none) (env:=v::env) (n:=n+1) ⟨h1,ho⟩ eT] at this;show Calls P f _ w λe w'=>e= .returned (ex (v::env) (n+1) (aq n))/\_
 rw[this];exact ai w hw
theorem jV (vs:List J) {rv:J} (ai:∀w,ji W au ro L w->Calls P f ⟨fG env n args⟩ w λe w'=>e= .returned rv/\cA w.heap.size w w') (hr:ex (ic vs m env) (n+m) r=rv) (h:X B W au ro post (n+m) (ic vs m env) L aL k) (h1:eJ vs:=by exact fL) (hm:vs.length=m:=by rfl):X B W au ro post n env L aL (.c f args r m k):=by
 refine⟨λak ho=> ?_⟩;have e:ic vs m env=vs.reverse++env:=by rw[wY,yD vs m hm]
 rw[e] at h hr;refine .c vs hm h1 (λw hw=> ?_) (h (by simp [ak,hm];omega) (qV (nM h1) ho));rw[hr];exact ai w hw
theorem ahO {b:Bool} (ai:∀w,ji W au ro L w->Calls P f ⟨fG env n args⟩ w λe w'=>e= .returned (.bool b)/\cA w.heap.size w w') (h1:b=true->X B W au ro post n env L aL cB) (ae:b=false->X B W au ro post n env L aL cW):X B W au ro post n env L aL (.cs f args cB cW):=⟨λak ho=>
 .cs b ai (λh=>h1 h ak ho) (λh=>ae h ak ho)⟩
theorem ahP (Y:Type) (is:List Nat) (vs:Y->List J) (ku ug:Y->List (aw P)) {L':Y->List (aw P)} (ai:∀w,ji W au ro L w->bY (aE w) (pick (bD L) is)->Calls P f ⟨fG env n args⟩ w λe w'=>(∃y,e= .returned (ex (ic (vs y) m env) (n+m) r)/\ef (aE w) (pick (bD L) is) (aE w') (bD (ku y++ug y)))/\cA 0 w w')
  (hL:∀y,uf L is (ku y)++ug y=L' y) (h:∀y,X B W au ro post (n+m) (ic (vs y) m env) (L' y) aL k) (hU:ju L.length is=true:=by rfl) (hl:∀y,(ku y).length=is.length:=by exact λ_=>rfl) (hm:∀y,(vs y).length=m:=by exact λ_=>rfl) (h1:∀y,eJ (vs y):=by exact λ_=>fL):X B W au ro post n env L aL (.call f args r m k):=by
 refine⟨λak ho=> ?_⟩;have e:∀y,ic (vs y) m env=(vs y).reverse++env:=λy=>by rw[wY,yD _ m (hm y)]
 refine .call Y is hU vs ku ug hl hm h1 (λw hw _ aH=> ?_) (λy=> ?_)
 ·refine(ai w hw aH).mono λe' w' h=> ?_
  obtain⟨⟨y,a_,hs⟩,hl⟩:=h;exact⟨⟨y,by rw[<-e y];exact a_,hs⟩,hl⟩
 ·have:=h y (by rw[e y];simp [ak,hm y];omega) (by rw[e y];exact qV (nM (h1 y)) ho)
  rw[e y,<-hL y] at this;exact this
end
theorem k_ {vs:List J} {m:Nat} (dD:Type) (bj:dD->List J) (cd:dD->List (aw P)) (eK:dD->Prop) (gD:dD->Nat) (im:dD) (aJ:fG env n vs=bj im) (hL:L=cd im) (bg:eK im)
  (h:∀u,eK u->X B W au ro post (n+m) (ic (bj u) m env) (cd u) ((λdf L'=>∃u',eK u'/\gD u'<gD u/\df=bj u'/\h4 B W au L' (cd u'))::aL) k) (hm:∀u,(bj u).length=m:=by exact λ_=>rfl) (h1:∀u,eJ (bj u):=by exact λ_=>fL):X B W au ro post n env L aL (.loop vs m k):=⟨λak ho=>by
 refine .loop dD bj cd eK gD im hm h1 aJ (hL▸h4.refl L) bg λu hu=> ?_
 have e:ic (bj u) m env=(bj u).reverse++env:=by rw[wY,yD _ m (hm u)]
 have:=h u hu (by rw[e];simp [ak,hm u];omega) (by rw[e];exact qV (nM (h1 u)) ho);rw[e] at this
 exact this⟩
theorem h5 {dD:Type} {bj:dD->List J} {cd:dD->List (aw P)} {eK:dD->Prop} {gD:dD->Nat} {u:dD} {vs:List J} (u':dD) (ax:fG env n vs=bj u') (hL:L=cd u') (bg:eK u') (wI:gD u'<gD u):
 X B W au ro post n env L ((λdf L'=>∃u',eK u'/\gD u'<gD u/\df=bj u'/\h4 B W au L' (cd u'))::aL) (.back vs):=⟨λ_ _=> .back ⟨u',bg,wI,ax,hL▸h4.refl L⟩⟩
end
theorem Ji {n:Nat} {env:List J} {L:List (aw P)} {aL:List (eu P)} {k cB cW:a7} {x:J} {m:Nat} {p:Prop} [Decidable p] (dD:Type) (bj:dD->List J) (cd:dD->List (aw P)) (eK:dD->Prop) (ah:ex env n x= .bool (decide p))
  (h1:p->X B W au ro post n env L ((λdf L'=>∃u',eK u'/\df=bj u'/\h4 B W au L' (cd u'))::aL) cB) (ae:¬p->X B W au ro post n env L ((λdf L'=>∃u',eK u'/\df=bj u'/\h4 B W au L' (cd u'))::aL) cW)
  (h:∀u,eK u->X B W au ro post (n+m) (ic (bj u) m env) (cd u) aL k) (hm:∀u,(bj u).length=m:=by exact λ_=>rfl) (ho:∀u,eJ (bj u):=by exact λ_=>fL):X B W au ro post n env L aL (.qW x cB cW m k):=⟨λak kY=>by
 refine .qW _ ah dD bj cd eK hm ho (λad=>h1 (of_decide_eq_true ad) ak kY) (λad=>ae (of_decide_eq_false ad) ak kY) λu hu=> ?_
 have e:ic (bj u) m env=(bj u).reverse++env:=by rw[wY,yD _ m (hm u)]
 have:=h u hu (by rw[e];simp [ak,hm u];omega) (by rw[e];exact qV (nM (ho u)) kY);rw[e] at this
 exact this⟩
theorem wZ {n:Nat} {env:List J} {L:List (aw P)} {aL:List (eu P)} {dD:Type} {bj:dD->List J} {cd:dD->List (aw P)} {eK:dD->Prop} {vs:List J} (u':dD) (ax:fG env n vs=bj u') (hL:L=cd u') (bg:eK u'):
 X B W au ro post n env L ((λdf L'=>∃u',eK u'/\df=bj u'/\h4 B W au L' (cd u'))::aL) (.back vs):=⟨λ_ _=> .back ⟨u',bg,ax,hL▸h4.refl L⟩⟩
structure ahQ (q:Prop):Prop where
 go:q
theorem aN {p q:Prop} (k:q) (h:ahQ q->p:=by
 intro n_
 repeat (first
  |refine ahz U U ?_|refine ahA U U ?_|refine ahB U U ?_|refine ahC U U ?_|refine O4 U U ?_|refine wW U U ?_
  |refine Fi U U ?_|refine AD U U ?_|refine wX U U ?_|refine vq U U ?_|refine ahD U U ?_|refine Fk U U ?_|refine Fl U U ?_
  |refine ox rfl ?_|refine ahF rfl ?_|refine ahI rfl ?_|refine ahJ rfl ?_|refine kz rfl has rfl ?_|refine ie U U ?_|refine ahG U U ?_|refine Cu rfl ?_|refine Cv U U ?_|refine mM U U ?_|refine pB U U ?_
  |refine ahE U U ?_|refine O5 U U ?_|refine pD U U fK pC ?_|refine hV ?_)
 exact n_.go):p:=h ⟨k⟩
end AE
namespace AE
variable {P:aQ} {B:Nat} {W:ao} {au:List b4} {ro:List (fk P)} {post:J->List (aw P)->Prop}
def sU.{u} {α:Type u}:List α->List Nat->List α->List α
 |L,i::is,R::h_=>sU (L.set i R) is h_
 |L,[],h_=>L++h_
 |L,_::_,[]=>L
theorem Wc.{u} {α:Type u}:∀(is:List Nat) (L h_:List α),is.length<=h_.length->uf L is (h_.take is.length)++h_.drop is.length=sU L is h_
 |[],L,h_,_=>by simp [uf,sU]
 |i::is,L,[],h=>by simp at h
 |i::is,L,R::h_,h=>by
  simp only [List.length_cons,List.take_succ_cons,List.drop_succ_cons];exact Wc is (L.set i R) h_ (by simpa using h)
def ey (P:aQ) (f:FuncId) (args:List J) (W:ao) (L:List (aw P)) (Y:Type) (v:Y->J) (N:Y->List (aw P)):Prop:=
 Calls P f ⟨args⟩ W λx w'=>(∃y,x= .returned (v y)/\ef (aE W) (bD L) (aE w') (bD (N y)))/\cA 0 W w'
abbrev hK (P:aQ) (f:FuncId) (args:List J) (W:ao) (v:J):Prop:=Calls P f ⟨args⟩ W λe w'=>e= .returned v/\cA W.heap.size W w'
section
variable {n:Nat} {env:List J} {L:List (aw P)} {aL:List (eu P)} {k:a7} {f:FuncId} {args:List J} {r:J} {m:Nat}
theorem kA {dm:List (aw P)} {Y:Type} {v:Y->J} {N L':Y->List (aw P)} {aR:List J} (is:List Nat) (vs:Y->List J) (ai:∀w,ji W au ro L w->bY (aE w) (bD dm)->ey P f aR w dm Y v N)
  (h:∀y,X B W au ro post (n+m) (ic (vs y) m env) (L' y) aL k) (hr:∀y,ex (ic (vs y) m env) (n+m) r=v y:=by exact λ_=>rfl) (hL:∀y,sU L is (N y)=L' y:=by exact λ_=>rfl) (hp:pick (bD L) is=bD dm:=by rfl) (hU:ju L.length is=true:=by rfl)
  (hl:∀y,is.length<=(N y).length:=by exact λ_=>hQ rfl) (hm:∀y,(vs y).length=m:=by exact λ_=>rfl) (h1:∀y,eJ (vs y):=by exact λ_=>fL) (ha:fG env n args=aR:=by rfl):X B W au ro post n env L aL (.call f args r m k):=
 ahP Y is vs (λy=>(N y).take is.length) (λy=>(N y).drop is.length) (λw hw aH=>by
  rw[hp] at aH ⊢;rw[ha];refine(ai w hw aH).mono λe w' ah=> ?_
  obtain⟨⟨y,a_,aF⟩,hl⟩:=ah
  exact⟨⟨y,by rw[a_,hr y],by rw[List.take_append_drop];exact aF⟩,hl⟩) (λy=>(Wc is L (N y) (hl y)).trans (hL y)) h hU (λy=>by rw[List.length_take];exact Nat.min_eq_left (hl y)) hm h1
end
theorem dR.nil (M:Mem):dR ([]:List (fk P)) M:=λi r h=>by simp at h
theorem dR.cons {r:fk P} {l:List (fk P)} {M:Mem} (h:r.ok M) (hl:dR l M):dR (r::l) M:=λi q aU=>by
 cases i with
 |zero=>simp only [List.getElem?_cons_zero,cz] at aU;subst aU;exact h
 |succ i=>exact hl i q (by simpa using aU)
theorem dR.ext {l:List (fk P)} (h:dR l (aE W)):∀M,kR (aE W) [] M->dR l M:=λ_ aV i r hr=>bT.mono (h i r hr) λi o af=>aV i o af (Af i)
theorem dR.none {au:List b4}:∀M,kR (aE W) au M->dR ([]:List (fk P)) M:=λM _=> .nil M
section
variable [Lib P] {f:FuncId} {h:yy} {args aR:List J} {n:Nat} {t:a7}
theorem g_ {L:List (aw P)} {Y:Type} {v:Y->J} {N:Y->List (aw P)} (cH:P.follows .mixedOrders=true) (aA:cZ P f h args n=some t) (vs:List J) (aH:bY (aE W) (bD L)) (da:∀M,kR (aE W) (bD L) M->dR ro M)
  (ah:X 0 W (bD L) ro (λx L'=>∃y,x=v y/\L'=N y) n vs.reverse L [] t) (ha:fG vs.reverse n args=aR:=by rfl) (ak:vs.length=n:=by rfl) (ho:eJ vs:=by exact fL):ey P f aR W L Y v N:=by
 subst ha;refine(ahx cH aA L aH da ak ho (ah (by simp [ak]) (nM ho))).mono λe w q=> ?_
 obtain⟨⟨x,L',rfl,⟨y,rfl,rfl⟩,dE⟩,ae⟩:=q;exact⟨⟨y,rfl,dE⟩,ae⟩
theorem fV {v:J} (cH:P.follows .mixedOrders=true) (aA:cZ P f h args n=some t) (vs:List J) (da:dR ro (aE W))
  (ah:X W.heap.size W [] ro (λx _=>x=v) n vs.reverse [] [] t) (ha:fG vs.reverse n args=aR:=by rfl) (ak:vs.length=n:=by rfl) (ho:eJ vs:=by exact fL):hK P f aR W v:=by
 subst ha;refine(V6 cH aA da.ext ak ho (ah (by simp [ak]) (nM ho))).mono λe w q=> ?_
 obtain⟨⟨x,L',rfl,rfl,dE⟩,ae⟩:=q;exact⟨rfl,ae⟩
end
end AE
namespace AE
variable {P:aQ} {B:Nat} {W:ao} {au:List b4} {ro:List (fk P)} {post:J->List (aw P)->Prop}
theorem ahR {t e:aK} {n j:Nat} {cs:List J} {k:IntKind} {u:J} (aF:P.underlying t=some (.array n e)) (b5:a' P (sizeOf e)=some 1) (ha:a' P (isAgg e)=some false) (hj:j<n) (hu:cs[j]? =some u) (w:ao):(Instr.index t (.agg ⟨cs⟩) (.int k (j:Nat))).run P w= .ok u w:=by
 have h1:(asIntOf (.int k (j:Nat))).run P w= .ok (k,((j:Nat):Int)) w:=rfl;have al:(0:Int)<=((j:Nat):Int)/\((j:Nat):Int)<((n:Nat):Int):=⟨aj,aj⟩;unfold Instr.index;simp only [Sem.run_bind,h1,Result.andThen_ok,run_underlying aF];rw[aI al];simp only [Sem.run_bind,iF b5 w,Result.andThen_ok];unfold part;simp only [Sem.run_bind,iF ha w,Result.andThen_ok];simp [hu]
theorem aZ.ahS [a6] {t e:aK} {x i r:J} {n j:Nat} {cs:List J} {k:IntKind} {u:J} (ah:aP x=true) (af:aP i=true) (hr:aP r=true) (aF:P.underlying t=some (.array n e)) (b5:a' P (sizeOf e)=some 1) (ha:a' P (isAgg e)=some false) (hj:j<n) (hu:cs[j]? =some u)
  (ex:aM x= .agg ⟨cs⟩) (ga:aM i= .int k (j:Nat)) (cd:aM r=u):aZ P (.dP t x i,r):=by
 refine BZ (by simp [na,ah,af]) hr rfl λdx dy w _=> ?_
 show (fc dx dy (.dP t (aM x) (aM i))).run P w=_;rw[ex,ga,cd];unfold fc;simp only [Sem.run_bind,ahR aF b5 ha hj hu w,Result.andThen_ok];rfl
section
variable {n q:Nat} {al:List Nat} {env:List J} {L:List (aw P)} {aL:List (eu P)} {k:a7} {t:aK} {x y i:J}
theorem Jj {m e j:Nat} {fS:IntKind} {cs:List J} {u:J} (ah:ex (u::env) (q+1) x= .agg ⟨cs⟩) (af:ex (u::env) (q+1) i= .int fS (j:Nat)) (hu:cs[j]? =some u) (h:X B W au ro post (q+1) (u::env) L aL k) (hj:j<m:=by omega) (h1:lr u=u:=by rfl) (aF:P.underlying t=some (.array m e):=by kernel_rfl) (b5:a' P (sizeOf e)=some 1:=by kernel_rfl) (ha:a' P (isAgg e)=some false:=by kernel_rfl) (dY:aP x=true:=by rfl) (pi:aP i=true:=by rfl) (aA:Nat.blt q d_=true:=by rfl) (aU:n=q:=by rfl):
  X B W au ro post n env L aL (.o (.dP t x i) (aq q) 1 [1,m,e,1] k):=
 ky _ (λM _ _ kl hs=> @aZ.ahS P (cn M (_::env)) t e x i (aq q) m j cs fS u dY pi rfl aF b5 ha hj hu ((kl x).trans ah) ((kl i).trans af) hs) h h1 aA aU
theorem O9 {a:Option Addr} {m c j e aX m':Nat} (hm:m-j=m') (ah:ex (.slice (ke a c j aX) m' (c-j)::env) (q+1) x= .slice a m c) (af:ex (.slice (ke a c j aX) m' (c-j)::env) (q+1) i= .int .i64 (j:Nat)) (h:X B W au ro post (q+1) (.slice (ke a c j aX) m' (c-j)::env) L aL k) (hj:j<=m:=by omega) (aF:P.underlying t=some (.slice e):=by kernel_rfl) (b5:a' P (sizeOf e)=some aX:=by kernel_rfl) (dY:aP x=true:=by rfl) (pi:aP i=true:=by rfl) (aA:Nat.blt q d_=true:=by rfl) (aU:n=q:=by rfl):
  X B W au ro post n env L aL (.o (.k3 t x (some i) none none) (aq q) 1 [0,e,aX] k):=
 ky _ (λM _ _ kl hs=> @aZ.TC (cn M (_::env)) P t e aX x i (aq q) a m c j dY pi rfl aF b5 ((kl x).trans ah) ((kl i).trans af) hj (by rw[hs,hm])) h rfl aA aU
theorem ahT {g o m e aX:Nat} (ah:ex (.slice (some ⟨g,o,none⟩) m m::env) (q+1) x= .pointer (some ⟨g,o,none⟩)) (h:X B W au ro post (q+1) (.slice (some ⟨g,o,none⟩) m m::env) L aL k) (aJ:0<m:=by decide) (aF:P.underlying t=some (.array m e):=by kernel_rfl) (b5:a' P (sizeOf e)=some aX:=by kernel_rfl) (dY:aP x=true:=by rfl) (aA:Nat.blt q d_=true:=by rfl) (aU:n=q:=by rfl):
  X B W au ro post n env L aL (.o (.k3 t x none none none) (aq q) 1 [1,m,e,aX] k):=
 ky _ (λM _ _ kl hs=> @aZ.ad' (cn M (_::env)) P t e x (aq q) g o m aX dY rfl aF b5 ((kl x).trans ah) aJ hs) h rfl aA aU
theorem Cw {xs ys:List J} {b:Bool} (ah:ex (.bool (!b)::env) (q+1) x= .agg ⟨xs⟩) (a_:ex (.bool (!b)::env) (q+1) y= .agg ⟨ys⟩) (he:p4 P 10000 t (.agg ⟨xs⟩) (.agg ⟨ys⟩)=some b) (h:X B W au ro post (q+1) (.bool (!b)::env) L aL k) (ahU:P.eqGuardType P.depth t=false:=by kernel_rfl) (dY:aP x=true:=by rfl) (h9:aP y=true:=by rfl) (aA:Nat.blt q d_=true:=by rfl) (aU:n=q:=by rfl):
  X B W au ro post n env L aL (.o (.bin .neq t x y) (aq q) 1 al k):=
 ky _ (λM _ _ af hs=>wU (@aZ.TJ (cn M (_::env)) P t x y ⟨xs⟩ ⟨ys⟩ b ahU dY h9 ((af x).trans ah) ((af y).trans a_) he) (by rw[hs];rfl)) h rfl aA aU
end
section
variable {n:Nat} {env:List J} {L:List (aw P)} {aL:List (eu P)}
theorem la {x:J} {L':List (aw P)} (dE:∀M,b6 B (aE W) au M (bD L)->b6 B (aE W) au M (bD L')) (h:post (ex env n x) L'):X B W au ro post n env L aL (.ret x):=⟨λ_ _=> .ret L' dE h⟩
end
theorem Wd.{u} {α:Type u}:∀(L R pre:List α),L.length=R.length->sU (pre++L) (List.range' pre.length L.length) R=pre++R
 |[],[],pre,_=>by simp [sU]
 |a::L,r::R,pre,h=>by
  have:=Wd L R (pre++[r]) (by simpa using h);rw[List.length_cons,List.range'_succ];show sU ((pre++a::L).set pre.length r) _ R=_;rw[List.set_append_right _ _ (bL _),Nat.sub_self,List.set_cons_zero];simpa using this
theorem Fo.{u} {α:Type u} {n:Nat} {L R:List α} (hL:L.length=n) (hb:R.length=n):sU L (List.range' 0 n) R=R:=by
 subst hL;have:=Wd L R [] hb.symm;simpa using this
theorem O':∀(dm X pre:List b4),pick (pre++(dm++X)) (List.range' pre.length dm.length)=dm
 |[],_,_=>rfl
 |a::dm,X,pre=>by
  have:=O' dm X (pre++[a]);rw[List.length_append,List.length_singleton,List.append_assoc] at this;rw[List.length_cons,List.range'_succ];unfold pick;rw[List.getElem?_append_right (bL _),Nat.sub_self];show a::pick (pre++([a]++(dm++X))) _=_;rw[this]
theorem We.{u} {α:Type u}:∀(dm R X pre:List α),dm.length=R.length->sU (pre++(dm++X)) (List.range' pre.length dm.length) R=pre++(R++X)
 |[],[],X,pre,_=>by simp [sU]
 |a::dm,r::R,X,pre,h=>by
  have:=We dm R X (pre++[r]) (by simpa using h);rw[List.length_append,List.length_singleton,List.append_assoc,List.append_assoc] at this;rw[List.length_cons,List.range'_succ];show sU ((pre++(a::(dm++X))).set pre.length r) _ R=_;rw[List.set_append_right _ _ (bL _),Nat.sub_self,List.set_cons_zero];exact this
theorem O_ (n:Nat):∀(m s:Nat),s+m<=n->ju n (List.range' s m)=true
 |0,_,_=>rfl
 |m+1,s,h=>by
  rw[List.range'_succ];unfold ju;rw[O_ n m (s+1) aj,Bool.and_true,cV];refine⟨Nat.blt_eq.mpr aj,?_⟩;rw[Bool.not_eq_true',<-Bool.not_eq_true];intro ai;have:=List.mem_range'_1.1 (by simpa using ai:s∈List.range' (s+1) m);omega
theorem b6.pre {M:Mem} {dm X:List (aw P)} (h:b6 B (aE W) au M (bD (dm++X))):b6 B (aE W) au M (bD dm):=by
 have e:=O' (bD dm) (bD X) [];have:=h.pick (List.range' 0 dm.length) (O_ _ _ _ (by simp));rw[show bD (dm++X)=bD dm++bD X from List.map_append] at this;rw[show (bD dm).length=dm.length from List.length_map _] at e;rw[List.nil_append] at e;rw[show List.range' 0 dm.length=List.range' ([]:List b4).length dm.length from rfl,e] at this;exact this
theorem pE {n:Nat} {env:List J} {L:List (aw P)} {aL:List (eu P)} {k:a7} {f:FuncId} {args:List J} {r:J} {m:Nat} {dm AG:List (aw P)} {Y:Type} {v:Y->J} {N:Y->List (aw P)} {aR:List J} (vs:Y->List J) (ai:∀w,ji W au ro L w->bY (aE w) (bD dm)->ey P f aR w dm Y v N)
  (h:∀y,X B W au ro post (n+m) (ic (vs y) m env) (N y++AG) aL k) (hr:∀y,ex (ic (vs y) m env) (n+m) r=v y:=by exact λ_=>rfl) (hL:L=dm++AG:=by rfl) (hl:∀y,dm.length=(N y).length:=by exact λ_=>rfl) (hm:∀y,(vs y).length=m:=by exact λ_=>rfl) (h1:∀y,eJ (vs y):=by exact λ_=>fL) (ha:fG env n args=aR:=by rfl):X B W au ro post n env L aL (.call f args r m k):=by
 subst hL;refine kA (dm:=dm) (L':=λy=>N y++AG) (List.range' 0 dm.length) vs ai h hr (λy=>We dm (N y) AG [] (hl y)) ?_ (O_ _ _ _ (by simp)) (λy=>by rw[List.length_range',hl y];exact bL _) hm h1 ha;have e:=O' (bD dm) (bD AG) [];rw[show (bD dm).length=dm.length from List.length_map _] at e;rw[show bD (dm++AG)=bD dm++bD AG from List.map_append];exact e
theorem Pa {M:Mem} {L L':List (aw P)} (d:Nat) {K:gE P} {a:Option Addr} {m c j m':Nat} {l k2:List K.α} (hP:nq L d (.kO K (.slice a m c) l) (.kO K (.slice (ke a c j K.k) m' (c-j)) k2) L') (hl:k2=l.drop j) (hm:m-j=m') (hj:j<=m) (h:b6 B (aE W) au M (bD L)):b6 B (aE W) au M (bD L'):=by
 obtain⟨af,rfl⟩:=hP.get;subst hl hm;rw[sS];exact h.mG d (kf af) (Ib ((h.kO d (kf af)).drop K.len hj) (λ_ _ h _=>h) λi af=> .inl (ae6 af))
end AE
section
noncomputable section
namespace AE
def sV (P:aQ) (e k bytes:Nat):Bool:=match P.info? e with
 |some i=>(match i.zero with|some z=>Nat.beq z.cells.size k|none=>false)&&(Nat.beq i.size k&&(Nat.beq i.bytes bytes&&(match a' P (sizeOf e) with|some m=>Nat.beq m k|none=>false)))
 |none=>false
theorem Wf {P:aQ} {e k bytes:Nat} (h:sV P e k bytes=true):(∃i z,P.info? e=some i/\i.zero=some z/\i.size=k/\i.bytes=bytes/\z.cells.size=k)/\a' P (sizeOf e)=some k:=by
 unfold sV at h;split at h
 ·rename_i i af
  simp only [cV] at h;obtain⟨h1,ae,ar,bm⟩:=h;split at h1
  ·rename_i z bu
   split at bm
   ·rename_i m hm
    exact⟨⟨i,z,af,bu,cq ae,cq ar,cq h1⟩,by rw[hm,cq bm]⟩
   ·cases bm
  ·cases h1
 ·cases h
@[reducible] def vt {P:aQ} {α:Type} (d:α) (e k bytes:Nat) (enc:α->List J) (h:sV P e k bytes=true) (ag:0<k:=by decide) (hl:∀x,(enc x).length=k:=by exact λ_=>rfl) (ho:∀x,∀u∈enc x,u.oneCell'=true:=by intro x;repeat (first|exact Nd|refine Nf rfl ?_)):gE P:=
  ⟨α,d,e,k,bytes,enc,hl,ho,ag,(Wf h).2,(Wf h).1⟩
end AE
end
end
section
noncomputable section
namespace AE
abbrev c0:=List (fF×J)
abbrev fM:=List (FuncId×List J×J)
abbrev at' (N:Nat) (F:c0) (C:fM) (c:Code) (s:cC):Option bQ:=Tr Tryz.prog F C N 1000 10 c s
abbrev AH (N:Nat) (F:c0) (C:fM) (ks:List fu) (o:Option bQ):Option bQ:=Ts Tryz.prog F C N 1000 10 ks o
abbrev Wg (N:Nat) (F:c0) (C:fM) (r:List Oper) (ops:Array Oper) (ks:List fu) (s:cC):Option bQ:=zW Tryz.prog F C N 1000 10 r ops ks s
abbrev iz:=Code×List Nat×Nat
def ni (p:iz):Array Oper:=aeR p.1 p.2.1
def Wh (p:iz):List fu:=tT p.1 p.2.1 []
def Wi (p:iz):List Oper:=(ni p).toList.drop p.2.2
def Pb (o:Option bQ):List Oper×Array Oper×List fu:=(jo o,jq o,hk o)
def Pc (p:iz):List Oper×Array Oper×List fu:=(Wi p,ni p,Wh p)
abbrev hW (N:Nat) (F:c0) (C:fM) (p:iz) (s:cC):Option bQ:=zW Tryz.prog F C N 1000 10 (Wi p) (ni p) (Wh p) s
def mm (N:Nat) (sl:a1) (dst:Nat) (v:J):a1:=match gG N sl (some dst) v with|some s=>s|none=> .nil
section
variable [a6] [cK] {N B:Nat} {w0 w:ao} {a:Act} {Q:Exit->Act->ao->Prop} [nh Q]
theorem dG (F:c0) (T:fM) {c:Code} {s:cC} (cl:sI Tryz.prog F) (dE:rI Tryz.prog T) (h:eW Tryz.prog N B w0 Q (at' N F T c s)) (al:Here N s B w0 a w):c.wpIn (Fr none) 0 Tryz.prog Q a w:=adQ mixed cl dE h al
theorem jG {o:Option bQ} {p:iz} {s:cC} (e:Pb o=Pc p) (F:c0) (T:fM) (cl:sI Tryz.prog F) (dE:rI Tryz.prog T) (h:eW Tryz.prog N B w0 Q (hW N F T p s)) (al:Here N s B w0 a w):wpListIn (Fr none) 0 Tryz.prog (jq o) (dK Tryz.prog (hk o) Q) (jo o) a w:=
 aeS (congrArg Prod.fst e) (congrArg (λx=>x.2.1) e) (congrArg (λx=>x.2.2) e) mixed cl dE h al
theorem Cx {ks:List fu} {o:Option bQ} {R:Act->ao->Prop} (F:c0) (T:fM) (cl:sI Tryz.prog F) (dE:rI Tryz.prog T) (h:eW Tryz.prog N B w0 Q (AH N F T ks o)):eW Tryz.prog N B w0 (Exit.then R (dK Tryz.prog ks Q)) o:=adR mixed cl dE h
end
theorem mO {s1 s2:a6} {l:ec} (h:e8 s1 s2 l:=by repeat (first|exact Ef|refine adS (by first|exact ae_ U U U U|rfl|exact adU U U aj|exact adT aj|exact ae5 rfl ct) ?_)):e8 s1 s2 l:=h
theorem Jk {s1:a6} [cK] {P:aQ} {N B:Nat} {w0:ao} {X:Type} {gY:X->a6} {eK:X->Prop} {gD:X->Nat} {m:Nat} {head:a1} {aT:List bS} {o:Option bQ} (x':X) {bG:ec} {Q:Exit->Act->ao->Prop} (ad:zV head aT o=some bG) (hm:e8 s1 (gY x') bG)
 (bg:eK x') (wI:gD x'<m:=by (try dsimp only);omega) (pj:∀i o,(gY x').dL i=some o->s1.dL i=some o:=by exact λ_ _ h=>h) (ak:cK.cU<=aT.length:=by first|exact Nat.zero_le _|exact hQ rfl) (ai:hT (de o).A aT 0:=by exact fR rfl):
 @eW s1 _ P N B w0 (Exit.then (Ng gY eK gD m N head aT B w0) Q) o:=ae' x' ad hm pj bg wI ak ai
section
variable [a6] {P:aQ}
theorem dA {op:BinOp} {t:aK} {x y r:J} {k:IntKind} {a b:Int} (ex:aM x= .int k a:=by exact rfl) (gO:aM y= .int k b:=by exact rfl)
 (ah:aP x=true:=by exact rfl) (a_:aP y=true:=by exact rfl) (hr:aP r=true:=by exact rfl) (ca:wA op=true:=by exact rfl) (cd:aM r=vh op k a b:=by exact aea aj):aZ P (.bin op t x y,r):=aZ.bi ah a_ hr ca ex gO cd
theorem b0 {op:BinOp} {t:aK} {x y r:J} {k:IntKind} {a b:Int} (ex:aM x= .int k a:=by exact rfl) (gO:aM y= .int k b:=by exact rfl)
 (ah:aP x=true:=by exact rfl) (a_:aP y=true:=by exact rfl) (hr:aP r=true:=by exact rfl) (ca:wA op=true:=by exact rfl) (cd:aM r=vh op k a b:=by exact aeb aj):aZ P (.bin op t x y,r):=aZ.bi ah a_ hr ca ex gO cd
theorem Cy {op:BinOp} {t:aK} {x y r:J} {k:IntKind} {a b:Int} (ex:aM x= .int k a:=by exact rfl) (gO:aM y= .int k b:=by exact rfl)
 (ah:aP x=true:=by exact rfl) (a_:aP y=true:=by exact rfl) (hr:aP r=true:=by exact rfl) (ca:wA op=true:=by exact rfl) (cd:aM r=vh op k a b:=by exact aec aj):aZ P (.bin op t x y,r):=aZ.bi ah a_ hr ca ex gO cd
theorem Fp {op:BinOp} {t:aK} {x y r:J} {k:IntKind} {a b:Int} (ex:aM x= .int k a:=by exact rfl) (gO:aM y= .int k b:=by exact rfl)
 (ah:aP x=true:=by exact rfl) (a_:aP y=true:=by exact rfl) (hr:aP r=true:=by exact rfl) (ca:wA op=true:=by exact rfl) (cd:aM r=vh op k a b:=by exact aed aj):aZ P (.bin op t x y,r):=aZ.bi ah a_ hr ca ex gO cd
theorem AI {op:BinOp} {t:aK} {x y r:J} {k:IntKind} {a b:Int} (ex:aM x= .int k a:=by exact rfl) (gO:aM y= .int k b:=by exact rfl)
 (ah:aP x=true:=by exact rfl) (a_:aP y=true:=by exact rfl) (hr:aP r=true:=by exact rfl) (ca:wA op=true:=by exact rfl) (cd:aM r=vh op k a b:=by exact aee aj aj aj):aZ P (.bin op t x y,r):=aZ.bi ah a_ hr ca ex gO cd
theorem ur {x r:J} {a:Addr} (ex:aM x= .pointer (some a):=by exact rfl) (cd:aM r= .pointer (some a):=by exact rfl) (ah:aP x=true:=by exact rfl) (hr:aP r=true:=by exact rfl):aZ P (.dp x,r):=aZ.T7 ah hr ex cd
theorem sW {s:aK} {x r:J} {f g o:Nat} (ty off m:Nat) (ex:aM x= .pointer (some ⟨g,o,none⟩):=by exact rfl) (cd:aM r= .pointer (some ⟨g,o+off,none⟩):=by exact rfl) (ah:aP x=true:=by exact rfl) (hr:aP r=true:=by exact rfl)
 (aO:((P.fieldsOf s)[f]?).map (λf=>(f.type,f.offset))=some (ty,off):=by kernel_rfl) (hs:a' P (underlying s)=some (.struct (P.fieldsOf s)):=by kernel_rfl) (hm:a' P (sizeOf ty)=some m:=by kernel_rfl) (aJ:m≠0:=by decide):aZ P (.b7 s x f,r):=aZ.T8 aO hs hm aJ ah hr ex cd
section
variable {B g:Nat} {ep:Mem} {cN L:List b4}
theorem Fq {ty t:aK} {cs:List J} {p r u:J} (j i:Nat) (cS:b6 B ep cN a6.dL L) (af:L[i]? =some (nJ g ty cs):=by exact rfl) (lO:aM p= .pointer (some ⟨g,j,none⟩):=by exact rfl) (hj:cs[j]? =some u:=by exact rfl) (cd:aM r=u:=by exact rfl)
 (hp:aP p=true:=by exact rfl) (hr:aP r=true:=by exact rfl) (ha:a' P (isAgg t)=some false:=by kernel_rfl):aZ P (.bf t p,r):=aZ.T6 (cS.box i af) hj hp hr ha lO cd
end
section
variable {α:Type} {k:Nat} {enc:α->List J} {v:J} {l:List α}
theorem Wj {t e:aK} {x i r:J} {j:Nat} {fS:IntKind} (h:bT a6.dL k enc v l) (hj:j<l.length) (aF:P.underlying t=some (.slice e)) (b5:a' P (sizeOf e)=some k) (ex:aM x=v:=by exact rfl) (ga:aM i= .int fS j:=by exact rfl) (cd:aM r=kt v (j*k):=by exact rfl)
 (ah:aP x=true:=by exact rfl) (af:aP i=true:=by exact rfl) (hr:aP r=true:=by exact rfl):aZ P (.cm t x i,r):=aZ.Mp h hj ah af hr aF b5 ex ga cd
theorem Fs {t e:aK} {x i r:J} {j:Nat} {fS:IntKind} (h:bT a6.dL k enc v l) (aF:P.underlying t=some (.slice e)) (b5:a' P (sizeOf e)=some k) (ex:aM x=v:=by exact rfl) (ga:aM i= .int fS j:=by exact rfl) (cd:aM r=kt v (j*k):=by exact rfl) (hj:j<l.length:=by omega)
 (ah:aP x=true:=by exact rfl) (af:aP i=true:=by exact rfl) (hr:aP r=true:=by exact rfl):aZ P (.cm t x i,r):=aZ.Mp h hj ah af hr aF b5 ex ga cd
theorem Wk {t:aK} {p r:J} {i o:Nat} {x:α} {u:J} (j:Nat) (h:bT a6.dL k enc v l) (af:l[i]? =some x) (ha:a' P (isAgg t)=some false) (hu:(enc x)[j]? =some u:=by exact rfl) (ho:o=i*k+j:=by exact rfl) (ex:aM p=kt v o:=by exact rfl) (cd:aM r=u:=by exact rfl)
 (hp:aP p=true:=by exact rfl) (hr:aP r=true:=by exact rfl):aZ P (.bf t p,r):=aZ.Tn h af hp hr ha ho hu ex cd
theorem sX {t ty e:aK} {x r:J} (h:bT a6.dL k enc v l) (aF:P.underlying t=some (.slice e)) (ex:aM x=v:=by exact rfl) (cd:aM r= .int .i64 l.length:=by exact rfl) (ah:aP x=true:=by exact rfl) (hr:aP r=true:=by exact rfl):aZ P (.len #[t] ty x,r):=aZ.adE h ah hr aF ex cd
end
end
abbrev _root_.List.jW {α:Type} [Inhabited α] (l:List α) (i:Nat):α:=l.getD i default
abbrev b8 {α:Type} (a:Option Addr) (l:List α) (c:Nat):J:= .slice a l.length c
abbrev nu (g o:Nat):J:= .pointer (some ⟨g,o,none⟩)
abbrev Jl {α:Type} (e:aK) (k:Nat) (enc:α->List J) (a:Option Addr) (l:List α) (c:Nat):b4:=jt e k enc (.slice a l.length c) l
abbrev Jm {α:Type} (e:aK) (k:Nat) (enc:α->List J) (a:Option Addr) (l:List α) (c:Nat):b4:=oT e k enc (.slice a l.length c) l
abbrev Ft {α:Type} (e:aK) (k:Nat) (enc:α->List J) (a:Option Addr) (n c:Nat) (l:List α):b4:=jt e k enc (.slice a n c) l
abbrev Jn (a:Option Addr) (l:List bq) (c:Nat):b4:=Jl vo 4 ch a l c
abbrev vu (a:Option Addr) (l:List Bool) (c:Nat):b4:=Jl mg 1 hx a l c
abbrev Fu (a:Option Addr) (n c:Nat) (l:List Bool):b4:=Ft mg 1 hx a n c l
abbrev w3 (a:Option Addr) (l:List Int) (c:Nat):b4:=Jl tQ 1 hv a l c
abbrev Wl (a:Option Addr) (n c:Nat) (l:List Int):b4:=Ft tQ 1 hv a n c l
abbrev Jo (a:Option Addr) (l:List cc) (c:Nat):b4:=Jl oR 8 gm a l c
abbrev ahV (a:Option Addr) (n c:Nat) (l:List cc):b4:=Ft oR 8 gm a n c l
abbrev Cz (a:Option Addr) (l:List Nat) (c:Nat):b4:=Jm rQ 1 oW a l c
instance instSymN (n:Nat):OfNat J n:=⟨aq n⟩
abbrev I (x:Int):J:= .int .i64 x
theorem kB {α:Type} (a:α):∃x,x=a:=⟨a,rfl⟩
abbrev b6.Rw {B:Nat} {ep:Mem} {cN:List b4} {M:Mem} {L:List b4} (_:b6 B ep cN M L):List b4:=cN
def qh (o:Option bQ):Option (FuncId×List J):=match tO Tryz.prog o with|some x=>some (x.1,x.2.1)|none=>none
theorem Pd {o:Option bQ} {f:FuncId} {args:List J} (h:qh o=some (f,args)):(tO Tryz.prog o).isSome=true/\(qM Tryz.prog o).1=f/\(qM Tryz.prog o).2.1=args:=by
 unfold qh at h;unfold qM;cases e:tO Tryz.prog o with
 |none=>rw[e] at h;cases h
 |some x=>rw[e] at h;cases h;exact⟨rfl,rfl,rfl⟩
theorem sY [cK] {N B:Nat} {w0:ao} {Q:Exit->Act->ao->Prop} {M:Mem} {bh:List J} {o:Option bQ} {f:FuncId} {args:List J} {dV:J} {Y:Type} {bC:Y->List J} {dF du:a1} {aT:List bS} {bG:ec} {ep:Mem} {au rN:List b4} {Aj:Y->List b4}
  (aH:b6 B ep au M rN) (is:List Nat) (ku B6:Y->List b4) (he:qh o=some (f,args)) (cY:d' (lS Tryz.prog o) dF aT=some bG) (dW:gG N dF (iq o) dV=some du)
  (hU:ju rN.length is=true:=by exact rfl) (hL:∀y,Aj y=ku y++B6 y:=by exact λ_=>rfl)
  (kN:∀w,(∀i o,M i=some o->w.heap[i]? =some o)->B<=w.heap.size->bY (aE w) (AE.pick rN is)->Calls Tryz.prog f ⟨@e4 (aY M bh) args⟩ w λe w'=>(∃y,e= .returned (@aM (aY M (bC y)) dV)/\ef (aE w) (AE.pick rN is) (aE w') (Aj y))/\cA 0 w w')
  (rest:∀M' y,b6 B ep au M' (ly rN is (ku y)++B6 y)->∀aR w,@Here (aY M' (bC y)) _ N {sl:=du,ms:=[],A:=ff aT} B w0 aR w->wpListIn (Fr none) 0 Tryz.prog (jq o) (dK Tryz.prog (hk o) Q) (jo o) aR w)
  (hr:∀M' y,@aM (aY M' (bC y)) dV= @aM (aY M (bC y)) dV:=by exact λ_ _=>rfl)
  (hm:∀y M',e8 (aY M bh) (aY M' (bC y)) bG:=by exact λ_ _=>mO)
  (hlen:∀y,(ku y).length=is.length:=by exact λ_=>rfl) (hp:ev args=true:=by rfl) (fq:aP dV=true:=by rfl)
  (ak:cK.cU<=aT.length:=by first|exact Nat.zero_le _|exact hQ rfl) (ai:hT (lS Tryz.prog o).A aT 0:=by exact fR rfl): @eW (aY M bh) _ Tryz.prog N B w0 Q o:=
 Um aH is ku B6 (Pd he).1 (Pd he).2.1 (Pd he).2.2 cY dW hU hr hL kN hm rest hlen hp fq ak ai
section
variable [a6] {f:FuncId} {fn:Func} {args:List J} {W:ao} {R:Ending->ao->Prop}
theorem ahW (c:Code) (b3:cC) (N:Nat) (args:List J) (mc:nb W) (lK:Tryz.prog.funcs[f]? =some fn) (p0:∀a,@Here _ eV N b3 W.heap.size W a W->c.wpIn (Fr none) 0 Tryz.prog (@p1 eV Tryz.prog fn N W.heap.size W R) a W)
  (ai:fn.body=some c:=by kernel_rfl) (gC:(match setArgs 0 args .nil with|some sl=>some ({sl,ms:=[],A:=start}:cC)|none=>none)=some b3:=by kernel_rfl) (hp:ev args=true:=by kernel_rfl) (h0:args.length+(fn.ntmps-args.length)=N:=by kernel_rfl):Calls Tryz.prog f ⟨e4 args⟩ W R:=by
 cases e:setArgs 0 args .nil with
 |none=>rw[e] at gC;cases gC
 |some sl=>rw[e] at gC;cases gC;exact Tt lK ai e hp h0 mc p0
theorem ahX (c:Code) (b3:cC) (N:Nat) (args:List J) (mc:nb W) (lK:Tryz.prog.funcs[f]? =some fn) (p0:∀a,@Here _ eV N b3 0 W a W->c.wpIn (Fr none) 0 Tryz.prog (@p1 eV Tryz.prog fn N 0 W R) a W)
  (ai:fn.body=some c:=by kernel_rfl) (gC:(match setArgs 0 args .nil with|some sl=>some ({sl,ms:=[],A:=start}:cC)|none=>none)=some b3:=by kernel_rfl) (hp:ev args=true:=by kernel_rfl) (h0:args.length+(fn.ntmps-args.length)=N:=by kernel_rfl):Calls Tryz.prog f ⟨e4 args⟩ W R:=by
 cases e:setArgs 0 args .nil with
 |none=>rw[e] at gC;cases gC
 |some sl=>rw[e] at gC;cases gC;exact TD lK ai e hp h0 mc p0
end
section
variable [cK] {N B:Nat} {w0:ao} {X:Type}
end
section
variable [a6] [cK] {N B:Nat} {w0 w:ao} {a:Act} {Q:Exit->Act->ao->Prop} [nh Q]
end
abbrev gn {s:a6} {o:cK} {N:Nat} {st:cC} {B:Nat} {w0:ao} {a:Act} {w:ao} (_: @Here s o N st B w0 a w):a6:=s
section
variable {B:Nat} {ep:Mem} {cN:List b4} {M:Mem}
theorem b6.Fv {iI:b4} (h:b6 B ep cN M [iI]):b6 B ep cN M [iI]:=h
theorem b6.Pe {iI f_:b4} (h:b6 B ep cN M [iI,f_]):b6 B ep cN M [iI,f_]:=h
theorem b6.Pf {iI f_ jE:b4} (h:b6 B ep cN M [iI,f_,jE]):b6 B ep cN M [iI,f_,jE]:=h
theorem b6.ahY {iI f_ jE lR:b4} (h:b6 B ep cN M [iI,f_,jE,lR]):b6 B ep cN M [iI,f_,jE,lR]:=h
theorem b6.ahZ {iI f_ jE lR nU:b4} (h:b6 B ep cN M [iI,f_,jE,lR,nU]):b6 B ep cN M [iI,f_,jE,lR,nU]:=h
theorem b6.ah0 {iI f_ jE lR nU pF pG q4 q5 q6:b4} (h:b6 B ep cN M [iI,f_,jE,lR,nU,pF,pG,q4,q5,q6]):b6 B ep cN M [iI,f_,jE,lR,nU,pF,pG,q4,q5,q6]:=h
theorem b6.Wm {iI f_ jE lR nU pF pG q4 q5 q6 uu:b4} (h:b6 B ep cN M [iI,f_,jE,lR,nU,pF,pG,q4,q5,q6,uu]):b6 B ep cN M [iI,f_,jE,lR,nU,pF,pG,q4,q5,q6,uu]:=h
theorem b6.Jp {iI f_ jE lR nU pF pG q4 q5 q6 uu yF:b4} (h:b6 B ep cN M [iI,f_,jE,lR,nU,pF,pG,q4,q5,q6,uu,yF]):b6 B ep cN M [iI,f_,jE,lR,nU,pF,pG,q4,q5,q6,uu,yF]:=h
theorem b6.Wn {iI f_ jE lR nU pF pG q4 q5 q6 uu yF Fw:b4} (h:b6 B ep cN M [iI,f_,jE,lR,nU,pF,pG,q4,q5,q6,uu,yF,Fw]):b6 B ep cN M [iI,f_,jE,lR,nU,pF,pG,q4,q5,q6,uu,yF,Fw]:=h
theorem b6.Wo {iI f_ jE lR nU pF pG q4 q5 q6 uu yF Fw Wp:b4} (h:b6 B ep cN M [iI,f_,jE,lR,nU,pF,pG,q4,q5,q6,uu,yF,Fw,Wp]):b6 B ep cN M [iI,f_,jE,lR,nU,pF,pG,q4,q5,q6,uu,yF,Fw,Wp]:=h
end
section
variable {f:FuncId} {fn:Func} {W:ao} {R:Ending->ao->Prop}
theorem uv (bh:List J) (c:Code) (b3:cC) (N:Nat) (args:List J) (lK:Tryz.prog.funcs[f]? =some fn) (p0:∀a,@Here (aY (aE W) bh) eV N b3 W.heap.size W a W->c.wpIn (Fr none) 0 Tryz.prog (@p1 eV Tryz.prog fn N W.heap.size W R) a W)
  (ai:fn.body=some c:=by kernel_rfl) (gC:(match setArgs 0 args .nil with|some sl=>some ({sl,ms:=[],A:=start}:cC)|none=>none)=some b3:=by kernel_rfl) (hp:ev args=true:=by kernel_rfl) (h0:args.length+(fn.ntmps-args.length)=N:=by kernel_rfl):Calls Tryz.prog f ⟨@e4 (aY (aE W) bh) args⟩ W R:=
 @ahW (aY (aE W) bh) _ _ _ _ c b3 N args (Tp W _) lK p0 ai gC hp h0
theorem Jq (bh:List J) (c:Code) (b3:cC) (N:Nat) (args:List J) (lK:Tryz.prog.funcs[f]? =some fn) (p0:∀a,@Here (aY (aE W) bh) eV N b3 0 W a W->c.wpIn (Fr none) 0 Tryz.prog (@p1 eV Tryz.prog fn N 0 W R) a W)
  (ai:fn.body=some c:=by kernel_rfl) (gC:(match setArgs 0 args .nil with|some sl=>some ({sl,ms:=[],A:=start}:cC)|none=>none)=some b3:=by kernel_rfl) (hp:ev args=true:=by kernel_rfl) (h0:args.length+(fn.ntmps-args.length)=N:=by kernel_rfl):Calls Tryz.prog f ⟨@e4 (aY (aE W) bh) args⟩ W R:=
 @ahX (aY (aE W) bh) _ _ _ _ c b3 N args (Tp W _) lK p0 ai gC hp h0
end
theorem jX {N:Nat} {sl:a1} {d:Option Tmp} (h:a1) (v:J) (p:gG N sl d v=some h:=by kernel_rfl):gG N sl d v=some h:=p
theorem jH {o:Option bQ} (p:iz) (h:Pb o=Pc p:=by kernel_rfl):Pb o=Pc p:=h
theorem AJ {α:Type} [Inhabited α] {l:List α} (i:Nat) (h:i<l.length:=by omega):l[i]? =some (l.getD i default):=aef h
abbrev gp:=Option Addr
theorem dX [a6] [cK] {P:aQ} {fn:Func} {N B:Nat} {w0:ao} {A:Ending->ao->Prop} {o:Option bQ} {v:J} (h:kL P fn o=some v) (hb:∀w2,nb w2->A (.returned (aM v)) w2):eW P N B w0 (p1 P fn N B w0 λe w=>A e w/\cA B w0 w) o:=adN h λw2 hl af=>⟨hb w2 af,hl⟩
theorem ah1 {α:Type} [Inhabited α] {l:List α} {i:Nat} {z:α} (h:l[i]? =some z):l.jW i=z:=getD_some h
theorem ah2 [cK] {α:Type} {P:aQ} {N B:Nat} {w0:ao} {Q:Exit->Act->ao->Prop} {M:Mem} {bh:List J} {o:Option bQ} {t e:aK} {k:Nat} {p x u mf:J} {enc:α->List J} {l l':List α} {i:Nat} {y:α} {dF du:a1} {aT:List bS} {bG:ec} (j:Nat) (bC:List J)
  (eT:l'=l.set i y) (h:oQ o=some (t,p,x)) (ag:∀x,(enc x).length=k) (cY:d' (de o) dF aT=some bG) (dW:gG N dF (iq o) undef=some du) (cj:dt B M e k enc u l) (af:i<l.length)
  (rest:∀M',dt B M' e k enc u l'->gR M M' (ek u)->∀aR w,@Here (aY M' bC) _ N {sl:=du,ms:=[],A:=ff aT} B w0 aR w->wpListIn (Fr none) 0 P (jq o) (dK P (hk o) Q) (jo o) aR w)
  (b5:a' P (sizeOf t)=some 1:=by kernel_rfl) (hj:j<k:=by decide) (lO: @aM (aY M bh) p=kt u (i*k+j):=by exact rfl) (ex: @aM (aY M bh) x=mf:=by exact rfl) (hu:mf.cells= #[mf]:=by exact rfl) (je:mf.oneCell'=true:=by exact rfl)
  (hp:aP p=true:=by exact rfl) (ah:aP x=true:=by exact rfl) (a_:∀z,l[i]? =some z->enc y=(enc z).set j mf:=by intro z bu;first|rfl|(rw[getD_some bu];rfl)|(rw[ah1 bu];rfl)) (hm:∀M',e8 (aY M bh) (aY M' bC) bG:=by exact λ_=>mO)
  (ak:cK.cU<=aT.length:=by first|exact Nat.zero_le _|exact hQ rfl) (ai:hT (de o).A aT 0:=by exact fR rfl): @eW (aY M bh) _ P N B w0 Q o:=
 Ug eT h b5 ag hj a_ cY dW hp ah lO ex hu je cj af hm rest ak ai
theorem Fx [cK] {P:aQ} {N B:Nat} {w0:ao} {Q:Exit->Act->ao->Prop} {M:Mem} {bh:List J} {o:Option bQ} {t ty:aK} {g:Nat} {p x u:J} {cs:List J} {dF du:a1} {aT:List bS} {bG:ec} (j:Nat) (cs' bC:List J)
  (h:oQ o=some (t,p,x)) (cY:d' (de o) dF aT=some bG) (dW:gG N dF (iq o) undef=some du) (cj:iK B M (.pointer (some ⟨g,0,none⟩)) ty cs)
  (rest:∀M',iK B M' (.pointer (some ⟨g,0,none⟩)) ty cs'->gR M M' (some g)->∀aR w,@Here (aY M' bC) _ N {sl:=du,ms:=[],A:=ff aT} B w0 aR w->wpListIn (Fr none) 0 P (jq o) (dK P (hk o) Q) (jo o) aR w)
  (b5:a' P (sizeOf t)=some 1:=by kernel_rfl) (lO: @aM (aY M bh) p= .pointer (some ⟨g,j,none⟩):=by exact rfl) (ex: @aM (aY M bh) x=u:=by exact rfl) (eT:cs'=cs.set j u:=by exact rfl) (hu:u.cells= #[u]:=by exact rfl) (je:u.oneCell'=true:=by exact rfl)
  (hp:aP p=true:=by exact rfl) (ah:aP x=true:=by exact rfl) (hj:j<cs.length:=by exact hQ rfl) (hm:∀M',e8 (aY M bh) (aY M' bC) bG:=by exact λ_=>mO)
  (ak:cK.cU<=aT.length:=by first|exact Nat.zero_le _|exact hQ rfl) (ai:hT (de o).A aT 0:=by exact fR rfl): @eW (aY M bh) _ P N B w0 Q o:=
 T' eT h b5 cY dW hp ah lO ex hu je cj hj hm rest ak ai
end AE
end
end
namespace AE
abbrev dc:=Int×Int×Int
abbrev bw:=Int×Int×Int×Int×Int×Int
def vv (x:dc):List J:=[.int .i64 x.1,.int .i64 x.2.1,.int .i64 x.2.2]
abbrev P.val (x:dc):J:= .agg ⟨vv x⟩
def lB (x:bw):List J:=[.int .i64 x.1,.int .i64 x.2.1,.int .i64 x.2.2.1,.int .i64 x.2.2.2.1,.int .i64 x.2.2.2.2.1,.int .i64 x.2.2.2.2.2]
abbrev X.val (x:bw):J:= .agg ⟨lB x⟩
def cX (p:dc) (b:bw):Prop:=b.1<=p.1/\p.1<b.2.2.2.1/\b.2.1<=p.2.1/\p.2.1<b.2.2.2.2.1/\b.2.2.1<=p.2.2/\p.2.2<b.2.2.2.2.2
instance (p:dc) (b:bw):Decidable (cX p b):=by unfold cX;infer_instance
def okB (b:bw):Prop:= -1048575<=b.1/\b.1<=1048575/\ -1048575<=b.2.1/\b.2.1<=1048575/\ -1048575<=b.2.2.1/\b.2.2.1<=1048575/\ -1048575<=b.2.2.2.1/\b.2.2.2.1<=1048575/\ -1048575<=b.2.2.2.2.1/\b.2.2.2.2.1<=1048575/\ -1048575<=b.2.2.2.2.2/\b.2.2.2.2.2<=1048575
instance (b:bw):Decidable (okB b):=by unfold okB;infer_instance
def ig (b:bw):Prop:=b.1<b.2.2.2.1/\b.2.1<b.2.2.2.2.1/\b.2.2.1<b.2.2.2.2.2
instance (b:bw):Decidable (ig b):=by unfold ig;infer_instance
def bE (b:bw):dc:=if ig b then (b.2.2.2.1-b.1,b.2.2.2.2.1-b.2.1,b.2.2.2.2.2-b.2.2.1) else (0,0,0)
def dv (b:bw):Int:=(bE b).1*(bE b).2.1*(bE b).2.2
def vw (b:bw) (p:dc):Int:=if cX p b then (((p.2.2+((-1)*b.2.2.1))*(bE b).2.1)+(p.2.1+((-1)*b.2.1)))*(bE b).1+(p.1+((-1)*b.1)) else -1
def dH (b:bw) (i:Int):dc:=if 0<=i/\i<dv b then (b.1+i%(bE b).1,b.2.1+i/(bE b).1%(bE b).2.1,b.2.2.1+i/(bE b).1/(bE b).2.1) else (0,0,0)
theorem Jr {a b:Int} {A B:Nat} (h1:0<=a) (ae:a<=A) (ar:0<=b) (bm:b<=B):0<=a*b/\a*b<=((A*B:Nat):Int):=by
 refine⟨Int.mul_nonneg h1 ar,?_⟩;rw[Int.natCast_mul];exact Int.mul_le_mul ae bm ar aj
theorem vy {b:bw} (h:ig b):bE b=(b.2.2.2.1-b.1,b.2.2.2.2.1-b.2.1,b.2.2.2.2.2-b.2.2.1):=aI h
theorem CA {b:bw} (h:¬ig b):bE b=(0,0,0):=aG h
theorem ah3 {p:dc} {b:bw} (h:cX p b):ig b:=by
 unfold cX at h;unfold ig;omega
theorem CB {p:dc} {b:bw} (h:cX p b):b.1<=p.1/\p.1<b.2.2.2.1/\b.2.1<=p.2.1/\p.2.1<b.2.2.2.2.1/\b.2.2.1<=p.2.2/\p.2.2<b.2.2.2.2.2:=h
theorem Js {p:dc} {b:bw} (h:cX p b):vw b p=(((p.2.2+((-1)*b.2.2.1))*(bE b).2.1)+(p.2.1+((-1)*b.2.1)))*(bE b).1+(p.1+((-1)*b.1)):=aI h
theorem AK {p:dc} {b:bw} (h:¬cX p b):vw b p= -1:=aG h
theorem yG {b:bw} (ad:okB b):0<=(bE b).1/\(bE b).1<=2097150/\0<=(bE b).2.1/\(bE b).2.1<=2097150/\0<=(bE b).2.2/\(bE b).2.2<=2097150:=by
 unfold okB at ad;unfold bE;split
 ·rename_i h
  unfold ig at h;dsimp only;omega
 ·dsimp only
  omega
theorem Pg {b:bw} (ad:okB b):0<=(bE b).1*(bE b).2.1/\(bE b).1*(bE b).2.1<=4398038122500/\0<=(bE b).1*(bE b).2.1*(bE b).2.2/\(bE b).1*(bE b).2.1*(bE b).2.2<=9223345648600875000:=by
 obtain⟨h1,ae,ar,bm,cg,cu⟩:=yG ad;obtain⟨mW,yH⟩:=Jr (A:=2097150) (B:=2097150) h1 aj ar aj;obtain⟨m3,m4⟩:=Jr (A:=4398038122500) (B:=2097150) mW aj cg aj;exact⟨mW,aj,m3,aj⟩
theorem Jt {p:dc} {b:bw} (ad:okB b) (h:cX p b):0<=((p.2.2+((-1)*b.2.2.1))*(bE b).2.1)/\((p.2.2+((-1)*b.2.2.1))*(bE b).2.1)<=4398038122500/\0<=(((p.2.2+((-1)*b.2.2.1))*(bE b).2.1)+(p.2.1+((-1)*b.2.1)))*(bE b).1/\(((p.2.2+((-1)*b.2.2.1))*(bE b).2.1)+(p.2.1+((-1)*b.2.1)))*(bE b).1<=9223345648600875000:=by
 obtain⟨h1,ae,ar,bm,cg,cu⟩:=yG ad;have aO:=ah3 h;unfold okB at ad;unfold cX at h;obtain⟨mW,yH⟩:=Jr (a:=p.2.2+((-1)*b.2.2.1)) (b:=(bE b).2.1) (A:=2097149) (B:=2097150) aj aj ar aj;have e_:p.2.1+((-1)*b.2.1)+1<=(bE b).2.1:=by
  rw[vy aO];dsimp only;omega
 obtain⟨m3,m4⟩:=Jr (a:=(((p.2.2+((-1)*b.2.2.1))*(bE b).2.1)+(p.2.1+((-1)*b.2.1)))) (b:=(bE b).1) (A:=4398038122500) (B:=2097150) aj aj h1 aj;exact⟨mW,aj,m3,aj⟩
theorem Wq {b:bw} {i:Int} (aJ:0<=i) (h1:¬((bE b).1*(bE b).2.1)*(bE b).2.2<=i):ig b:=by
 by_cases h:ig b
 ·exact h
 ·rw[CA h] at h1
  simp at h1;omega
theorem ah4 {b:bw} {i:Int} (ad:okB b) (aJ:0<=i) (h1:¬((bE b).1*(bE b).2.1)*(bE b).2.2<=i):
  1<=(bE b).1/\1<=(bE b).2.1/\0<=i/(bE b).1/\i/(bE b).1<=i/\0<=i%(bE b).1/\i%(bE b).1<(bE b).1/\0<=i/(bE b).1%(bE b).2.1/\i/(bE b).1%(bE b).2.1<(bE b).2.1/\0<=i/(bE b).1/(bE b).2.1/\i/(bE b).1/(bE b).2.1<(bE b).2.2/\i<=9223345648600875000:=by
 have aO:=Wq aJ h1;have ax:=Pg ad;have hs:=yG ad;have ah:1<=(bE b).1:=by
  rw[vy aO];unfold ig at aO;dsimp only;omega
 have a_:1<=(bE b).2.1:=by
  rw[vy aO];unfold ig at aO;dsimp only;omega
 have ae:0<=i/(bE b).1:=Int.ediv_nonneg aJ aj;refine⟨ah,a_,ae,Int.ediv_le_self _ aJ,Int.emod_nonneg _ aj,Int.emod_lt_of_pos _ aj,Int.emod_nonneg _ aj,Int.emod_lt_of_pos _ aj,Int.ediv_nonneg ae aj,?_,aj⟩;refine Int.ediv_lt_of_lt_mul aj (Int.ediv_lt_of_lt_mul aj ?_);rw[show (bE b).2.2*(bE b).2.1*(bE b).1=(bE b).1*(bE b).2.1*(bE b).2.2 by rw[Int.mul_comm (bE b).2.2,Int.mul_assoc,Int.mul_comm (bE b).2.2,<-Int.mul_assoc,Int.mul_comm (bE b).2.1]];omega
theorem ah5 {b:bw} {i:Int} (aJ:0<=i) (h1:¬((bE b).1*(bE b).2.1)*(bE b).2.2<=i):dH b i=(b.1+i%(bE b).1,b.2.1+i/(bE b).1%(bE b).2.1,b.2.2.1+i/(bE b).1/(bE b).2.1):=aI ⟨aJ,by unfold dv;omega⟩
theorem Wr {b:bw} {i:Int} (h:¬(0<=i/\i<dv b)):dH b i=(0,0,0):=aG h
end AE
namespace AE
theorem Ws (p q:bq):p4 Tryz.prog 10000 vo (L.val p) (L.val q)=some (p.1==q.1&&(p.2.1==q.2.1&&(p.2.2.1==q.2.2.1&&(p.2.2.2==q.2.2.2&&true)))):=az
theorem Wt (p q:bq):(p.1==q.1&&(p.2.1==q.2.1&&(p.2.2.1==q.2.2.1&&(p.2.2.2==q.2.2.2&&true))))=decide (p=q):=by
 obtain⟨a,b,c,d⟩:=p;obtain⟨aR,b',c',mX⟩:=q;rw[Bool.eq_iff_iff];simp
section
variable [a6]
end
def CC (F:Int) (old x:bq) (eR:Int) (c:Nat):Int:=if 0<bF old c/\0<bF x c/\bF x c=given (bF old c) F c (decide (eR<0)) then bF x c else 0
def yI (F:Int) (old x:bq) (eR:Int):bq:=pq (CC F old x eR)
def AL (l:List au) (n:Nat) (O:bq):List au:=if O=z4 then l else l++[(n,O)]
def w4 (l:List Nat) (n:Nat) (O:bq):List Nat:=if O=z4 then l else l++[n]
def yJ (l:List bq) (n:Nat) (O:bq):List bq:=if O=z4 then l else l.set n (tY O (l.getD n default))
theorem ah6 {l:List au} {g:List Nat} {li:List bq} {n:Nat} {O:bq} (h:O=z4):AL l n O=l/\w4 g n O=g/\yJ li n O=li:=⟨aI h,aI h,aI h⟩
theorem ah7 {l:List au} {g:List Nat} {li:List bq} {n:Nat} {O:bq} (h:¬O=z4):AL l n O=l++[(n,O)]/\w4 g n O=g++[n]/\yJ li n O=li.set n (tY O (li.getD n default)):=⟨aG h,aG h,aG h⟩
theorem ah8 {F eR:Int} {old x:bq} {c:Nat} (h1:0<bF old c) (ae:0<bF x c) (ar:bF x c=given (bF old c) F c (decide (eR<0))):CC F old x eR c=bF x c:=aI ⟨h1,ae,ar⟩
theorem Ph {F eR:Int} {old x:bq} {c:Nat} (h:¬(0<bF old c/\0<bF x c/\bF x c=given (bF old c) F c (decide (eR<0)))):CC F old x eR c=0:=aG h
def Wu (F:Int) (out x:bq) (eR:Int) (c:Nat):Int:=max (bF out c) (given (bF x c) F c (decide (0<eR)))
def AM (F:Int) (out x:bq) (eR:Int):bq:=pq (Wu F out x eR)
end AE
namespace AE
def bV (b:bw) (p:dc):Nat:=(vw b p).toNat
def vz (b:bw) (k j:Nat):List (Nat×Int):=t' (bE b).1.toNat (bE b).2.1.toNat (bE b).2.2.toNat k j
def c5 (b:bw) (sh:List Bool) (k j:Nat):List (Nat×Int):=(vz b k j).filter λp=>sh.getD p.1 default
def eF (b:bw) (k:Nat):Nat->dc
 |0=>((dH b ((k:Nat):Int)).1+(-1),(dH b ((k:Nat):Int)).2.1,(dH b ((k:Nat):Int)).2.2)
 |1=>((dH b ((k:Nat):Int)).1+1,(dH b ((k:Nat):Int)).2.1,(dH b ((k:Nat):Int)).2.2)
 |2=>((dH b ((k:Nat):Int)).1,(dH b ((k:Nat):Int)).2.1+(-1),(dH b ((k:Nat):Int)).2.2)
 |3=>((dH b ((k:Nat):Int)).1,(dH b ((k:Nat):Int)).2.1+1,(dH b ((k:Nat):Int)).2.2)
 |4=>((dH b ((k:Nat):Int)).1,(dH b ((k:Nat):Int)).2.1,(dH b ((k:Nat):Int)).2.2+(-1))
 |_=>((dH b ((k:Nat):Int)).1,(dH b ((k:Nat):Int)).2.1,(dH b ((k:Nat):Int)).2.2+1)
def om:Nat->Int
 |4=> -1
 |5=>1
 |_=>0
theorem Fy {b:bw} {k:Nat} (ag:k<(dv b).toNat):∃bn bH aX:Nat,(bE b)=(((bn:Nat):Int),((bH:Nat):Int),((aX:Nat):Int))/\k<bn*bH*aX/\b.2.2.2.1=b.1+bn/\b.2.2.2.2.1=b.2.1+bH/\b.2.2.2.2.2=b.2.2.1+aX:=by
 by_cases aO:ig b
 ·have hs:=vy aO
  unfold ig at aO;refine⟨(b.2.2.2.1-b.1).toNat,(b.2.2.2.2.1-b.2.1).toNat,(b.2.2.2.2.2-b.2.2.1).toNat,?_,?_,aj,aj,aj⟩
  ·rw[hs,Int.toNat_of_nonneg aj,Int.toNat_of_nonneg aj,Int.toNat_of_nonneg aj]
  ·unfold dv at ag
   rw[hs] at ag;dsimp only at ag;rw[Int.toNat_mul (Int.mul_nonneg aj aj) aj,Int.toNat_mul aj aj] at ag;exact ag
 ·unfold dv at ag
  rw[CA aO] at ag;simp at ag
theorem Pj {b:bw} {k:Nat} {sh:List Bool} (ag:k<sh.length) (hl:sh.length=(dv b).toNat):0<=((k:Nat):Int)/\((k:Nat):Int)<dv b:=by omega
theorem Ju {b:bw} {bn bH aX x y z:Nat} (hs:bE b=(((bn:Nat):Int),((bH:Nat):Int),((aX:Nat):Int))) (h1:b.2.2.2.1=b.1+bn) (ae:b.2.2.2.2.1=b.2.1+bH) (ar:b.2.2.2.2.2=b.2.2.1+aX) (ah:x<bn) (a_:y<bH) (bu:z<aX):
  cX (b.1+x,b.2.1+y,b.2.2.1+z) b/\bV b (b.1+x,b.2.1+y,b.2.2.1+z)=lX bn bH x y z:=by
 have hX:cX (b.1+((x:Nat):Int),b.2.1+((y:Nat):Int),b.2.2.1+((z:Nat):Int)) b:=by
  unfold cX;dsimp only;omega
 refine⟨hX,?_⟩;unfold bV;rw[Js hX,hs];dsimp only;unfold lX;rw[show b.2.2.1+((z:Nat):Int)+ -1*b.2.2.1=((z:Nat):Int) by omega,show b.2.1+((y:Nat):Int)+ -1*b.2.1=((y:Nat):Int) by omega,show b.1+((x:Nat):Int)+ -1*b.1=((x:Nat):Int) by omega];rw[show (((z:Nat):Int)*((bH:Nat):Int)+((y:Nat):Int))*((bn:Nat):Int)+((x:Nat):Int)=(((z*bH+y)*bn+x:Nat):Int) by simp];exact Int.toNat_natCast _
theorem Fz {b:bw} {k:Nat} {sh:List Bool} (ag:k<sh.length) (hl:sh.length=(dv b).toNat) (q:dc):bV b q<sh.length:=by
 by_cases aU:cX q b
 ·obtain⟨bn,bH,aX,hs,vA,h1,ae,ar⟩:=Fy (b:=b) (k:=k) aj
  have h:=CB aU;obtain⟨x,ah⟩:∃x:Nat,q.1=b.1+x:=⟨(q.1-b.1).toNat,aj⟩;obtain⟨y,a_⟩:∃x:Nat,q.2.1=b.2.1+x:=⟨(q.2.1-b.2.1).toNat,aj⟩;obtain⟨z,bu⟩:∃x:Nat,q.2.2=b.2.2.1+x:=⟨(q.2.2-b.2.2.1).toNat,aj⟩;have CD:q=(b.1+((x:Nat):Int),b.2.1+((y:Nat):Int),b.2.2.1+((z:Nat):Int)):=by
   obtain⟨q1,aB,b_⟩:=q;dsimp only at ah a_ bu;rw[ah,a_,bu]
  have af:=(Ju hs h1 ae ar (x:=x) (y:=y) (z:=z) aj aj aj).2;rw[CD,af,hl];have ax:(dv b).toNat=bn*bH*aX:=by
   unfold dv;rw[hs];dsimp only;rw[<-Int.natCast_mul,<-Int.natCast_mul,Int.toNat_natCast]
  rw[ax];exact UY aj aj aj
 ·unfold bV
  rw[AK aU];show 0<_;omega
theorem Pk {b:bw} {k bn bH aX:Nat} (hs:bE b=(((bn:Nat):Int),((bH:Nat):Int),((aX:Nat):Int))) (ag:k<bn*bH*aX):dH b ((k:Nat):Int)=(b.1+((hH bn k:Nat):Int),b.2.1+((hI bn bH k:Nat):Int),b.2.2.1+((gT bn bH k:Nat):Int)):=by
 unfold dH dv;rw[hs];dsimp only;rw[aI ⟨aj,by rw[<-Int.natCast_mul,<-Int.natCast_mul];omega⟩];rfl
theorem CE {b:bw} (ad:okB b) (i:Int): -1048575<=(dH b i).1/\(dH b i).1<=1048575/\ -1048575<=(dH b i).2.1/\(dH b i).2.1<=1048575/\ -1048575<=(dH b i).2.2/\(dH b i).2.2<=1048575:=by
 by_cases h:0<=i/\i<dv b
 ·have ax:¬((bE b).1*(bE b).2.1)*(bE b).2.2<=i:=by
   have:=h.2;unfold dv at this;omega
  have aO:=Wq h.1 ax;have:=ah4 ad h.1 ax;rw[ah5 h.1 ax,vy aO] at*
  unfold okB at ad;dsimp only at*
  omega
 ·rw[Wr h]
  decide
theorem Pl {b:bw} {k:Nat} {sh:List Bool} (ag:k<sh.length) (hl:sh.length=(dv b).toNat) {j:Nat} (hj:j<6):
  (cX (eF b k j) b->vz b k (j+1)=vz b k j++[(bV b (eF b k j),om j)])/\(¬cX (eF b k j) b->vz b k (j+1)=vz b k j):=by
 obtain⟨bn,bH,aX,hs,vA,h1,ae,ar⟩:=Fy (b:=b) (k:=k) aj;obtain⟨cp,c2,c3⟩:=Ap vA;have ha:=Pk hs vA;have u7:vz b k (j+1)=vz b k j++rP bn bH aX k j:=by
  unfold vz;rw[hs];rfl
 rw[u7];have key:∀(d:Int) (x y z:Nat) (uw:Prop),(uw↔(x<bn/\y<bH/\z<aX))->∀q:dc,q=(b.1+((x:Nat):Int),b.2.1+((y:Nat):Int),b.2.2.1+((z:Nat):Int))->∀[Decidable uw],∀l:List (Nat×Int),
   (cX q b->l++(if uw then [(lX bn bH x y z,d)] else [])=l++[(bV b q,d)])/\(¬cX q b->l++(if uw then [(lX bn bH x y z,d)] else [])=l):=by
  intro d x y z uw ai q aU _ l;subst aU;constructor
  ·intro hX
   have h:=CB hX;dsimp only at h;have al:x<bn/\y<bH/\z<aX:=by omega
   rw[aI (ai.2 al),(Ju hs h1 ae ar al.1 al.2.1 al.2.2).2]
  ·intro hX
   rw[aG (λh=>hX (Ju hs h1 ae ar (ai.1 h).1 (ai.1 h).2.1 (ai.1 h).2.2).1),List.append_nil]
 have out:∀q:dc,¬cX q b->∀(uw:Prop) [Decidable uw] (n:Nat) (d:Int),¬uw->∀l:List (Nat×Int),(cX q b->l++(if uw then [(n,d)] else [])=l++[(bV b q,d)])/\(¬cX q b->l++(if uw then [(n,d)] else [])=l):=by
  intro q aU uw _ n d ai l;exact⟨λh=>absurd h aU,λ_=>by rw[aG ai,List.append_nil]⟩
 have Pm:∀q:dc,(q.1<b.1\/q.2.1<b.2.1\/q.2.2<b.2.2.1)->¬cX q b:=λq aU h=>by
  have:=CB h;omega
 match j,hj with
 |0,_=>
  by_cases aJ:0<hH bn k
  ·exact key 0 (hH bn k-1) (hI bn bH k) (gT bn bH k) (0<hH bn k) ⟨λ_=>⟨aj,c2,c3⟩,λ_=>aJ⟩ (eF b k 0) (by
    show ((dH b ((k:Nat):Int)).1+(-1),(dH b ((k:Nat):Int)).2.1,(dH b ((k:Nat):Int)).2.2)=_;rw[ha];dsimp only
    rw[show b.1+((hH bn k:Nat):Int)+ -1=b.1+((hH bn k-1:Nat):Int) by omega]) _
  ·exact out (eF b k 0) (Pm _ (.inl (by
    show (dH b ((k:Nat):Int)).1+(-1)<_;rw[ha];dsimp only
    omega))) (0<hH bn k) _ 0 aJ _
 |1,_=>
  exact key 0 (hH bn k+1) (hI bn bH k) (gT bn bH k) (hH bn k+1<bn) ⟨λh=>⟨h,c2,c3⟩,λh=>h.1⟩ (eF b k 1) (by
    show ((dH b ((k:Nat):Int)).1+1,(dH b ((k:Nat):Int)).2.1,(dH b ((k:Nat):Int)).2.2)=_;rw[ha];dsimp only
    rw[show b.1+((hH bn k:Nat):Int)+1=b.1+((hH bn k+1:Nat):Int) by omega]) _
 |2,_=>
  by_cases aJ:0<hI bn bH k
  ·exact key 0 (hH bn k) (hI bn bH k-1) (gT bn bH k) (0<hI bn bH k) ⟨λ_=>⟨cp,aj,c3⟩,λ_=>aJ⟩ (eF b k 2) (by
    show ((dH b ((k:Nat):Int)).1,(dH b ((k:Nat):Int)).2.1+(-1),(dH b ((k:Nat):Int)).2.2)=_;rw[ha];dsimp only
    rw[show b.2.1+((hI bn bH k:Nat):Int)+ -1=b.2.1+((hI bn bH k-1:Nat):Int) by omega]) _
  ·exact out (eF b k 2) (Pm _ (.inr (.inl (by
    show (dH b ((k:Nat):Int)).2.1+(-1)<_;rw[ha];dsimp only
    omega)))) (0<hI bn bH k) _ 0 aJ _
 |3,_=>
  exact key 0 (hH bn k) (hI bn bH k+1) (gT bn bH k) (hI bn bH k+1<bH) ⟨λh=>⟨cp,h,c3⟩,λh=>h.2.1⟩ (eF b k 3) (by
    show ((dH b ((k:Nat):Int)).1,(dH b ((k:Nat):Int)).2.1+1,(dH b ((k:Nat):Int)).2.2)=_;rw[ha];dsimp only
    rw[show b.2.1+((hI bn bH k:Nat):Int)+1=b.2.1+((hI bn bH k+1:Nat):Int) by omega]) _
 |4,_=>
  by_cases aJ:0<gT bn bH k
  ·exact key (-1) (hH bn k) (hI bn bH k) (gT bn bH k-1) (0<gT bn bH k) ⟨λ_=>⟨cp,c2,aj⟩,λ_=>aJ⟩ (eF b k 4) (by
    show ((dH b ((k:Nat):Int)).1,(dH b ((k:Nat):Int)).2.1,(dH b ((k:Nat):Int)).2.2+(-1))=_;rw[ha];dsimp only
    rw[show b.2.2.1+((gT bn bH k:Nat):Int)+ -1=b.2.2.1+((gT bn bH k-1:Nat):Int) by omega]) _
  ·exact out (eF b k 4) (Pm _ (.inr (.inr (by
    show (dH b ((k:Nat):Int)).2.2+(-1)<_;rw[ha];dsimp only
    omega)))) (0<gT bn bH k) _ (-1) aJ _
 |5,_=>
  exact key 1 (hH bn k) (hI bn bH k) (gT bn bH k+1) (gT bn bH k+1<aX) ⟨λh=>⟨cp,c2,h⟩,λh=>h.2.2⟩ (eF b k 5) (by
    show ((dH b ((k:Nat):Int)).1,(dH b ((k:Nat):Int)).2.1,(dH b ((k:Nat):Int)).2.2+1)=_;rw[ha];dsimp only
    rw[show b.2.2.1+((gT bn bH k:Nat):Int)+1=b.2.2.1+((gT bn bH k+1:Nat):Int) by omega]) _
theorem Pn {b:bw} {k:Nat} {sh:List Bool} (ag:k<sh.length) (hl:sh.length=(dv b).toNat) {j:Nat} (hj:j<6) (h:cX (eF b k j) b) (hs:sh.getD (bV b (eF b k j)) default=true):c5 b sh k (j+1)=c5 b sh k j++[(bV b (eF b k j),om j)]:=by
 unfold c5;rw[(Pl ag hl hj).1 h,List.filter_append,List.filter_cons_of_pos (by exact hs),List.filter_nil]
theorem Po {b:bw} {k:Nat} {sh:List Bool} (ag:k<sh.length) (hl:sh.length=(dv b).toNat) {j:Nat} (hj:j<6) (h:cX (eF b k j) b) (hs:¬sh.getD (bV b (eF b k j)) default=true):c5 b sh k (j+1)=c5 b sh k j:=by
 unfold c5;rw[(Pl ag hl hj).1 h,List.filter_append,List.filter_cons_of_neg (by exact hs),List.filter_nil,List.append_nil]
theorem Pp {b:bw} {k:Nat} {sh:List Bool} (ag:k<sh.length) (hl:sh.length=(dv b).toNat) {j:Nat} (hj:j<6) (h:¬cX (eF b k j) b):c5 b sh k (j+1)=c5 b sh k j:=by
 unfold c5;rw[(Pl ag hl hj).2 h]
def q7 (l:List (Nat×Int)) (s:List Nat×List Bool):List Nat×List Bool:=l.foldl (λs p=>(lA s.1 s.2 p.1,mi s.2 p.1)) s
def nV (table:List cc) (lit:List Int) (old:bq) (s:List au×List Nat×List bq) (p:Nat×Int):List au×List Nat×List bq:=
 (AL s.1 p.1 (yI (dk table (lit.getD p.1 default)).2.2.2.2.1 old (s.2.2.getD p.1 default) p.2),w4 s.2.1 p.1 (yI (dk table (lit.getD p.1 default)).2.2.2.2.1 old (s.2.2.getD p.1 default) p.2),yJ s.2.2 p.1 (yI (dk table (lit.getD p.1 default)).2.2.2.2.1 old (s.2.2.getD p.1 default) p.2))
def lb (table:List cc) (lit:List Int) (old:bq) (l:List (Nat×Int)) (s:List au×List Nat×List bq):List au×List Nat×List bq:=l.foldl (nV table lit old) s
theorem Wv (a:List au) (n:Nat) (O:bq):(AL a n O).length<=a.length+1:=by
 unfold AL;split<;>simp
theorem ah9 (a:List Nat) (n:Nat) (O:bq):(w4 a n O).length<=a.length+1:=by
 unfold w4;split<;>simp
theorem ah' (a:List bq) (n:Nat) (O:bq):(yJ a n O).length=a.length:=by
 unfold yJ;split<;>simp
def q8 (F:Int) (av:List bq) (l:List (Nat×Int)) (out:bq):bq:=l.foldl (λo p=>AM F o (av.getD p.1 default) p.2) out
end AE
namespace AE
def dh (m:cc):Nat->Int
 |0=>m.2.2.2.2.2.1
 |1=>m.2.2.2.2.2.2.1
 |_=>m.2.2.2.2.2.2.2
def CF (m:cc) (top:Prop) [Decidable top]:bq:=(dh m 0,dh m 1,dh m 2,if top then given 15 m.2.2.2.2.1 3 true else 0)
def r0 (b:bw) (k:Nat):Prop:=(dH b ((k:Nat):Int)).2.2=b.2.2.2.2.2-1
instance (b:bw) (k:Nat):Decidable (r0 b k):=by unfold r0;infer_instance
def r1 (table:List cc) (lit:List Int) (av:List bq) (bO:List Bool) (b:bw) (k:Nat):bq:=
 if bO.getD k default=true then q8 (dk table (lit.getD k default)).2.2.2.2.1 av (c5 b bO k 6) (CF (dk table (lit.getD k default)) (r0 b k)) else z4
theorem ah_ {table:List cc} {lit:List Int} {av:List bq} {bO:List Bool} {b:bw} {k:Nat} (h:¬bO.getD k default=true):r1 table lit av bO b k=z4:=aG h
theorem aia {table:List cc} {lit:List Int} {av:List bq} {bO:List Bool} {b:bw} {k:Nat} (h:bO.getD k default=true) (aF:r0 b k):r1 table lit av bO b k=q8 (dk table (lit.getD k default)).2.2.2.2.1 av (c5 b bO k 6) (dh (dk table (lit.getD k default)) 0,dh (dk table (lit.getD k default)) 1,dh (dk table (lit.getD k default)) 2,given 15 (dk table (lit.getD k default)).2.2.2.2.1 3 true):=by
 unfold r1 CF;rw[aI h,aI aF]
theorem aib {table:List cc} {lit:List Int} {av:List bq} {bO:List Bool} {b:bw} {k:Nat} (h:bO.getD k default=true) (aF:¬r0 b k):r1 table lit av bO b k=q8 (dk table (lit.getD k default)).2.2.2.2.1 av (c5 b bO k 6) (dh (dk table (lit.getD k default)) 0,dh (dk table (lit.getD k default)) 1,dh (dk table (lit.getD k default)) 2,0):=by
 unfold r1 CF;rw[aI h,aG aF]
end AE
namespace AE
structure hM where
 av:List bq
 bz:List au
 gone:List Nat
 bp:List Nat
 waits:List Bool
 reqs:List iv
 lit:List Int
 bO:List Bool
def l2 (l:List Nat) (s:List Nat×List Bool):List Nat×List Bool:=l.foldl (λs k=>(lA s.1 s.2 k,mi s.2 k)) s
def kg (i:Nat) (now old:bq):bq:=pq λc=>if c<i then max (bF now c) (bF old c) else bF old c
def ux (i:Nat) (now old:bq):Bool:=(decide (0<i)&&decide (bF old 0<bF now 0))||(decide (1<i)&&decide (bF old 1<bF now 1))||(decide (2<i)&&decide (bF old 2<bF now 2))||(decide (3<i)&&decide (bF old 3<bF now 3))
variable (table:List cc) (b:bw)
def vB (u:hM) (x:au) (r:List au):List au×List Nat×List bq:=lb table u.lit x.2 (c5 b u.bO x.1 6) (r,u.gone,u.av)
def w5 (u:hM) (x:au) (r:List au):hM:=
 if (vB table b u x r).1.length=0 then
  {u with bz:=(vB table b u x r).1,gone:=[],av:=(vB table b u x r).2.2,bp:=(l2 (vB table b u x r).2.1 (u.bp,u.waits)).1,waits:=(l2 (vB table b u x r).2.1 (u.bp,u.waits)).2}
 else {u with bz:=(vB table b u x r).1,gone:=(vB table b u x r).2.1,av:=(vB table b u x r).2.2}
def FA (u:hM) (k:Nat):bq:=r1 table u.lit u.av u.bO b k
def w6 (u:hM) (k:Nat) (r:List Nat):hM:=
 if ux 4 (FA table b u k) (u.av.getD k default)=true then
  {u with av:=u.av.set k (kg 4 (FA table b u k) (u.av.getD k default)),bp:=(q7 (c5 b u.bO k 6) (r,u.waits.set k false)).1,waits:=(q7 (c5 b u.bO k 6) (r,u.waits.set k false)).2}
 else {u with av:=u.av.set k (kg 4 (FA table b u k) (u.av.getD k default)),bp:=r,waits:=u.waits.set k false}
def Jv (u:hM) (x:iv) (r:List iv):hM:=
 {u with bz:=u.bz++[(x.1,u.av.getD x.1 default)],gone:=u.gone++[x.1],av:=u.av.set x.1 (tY (u.av.getD x.1 default) (u.av.getD x.1 default)),lit:=u.lit.set x.1 x.2.1,bO:=u.bO.set x.1 x.2.2,reqs:=r}
def gq (u:hM):Bool×hM:=
 if 0<u.bz.length then (true,w5 table b u (u.bz.getD 0 default) (u.bz.drop 1))
 else if 0<u.bp.length then (true,w6 table b u (u.bp.getD 0 default) (u.bp.drop 1))
 else if 0<u.reqs.length then (true,Jv u (u.reqs.getD 0 default) (u.reqs.drop 1))
 else (false,u)
variable {table b}
theorem FB {u:hM} (h:0<u.bz.length):gq table b u=(true,w5 table b u (u.bz.getD 0 default) (u.bz.drop 1)):=aI h
theorem FC {u:hM} (h:¬0<u.bz.length) (ae:0<u.bp.length):gq table b u=(true,w6 table b u (u.bp.getD 0 default) (u.bp.drop 1)):=(aG h).trans (aI ae)
theorem FD {u:hM} (h:¬0<u.bz.length) (ae:¬0<u.bp.length) (ar:0<u.reqs.length):gq table b u=(true,Jv u (u.reqs.getD 0 default) (u.reqs.drop 1)):=(aG h).trans ((aG ae).trans (aI ar))
theorem FE {u:hM} (h:¬0<u.bz.length) (ae:¬0<u.bp.length) (ar:¬0<u.reqs.length):gq table b u=(false,u):=(aG h).trans ((aG ae).trans (aG ar))
end AE
namespace AE
section
variable {N O:bq} {l iL:List bq} {k:Nat}
theorem aic:kg 0 N O=O:=bq.ext' λc ai=>by
 unfold kg;rw[hG ai,aG (Nat.not_lt_zero c)]
end
section
variable {g Pq:List Nat} {w Jw:List Bool} {l:List Nat} {j:Nat}
theorem aid (s:List Nat×List Bool) (k:Nat):l2 (l++[k]) s=(lA (l2 l s).1 (l2 l s).2 k,mi (l2 l s).2 k):=by
 unfold l2;rw[List.foldl_append];rfl
theorem aie {s:List Nat×List Bool} (aA:Pq=(l2 (l.take j) s).1) (hw:Jw=(l2 (l.take j) s).2) (hj:j<l.length):lA Pq Jw (l.getD j default)=(l2 (l.take (j+1)) s).1/\mi Jw (l.getD j default)=(l2 (l.take (j+1)) s).2:=by
 have:l.take (j+1)=l.take j++[l.getD j default]:=by
  rw[List.take_add_one,c_,fy hj];rfl
 rw[this,aid,<-aA,<-hw];exact⟨rfl,rfl⟩
end
theorem aif {b:bw} {sh:List Bool} {k j:Nat} {p:Nat×Int} (h:p∈c5 b sh k j):p.1<sh.length:=by
 unfold c5 at h;have ae:=(List.mem_filter.1 h).2;rcases Nat.lt_or_ge p.1 sh.length with ar|ar
 ·exact ar
 ·rw[c_,List.getElem?_eq_none ar] at ae
  cases ae
theorem aih (b:bw) (sh:List Bool) (k j:Nat):(c5 b sh k j).length<=j:=by
 unfold c5 vz;exact Nat.le_trans (List.length_filter_le _ _) (NF _ _ _ _ _)
theorem Ww {N:Nat} {table:List cc} {lit:List Int} {old:bq}:∀(l:List (Nat×Int)) (s:List au×List Nat×List bq),(∀p∈l,p.1<N)->(∀k∈s.2.1,k<N)->
  (∀k∈(lb table lit old l s).2.1,k<N)/\(lb table lit old l s).2.1.length<=s.2.1.length+l.length/\(lb table lit old l s).2.2.length=s.2.2.length/\(lb table lit old l s).1.length<=s.1.length+l.length
 |[],s,_,h=>⟨h,bL _,rfl,bL _⟩
 |p::l,s,h1,h=>by
  have ad:∀k∈(nV table lit old s p).2.1,k<N:=by
   intro k ag;unfold nV w4 at ag;simp only at ag;split at ag
   ·exact h k ag
   ·rcases List.mem_append.1 ag with ag|ag
    ·exact h k ag
    ·rw[List.mem_singleton.1 ag];exact h1 p (by simp)
  obtain⟨q1,aB,b_,eB⟩:=Ww l (nV table lit old s p) (λq aU=>h1 q (by simp [aU])) ad;refine⟨q1,?_,?_,?_⟩
  ·have:(nV table lit old s p).2.1.length<=s.2.1.length+1:=by
    unfold nV w4;simp only;split<;>simp
   have e:(lb table lit old (p::l) s)=lb table lit old l (nV table lit old s p):=rfl;rw[e];simp only [List.length_cons];omega
  ·have:(nV table lit old s p).2.2.length=s.2.2.length:=by
    unfold nV yJ;simp only;split<;>simp
   exact b_.trans this
  ·have:(nV table lit old s p).1.length<=s.1.length+1:=Wv _ _ _
   have e:(lb table lit old (p::l) s)=lb table lit old l (nV table lit old s p):=rfl;rw[e];simp only [List.length_cons];omega
theorem aii {b:bw} {sh:List Bool} {k:Nat} {table:List cc} {lit:List Int} {old:bq} {s:List au×List Nat×List bq} (h:∀k∈s.2.1,k<sh.length):
  (∀j,j<(lb table lit old (c5 b sh k 6) s).2.1.length->((lb table lit old (c5 b sh k 6) s).2.1.getD j default)<sh.length)/\(lb table lit old (c5 b sh k 6) s).2.1.length<=s.2.1.length+6:=by
 obtain⟨q1,aB,_⟩:=Ww (N:=sh.length) (table:=table) (lit:=lit) (old:=old) (c5 b sh k 6) s (λp hp=>aif hp) h;have:=aih b sh k 6;refine⟨λj hj=> ?_,aj⟩;rw[c_,fy hj];exact q1 _ (List.getElem_mem hj)
section
variable {table:List cc} {b:bw} {av jz:List bq} {bz cT d:List au} {gone jc:List Nat} {bp Pq:List Nat} {waits Jw:List Bool} {reqs:List iv} {lit:List Int} {bO:List Bool}
end
end AE
namespace AE
def er (b:bw):nm:=afY (bE b).1.toNat (bE b).2.1.toNat (bE b).2.2.toNat
def gf (table:List cc) (lit:List Int) (bO:List Bool):gy:=
 ⟨λk=>(dk table (lit.getD k default)).2.2.2.2.1,λk c=>dh (dk table (lit.getD k default)) c,λk=>bO.getD k default⟩
def gF (u:hM):fg:=⟨u.av,u.bz,u.gone,u.bp,u.waits⟩
theorem CG {b:bw} (ad:okB b):(er b).N=(dv b).toNat:=by
 obtain⟨h1,_,ae,_,ar,_⟩:=yG ad;show (bE b).1.toNat*(bE b).2.1.toNat*(bE b).2.2.toNat=_;unfold dv;have e:(bE b).1*(bE b).2.1*(bE b).2.2=(((bE b).1.toNat*(bE b).2.1.toNat*(bE b).2.2.toNat:Nat):Int):=by
  rw[Int.natCast_mul,Int.natCast_mul,Int.toNat_of_nonneg h1,Int.toNat_of_nonneg ae,Int.toNat_of_nonneg ar]
 rw[e,Int.toNat_natCast]
variable {table:List cc} {b:bw}
theorem aij {k:Nat} (ad:okB b) (ag:k<(er b).N):r0 b k↔(er b).top k=true:=by
 obtain⟨h1,_,ae,_,ar,_⟩:=yG ad;have hs:bE b=((((bE b).1.toNat:Nat):Int),(((bE b).2.1.toNat:Nat):Int),(((bE b).2.2.toNat:Nat):Int)):=by
  rw[Int.toNat_of_nonneg h1,Int.toNat_of_nonneg ae,Int.toNat_of_nonneg ar]
 have h0:k<(bE b).1.toNat*(bE b).2.1.toNat*(bE b).2.2.toNat:=ag;have aO:ig b:=by
  by_cases aO:ig b
  ·exact aO
  ·rw[CA aO] at h0
   simp at h0
 unfold r0;rw[Pk hs h0];show b.2.2.1+((gT (bE b).1.toNat (bE b).2.1.toNat k:Nat):Int)=b.2.2.2.2.2-1↔decide (gT (bE b).1.toNat (bE b).2.1.toNat k+1=(bE b).2.2.toNat)=true;have bm:(bE b).2.2=b.2.2.2.2.2-b.2.2.1:=by rw[vy aO]
 rw[decide_eq_true_eq];omega
theorem Pr {F:Int} {av:List bq} {c:Nat} (ai:c<4):∀(l:List (Nat×Int)) (out:bq),bF (q8 F av l out) c=l.foldl (λa p=>max a (given (cw av p.1 c) F c (decide (0<p.2)))) (bF out c)
 |[],out=>rfl
 |p::l,out=>by
  show bF (q8 F av l (AM F out (av.getD p.1 default) p.2)) c=_;rw[Pr ai l,List.foldl_cons];congr 1;unfold AM;rw[hG ai];rfl
theorem Wx {lit:List Int} {av:List bq} {sh:List Bool} {k c:Nat} (ad:okB b) (ag:k<(er b).N) (ai:c<4):bF (r1 table lit av sh b k) c=rule (er b) (gf table lit sh) (cw av) k c:=by
 unfold r1 rule;show bF (if sh.getD k default=true then _ else _) c=if sh.getD k default=true then _ else _
 split
 ·rw[Pr ai]
  congr 1;unfold CF sN;have aF:=aij ad ag
  match c,ai with
  |0,_=>rfl
  |1,_=>rfl
  |2,_=>rfl
  |3,_=>
   show (if r0 b k then _ else _)=if (3:Nat)=3 then (if (er b).top k=true then _ else _) else _
   rw[aI rfl];by_cases h:r0 b k
   ·rw[aI h,aI (aF.1 h)];rfl
   ·rw[aG h,aG (λe=>h (aF.2 e))]
 ·exact yp c
theorem aik {lit:List Int} {sh:List Bool} {k:Nat} (ad:okB b) (ag:k<(er b).N) (w:fg):r1 table lit w.av sh b k=ot (er b) (gf table lit sh) w k:=bq.ext' λc ai=>by
 rw[Wx ad ag ai];unfold ot;rw[hG ai]
theorem ail (x y:bq):kg 4 x y=rO x y:=by
 unfold kg rO pq;simp
theorem aim (x y:bq):ux 4 x y=yu x y:=by
 unfold ux yu;simp
theorem ain {lit:List Int} {sh:List Bool} {old:bq} {p:Nat×Int} {w:fg}:nV table lit old (w.bz,w.gone,w.av) p=((gA (gf table lit sh) old w p).bz,(gA (gf table lit sh) old w p).gone,(gA (gf table lit sh) old w p).av)/\(gA (gf table lit sh) old w p).bp=w.bp/\(gA (gf table lit sh) old w p).waits=w.waits:=by
 have e:yI (dk table (lit.getD p.1 default)).2.2.2.2.1 old (w.av.getD p.1 default) p.2=oq (gf table lit sh) old (w.av.getD p.1 z4) p:=rfl;unfold nV gA AL w4 yJ;rw[e];split
 ·exact⟨rfl,rfl,rfl⟩
 ·exact⟨rfl,rfl,rfl⟩
theorem Wy {lit:List Int} {sh:List Bool} {old:bq}:∀(l:List (Nat×Int)) (w:fg),lb table lit old l (w.bz,w.gone,w.av)=((l.foldl (gA (gf table lit sh) old) w).bz,(l.foldl (gA (gf table lit sh) old) w).gone,(l.foldl (gA (gf table lit sh) old) w).av)/\(l.foldl (gA (gf table lit sh) old) w).bp=w.bp/\(l.foldl (gA (gf table lit sh) old) w).waits=w.waits
 |[],w=>⟨rfl,rfl,rfl⟩
 |p::l,w=>by
  obtain⟨h1,ae,ar⟩:=ain (table:=table) (lit:=lit) (sh:=sh) (old:=old) (p:=p) (w:=w);obtain⟨g1,g2,g3⟩:=Wy (sh:=sh) l (gA (gf table lit sh) old w p);refine⟨?_,g2.trans ae,g3.trans ar⟩;show lb table lit old l (nV table lit old (w.bz,w.gone,w.av) p)=_;rw[h1,g1];rfl
theorem aio (w:fg) (k:Nat):h3 w k={w with bp:=lA w.bp w.waits k,waits:=mi w.waits k}:=by
 unfold h3 lA mi;show (if w.waits.getD k default=true then _ else _)=_;split<;>rfl
theorem Jx {α:Type} (f:α->Nat):∀(l:List α) (w:fg),l.foldl (λw p=>h3 w (f p)) w={w with bp:=(l.foldl (λs p=>(lA s.1 s.2 (f p),mi s.2 (f p))) (w.bp,w.waits)).1,waits:=(l.foldl (λs p=>(lA s.1 s.2 (f p),mi s.2 (f p))) (w.bp,w.waits)).2}
 |[],w=>rfl
 |p::l,w=>by
  rw[List.foldl_cons,Jx f l,aio];rfl
theorem FF {α:Type} {l:List α} {d:α} (h:l≠[]):l=l.getD 0 d::l.drop 1:=by
 cases l with
 |nil=>exact absurd rfl h
 |cons x r=>rfl
theorem aip {u:hM} (h:u.bz≠[]):qS (er b) (gf table u.lit u.bO) (gF u)=some (gF (w5 table b u (u.bz.getD 0 default) (u.bz.drop 1))):=by
 unfold qS;have e:(gF u).bz=u.bz.getD 0 default::u.bz.drop 1:=FF h;rw[e];obtain⟨h1,ae,ar⟩:=Wy (table:=table) (lit:=u.lit) (sh:=u.bO) (old:=(u.bz.getD 0 default).2) (c5 b u.bO (u.bz.getD 0 default).1 6) {gF u with bz:=u.bz.drop 1};show some (EJ (gS (er b) (gf table u.lit u.bO) (gF u) (u.bz.getD 0 default) (u.bz.drop 1)))=_;refine congrArg some ?_;have hl:vB table b u (u.bz.getD 0 default) (u.bz.drop 1)=((gS (er b) (gf table u.lit u.bO) (gF u) (u.bz.getD 0 default) (u.bz.drop 1)).bz,(gS (er b) (gf table u.lit u.bO) (gF u) (u.bz.getD 0 default) (u.bz.drop 1)).gone,(gS (er b) (gf table u.lit u.bO) (gF u) (u.bz.getD 0 default) (u.bz.drop 1)).av):=h1
 change (gS (er b) (gf table u.lit u.bO) (gF u) (u.bz.getD 0 default) (u.bz.drop 1)).bp=u.bp at ae
 change (gS (er b) (gf table u.lit u.bO) (gF u) (u.bz.getD 0 default) (u.bz.drop 1)).waits=u.waits at ar
 unfold w5 EJ;rw[hl];generalize gS (er b) (gf table u.lit u.bO) (gF u) (u.bz.getD 0 default) (u.bz.drop 1)=X at ae ar ⊢;by_cases bu:X.bz=[]
 ·rw[aI bu,aI (by show X.bz.length=0;rw[bu];rfl)]
  have:=Jx (λk:Nat=>k) X.gone X
  change X.gone.foldl h3 X=_ at this
  rw[this,ae,ar];rfl
 ·rw[aG bu,aG (by show ¬X.bz.length=0;intro e;exact bu (List.length_eq_zero_iff.1 e))]
  show _=(⟨X.av,X.bz,X.gone,u.bp,u.waits⟩:fg);rw[<-ae,<-ar]
theorem aiq {u:hM} (ad:okB b) (h:u.bz=[]) (ae:u.bp≠[]) (ag:u.bp.getD 0 default<(er b).N):qS (er b) (gf table u.lit u.bO) (gF u)=some (gF (w6 table b u (u.bp.getD 0 default) (u.bp.drop 1))):=by
 unfold qS;rw[show (gF u).bz=[] from h,show (gF u).bp=u.bp.getD 0 default::u.bp.drop 1 from FF ae];show some (EK (er b) (gf table u.lit u.bO) (gF u) (u.bp.getD 0 default) (u.bp.drop 1))=_;refine congrArg some ?_;have ak:FA table b u (u.bp.getD 0 default)=ot (er b) (gf table u.lit u.bO) (gF u) (u.bp.getD 0 default):=aik ad ag (gF u);unfold w6 EK;rw[ak,ail,aim];show (if yu _ (u.av.getD (u.bp.getD 0 default) default)=true then _ else _)=gF (if yu _ (u.av.getD (u.bp.getD 0 default) default)=true then _ else _);split
 ·have:=Jx (λp:Nat×Int=>p.1) (kv (er b) (gf table u.lit u.bO) (u.bp.getD 0 default)) {gF u with bp:=u.bp.drop 1,waits:=u.waits.set (u.bp.getD 0 default) false,av:=u.av.set (u.bp.getD 0 default) (rO (ot (er b) (gf table u.lit u.bO) (gF u) (u.bp.getD 0 default)) (u.av.getD (u.bp.getD 0 default) z4))}
  exact this
 ·rfl
theorem Wz {u:hM} (h:u.bz=[]) (ae:u.bp=[]):qS (er b) (gf table u.lit u.bO) (gF u)=none:=by
 unfold qS;rw[show (gF u).bz=[] from h,show (gF u).bp=[] from ae]
end AE
namespace AE
def vC (table:List cc):Prop:=∀c:Int,1<=(dk table c).2.2.2.2.1/\(dk table c).2.2.2.2.1<=16/\∀i,i<3->0<=dh (dk table c) i/\dh (dk table c) i<=15
def AN (l:List au):Prop:=∀x∈l,∀c,c<4->0<=bF x.2 c/\bF x.2 c<=15
def Jy (l:List bq):Prop:=∀k c,k<l.length->c<4->0<=cw l k c/\cw l k c<=15
structure yK (w:fg):Prop where
 gj:AN w.bz
 FG:w.gone.length+kQ nK w.av<=4*w.av.length+1
theorem air {S:gy} {old:bq} {w:fg} {p:Nat×Int} (hp:p.1<w.av.length) (ad:Jy w.av) (hl:AN w.bz):
  AN (gA S old w p).bz/\Jy (gA S old w p).av/\(gA S old w p).av.length=w.av.length/\(gA S old w p).gone.length+w.bz.length=(gA S old w p).bz.length+w.gone.length:=by
 unfold gA;split
 ·exact⟨hl,ad,rfl,Nat.add_comm _ _⟩
 ·refine⟨?_,?_,by simp [ib],by simp [ib];omega⟩
  ·intro x ah c ai
   rcases List.mem_append.1 ah with ah|ah
   ·exact hl x ah c ai
   ·rw[List.mem_singleton.1 ah]
    show 0<=bF (oq S old (w.av.getD p.1 z4) p) c/\_;have:=ad p.1 c hp ai;unfold cw at this;unfold oq;rw[hG ai];split
    ·exact this
    ·omega
  ·intro k c ag ai
   have kH:k<w.av.length:=by simpa [ib] using ag
   rw[Nv hp ai];split
   ·omega
   ·exact ad k c kH ai
theorem WA {S:gy} {old:bq}:∀(l:List (Nat×Int)) (w:fg),(∀p∈l,p.1<w.av.length)->Jy w.av->AN w.bz->
  AN (l.foldl (gA S old) w).bz/\(l.foldl (gA S old) w).gone.length+w.bz.length=(l.foldl (gA S old) w).bz.length+w.gone.length
 |[],w,_,_,hl=>⟨hl,Nat.add_comm _ _⟩
 |p::l,w,hp,ad,hl=>by
  obtain⟨q1,aB,b_,eB⟩:=air (S:=S) (old:=old) (hp p (by simp)) ad hl;obtain⟨cQ,dr⟩:=WA (S:=S) (old:=old) l (gA S old w p) (λq aU=>by rw[b_];exact hp q (by simp [aU])) aB q1;exact⟨cQ,by rw[List.foldl_cons];omega⟩
variable {G:nm}
theorem WB {α:Type} (f:α->Nat) (l:List α) (w:fg):(l.foldl (λw p=>h3 w (f p)) w).av=w.av/\(l.foldl (λw p=>h3 w (f p)) w).bz=w.bz/\(l.foldl (λw p=>h3 w (f p)) w).gone=w.gone:=by
 rw[Jx];exact⟨rfl,rfl,rfl⟩
theorem yK.unit {S:gy} {w w':fg} (h:pv G S w) (f:yK w) (hu:qS G S w=some w'):yK w':=by
 unfold qS at hu;split at hu
 ·rename_i x r ah
  cases hu;have cv:w.bz≠[]:=by rw[ah];simp
  obtain⟨aA,iu,cN,dS,cur,yr,a8⟩:=h.down cv;have qR:x.1<G.N:=a8.lost x (by rw[ah];simp);have bt:∀p∈kv G S x.1,p.1<w.av.length:=λp hp=>by rw[h.len];exact G.qQ _ p.1 p.2 qR (tW.1 hp).1
  obtain⟨iY,jO,_,_⟩:=UR (S:=S) (old:=x.2) (kv G S x.1) {w with bz:=r} bt;have ais:Jy w.av:=λk c ag ai=>h.bound k c (by rw[<-h.len];exact ag) ai
  obtain⟨cQ,dr⟩:=WA (S:=S) (old:=x.2) (kv G S x.1) {w with bz:=r} bt ais λy a_=>f.gj y (by rw[ah];simp [a_])
  change (gS G S w x r).bz.length+kQ nK (gS G S w x r).av<=r.length+kQ nK w.av at iY
  change (gS G S w x r).av.length=w.av.length at jO
  change AN (gS G S w x r).bz at cQ
  change (gS G S w x r).gone.length+r.length=(gS G S w x r).bz.length+w.gone.length at dr
  have aO:=f.FG;unfold EJ;split
  ·rename_i bu
   obtain⟨g1,g2,g3⟩:=WB (λk:Nat=>k) (gS G S w x r).gone (gS G S w x r)
   change ((gS G S w x r).gone.foldl h3 (gS G S w x r)).av=_ at g1
   change ((gS G S w x r).gone.foldl h3 (gS G S w x r)).bz=_ at g2
   refine⟨?_,?_⟩
   ·show AN ((gS G S w x r).gone.foldl h3 (gS G S w x r)).bz
    rw[g2];exact cQ
   ·show ([]:List Nat).length+kQ nK ((gS G S w x r).gone.foldl h3 (gS G S w x r)).av<=4*((gS G S w x r).gone.foldl h3 (gS G S w x r)).av.length+1
    rw[g1];have:=EL (gS G S w x r);simp only [List.length_nil];omega
  ·exact⟨cQ,aj⟩
 ·rename_i ah
  obtain⟨BE,_⟩:=h.up ah;split at hu
  ·rename_i k r aA
   cases hu;have key:∀w':fg,w'.bz=[]->w'.gone=[]->yK w':=λw' h1 ae=>⟨(by rw[h1];exact λx ah=>absurd ah (by simp)),by
    have:=EL w';rw[ae,List.length_nil]
    omega⟩
   unfold EK;simp only;split
   ·obtain⟨_,g2,g3⟩:=WB (λp:Nat×Int=>p.1) (kv G S k) {w with bp:=r,waits:=w.waits.set k false,av:=w.av.set k (rO (ot G S w k) (w.av.getD k z4))}
    exact key _ (g2.trans ah) (g3.trans BE)
   ·exact key _ ah BE
  ·cases hu
theorem yK.zT {S:gy} {w:fg} (h:pv G S w) (h1:w.bz=[]) (ae:w.gone=[]) {k:Nat} (ag:k<G.N):yK (ib w k (w.av.getD k z4)):=by
 refine⟨?_,?_⟩
 ·intro x ah c ai
  unfold ib at ah;simp only [h1,List.nil_append,List.mem_singleton] at ah;rw[ah];exact h.bound k c ag ai
 ·have:=EL (ib w k (w.av.getD k z4))
  have aA:(ib w k (w.av.getD k z4)).gone.length=1:=by
   unfold ib;simp [ae]
  omega
structure fw (table:List cc) (b:bw) (u:hM):Prop where
 yL:vC table
 box:okB b
 len:u.bO.length=(dv b).toNat
 FH:u.lit.length=u.bO.length
 few:u.bO.length<=10000
 work:pv (er b) (gf table u.lit u.bO) (gF u)
 fit:yK (gF u)
 lz:lz (er b).N (gF u)<=pt (er b).N
 reqs:∀x∈u.reqs,x.1<u.bO.length
def gI (b:bw) (u:hM):Nat:=lz (er b).N (gF u)+pt (er b).N*u.reqs.length
variable {table:List cc} {b:bw} {u:hM}
theorem fw.N (h:fw table b u):(er b).N=u.bO.length:=(CG h.box).trans h.len.symm
theorem fw.ok (h:fw table b u):(gf table u.lit u.bO).jR (er b).N:=⟨λk _=>(h.yL _).1,λk c _ ai=>(h.yL _).2.2 c ai⟩
theorem fw.Jz (h:fw table b u):u.av.length=u.bO.length:=h.work.len.trans h.N
theorem fw.ait (h:fw table b u):u.waits.length=u.bO.length:=h.work.wait.len.trans h.N
theorem fw.gj (h:fw table b u):∀x∈u.bz,x.1<u.bO.length/\0<=x.2.1/\x.2.1<=15/\0<=x.2.2.1/\x.2.2.1<=15/\0<=x.2.2.2.1/\x.2.2.2.1<=15/\0<=x.2.2.2.2/\x.2.2.2.2<=15:=λx ah=>by
 have cv:(gF u).bz≠[]:=λe=>by
  have:x∈(gF u).bz:=ah;rw[e] at this;cases this
 obtain⟨_,iu,cN,dS,cur,_,a8⟩:=h.work.down cv;have q:=h.fit.gj x ah;refine⟨by rw[<-h.N];exact a8.lost x ah,?_⟩;exact⟨(q 0 ck).1,(q 0 ck).2,(q 1 ck).1,(q 1 ck).2,(q 2 ck).1,(q 2 ck).2,(q 3 ck).1,(q 3 ck).2⟩
theorem fw.WC (h:fw table b u):∀k∈u.bp,k<u.bO.length:=λk ag=>by rw[<-h.N];exact h.work.wait.lt k ag
theorem fw.go (h:fw table b u):∀k∈u.gone,k<u.bO.length:=λk ag=>by
 by_cases ah:(gF u).bz=[]
 ·have:=(h.work.up ah).1
  have kH:k∈(gF u).gone:=ag;rw[this] at kH;cases kH
 ·obtain⟨_,iu,cN,dS,cur,_,a8⟩:=h.work.down ah
  rw[<-h.N];exact a8.Cb k ag
theorem fw.li (h:fw table b u):∀n,n<u.bO.length->0<=(u.av.getD n default).1/\(u.av.getD n default).1<=15/\0<=(u.av.getD n default).2.1/\(u.av.getD n default).2.1<=15/\0<=(u.av.getD n default).2.2.1/\(u.av.getD n default).2.2.1<=15/\0<=(u.av.getD n default).2.2.2/\(u.av.getD n default).2.2.2<=15:=λn ak=>by
 have q:=λc (ai:c<4)=>h.work.bound n c (by rw[h.N];exact ak) ai
 exact⟨(q 0 ck).1,(q 0 ck).2,(q 1 ck).1,(q 1 ck).2,(q 2 ck).1,(q 2 ck).2,(q 3 ck).1,(q 3 ck).2⟩
theorem fw.b7 (h:fw table b u):∀n,n<u.bO.length->1<=(dk table (u.lit.getD n default)).2.2.2.2.1/\(dk table (u.lit.getD n default)).2.2.2.2.1<=16:=λn _=>⟨(h.yL _).1,(h.yL _).2.1⟩
theorem fw.cp (h:fw table b u):u.bz.length<=50000:=by
 have hp:=h.lz;unfold AE.lz at hp;have h0:=h.N;have aO:=h.few;by_cases ah:(gF u).bz=[]
 ·have:u.bz=[]:=ah
  rw[this];exact Nat.zero_le _
 ·rw[aG ah] at hp
  unfold pt at hp;have:(gF u).bz.length=u.bz.length:=rfl;omega
theorem fw.c2 (h:fw table b u):u.gone.length<=50000:=by
 have h1:=h.fit.FG;have ae:=h.Jz;have aO:=h.few;have e1:(gF u).gone.length=u.gone.length:=rfl;have e2:(gF u).av.length=u.av.length:=rfl;omega
theorem fw.c3 (h:fw table b u):u.bp.length<=50000:=by
 have h1:=h.work.wait.count;have aO:=h.few;have h0:=h.N;have e1:(gF u).bp.length=u.bp.length:=rfl;omega
theorem WD (u:hM) (x:au) (r:List au):(w5 table b u x r).lit=u.lit/\(w5 table b u x r).bO=u.bO/\(w5 table b u x r).reqs=u.reqs:=by
 unfold w5;split<;>exact⟨rfl,rfl,rfl⟩
theorem WE (u:hM) (k:Nat) (r:List Nat):(w6 table b u k r).lit=u.lit/\(w6 table b u k r).bO=u.bO/\(w6 table b u k r).reqs=u.reqs:=by
 unfold w6;split<;>exact⟨rfl,rfl,rfl⟩
theorem fw.step {u':hM} (h:fw table b u) (hu:qS (er b) (gf table u.lit u.bO) (gF u)=some (gF u')) (ag:u'.lit=u.lit/\u'.bO=u.bO/\u'.reqs=u.reqs):fw table b u'/\gI b u'+1<=gI b u:=by
 obtain⟨cB,cW,p5⟩:=ag;obtain⟨w1,w2⟩:=h.work.unit h.ok hu;refine⟨⟨h.yL,h.box,by rw[cW];exact h.len,by rw[cB,cW];exact h.FH,by rw[cW];exact h.few,by rw[cB,cW];exact w1,h.fit.unit h.work hu,by have:=h.lz;omega,by rw[p5,cW];exact h.reqs⟩,?_⟩;unfold gI;rw[p5];omega
theorem fw.unit (h:fw table b u) (h1:(gq table b u).1=true):fw table b (gq table b u).2/\gI b (gq table b u).2+1<=gI b u:=by
 by_cases hl:u.bz=[]
 ·by_cases aA:u.bp=[]
  ·by_cases hr:u.reqs=[]
   ·rw[FE (by rw[hl];simp) (by rw[aA];simp) (by rw[hr];simp)] at h1
    cases h1
   ·have ah:u.reqs=u.reqs.getD 0 default::u.reqs.drop 1:=FF hr
    rw[FD (by rw[hl];simp) (by rw[aA];simp) (List.length_pos_iff.2 hr)];have nL:(u.reqs.getD 0 default).1<u.bO.length:=h.reqs _ (by rw[ah];simp);have ag:(u.reqs.getD 0 default).1<(er b).N:=by rw[h.N];exact nL
    have ak:=Wz (table:=table) (b:=b) hl aA;generalize he:u.reqs.getD 0 default=x at ah nL ag ⊢;have hw:gF (Jv u x (u.reqs.drop 1))=ib (gF u) x.1 ((gF u).av.getD x.1 z4):=rfl;have vV:∀n,n≠x.1->(gf table (u.lit.set x.1 x.2.1) (u.bO.set x.1 x.2.2)).iZ n=(gf table u.lit u.bO).iZ n/\(∀c,(gf table (u.lit.set x.1 x.2.1) (u.bO.set x.1 x.2.2)).emit n c=(gf table u.lit u.bO).emit n c)/\(gf table (u.lit.set x.1 x.2.1) (u.bO.set x.1 x.2.2)).bO n=(gf table u.lit u.bO).bO n:=λn cv=>by
     have e1:(u.lit.set x.1 x.2.1).getD n default=u.lit.getD n default:=by
      rw[Am (by rw[h.FH];exact nL),aG cv]
     have e2:(u.bO.set x.1 x.2.2).getD n default=u.bO.getD n default:=by
      rw[Am nL,aG cv]
     refine⟨?_,λc=> ?_,e2⟩
     ·show (dk table ((u.lit.set x.1 x.2.1).getD n default)).2.2.2.2.1=_
      rw[e1];rfl
     ·show dh (dk table ((u.lit.set x.1 x.2.1).getD n default)) c=_
      rw[e1];rfl
    obtain⟨t1,t2⟩:=h.work.zT h.ok ak ag vV;obtain⟨s1,_,od,_⟩:=h.work.settled h.ok ak;have ai:u.reqs.length=(u.reqs.drop 1).length+1:=by
     rw[List.length_drop];have:=List.length_pos_iff.2 hr;omega
    refine⟨⟨h.yL,h.box,?_,?_,?_,?_,?_,?_,?_⟩,?_⟩
    ·show (u.bO.set x.1 x.2.2).length=_
     rw[List.length_set];exact h.len
    ·show (u.lit.set x.1 x.2.1).length=(u.bO.set x.1 x.2.2).length
     rw[List.length_set,List.length_set];exact h.FH
    ·show (u.bO.set x.1 x.2.2).length<=_
     rw[List.length_set];exact h.few
    ·rw[hw]
     exact t1
    ·rw[hw]
     exact yK.zT h.work s1 od ag
    ·rw[hw]
     omega
    ·intro y a_
     show y.1<(u.bO.set x.1 x.2.2).length;rw[List.length_set];exact h.reqs y (by rw[ah];exact List.mem_cons_of_mem _ a_)
    ·unfold gI
     rw[hw,ai];show _+pt (er b).N*(u.reqs.drop 1).length+1<=_;rw[Nat.mul_add,Nat.mul_one];omega
  ·rw[FC (by rw[hl];simp) (List.length_pos_iff.2 aA)]
   have ah:u.bp=u.bp.getD 0 default::u.bp.drop 1:=FF aA;refine h.step (aiq h.box hl aA ?_) (WE u _ _);rw[h.N];exact h.WC _ (by rw[ah];simp)
 ·rw[FB (List.length_pos_iff.2 hl)]
  exact h.step (aip hl) (WD u _ _)
theorem fw.done (h:fw table b u) (h1:(gq table b u).1=false):(gq table b u).2=u/\u.bz=[]/\u.bp=[]/\u.reqs=[]/\u.gone=[]/\oU (er b) (gf table u.lit u.bO) (cw u.av):=by
 by_cases hl:u.bz=[]
 ·by_cases aA:u.bp=[]
  ·by_cases hr:u.reqs=[]
   ·obtain⟨s1,s2,od,MI⟩:=h.work.settled h.ok (Wz (table:=table) (b:=b) hl aA)
    exact⟨by rw[FE (by rw[hl];simp) (by rw[aA];simp) (by rw[hr];simp)],hl,aA,hr,od,MI⟩
   ·rw[FD (by rw[hl];simp) (by rw[aA];simp) (List.length_pos_iff.2 hr)] at h1
    cases h1
  ·rw[FC (by rw[hl];simp) (List.length_pos_iff.2 aA)] at h1
   cases h1
 ·rw[FB (List.length_pos_iff.2 hl)] at h1
  cases h1
theorem fw.ask {x:iv} (h:fw table b u) (ah:x.1<u.bO.length):fw table b {u with reqs:=u.reqs++[x]}/\gI b {u with reqs:=u.reqs++[x]}=gI b u+pt (er b).N:=by
 refine⟨⟨h.yL,h.box,h.len,h.FH,h.few,h.work,h.fit,h.lz,λy a_=> ?_⟩,?_⟩
 ·rcases List.mem_append.1 a_ with a_|a_
  ·exact h.reqs y a_
  ·rw[List.mem_singleton.1 a_]
   exact ah
 ·unfold gI
  show AE.lz (er b).N (gF u)+pt (er b).N*(u.reqs++[x]).length=_;rw[List.length_append,List.length_singleton,Nat.mul_add,Nat.mul_one];omega
def l3 (table:List cc) (b:bw):Nat->hM->hM
 |0,u=>u
 |n+1,u=>(gq table b (l3 table b n u)).2
end AE
namespace AE
def hy (table:List cc) (b:bw):Nat->hM->Nat×hM
 |0,u=>(0,u)
 |f+1,u=>if (gq table b u).1=true then ((hy table b f (gq table b u).2).1+1,(hy table b f (gq table b u).2).2) else (0,u)
variable {table:List cc} {b:bw}
theorem FI (n:Nat) (u:hM):l3 table b (n+1) u=l3 table b n (gq table b u).2:=by
 induction n with
 |zero=>rfl
 |succ n b9=>exact congrArg (λx=>(gq table b x).2) b9
theorem Ps:∀(d f:Nat) (u:hM),d<=f->(∀m,m<d->(gq table b (l3 table b m u)).1=true)->(d=f\/(gq table b (l3 table b d u)).1=false)->hy table b f u=(d,l3 table b d u)
 |0,0,u,_,_,_=>rfl
 |0,f+1,u,_,_,h=>by
  have h:=h.resolve_left aj
  change (gq table b u).1=false at h
  unfold hy;rw[h];rfl
 |d+1,0,u,h,_,_=>absurd h aj
 |d+1,f+1,u,h,h1,ae=>by
  have aJ:=h1 0 aj
  change (gq table b u).1=true at aJ
  have:=Ps d f (gq table b u).2 aj (λm hm=>by rw[<-FI];exact h1 (m+1) aj) (ae.imp (λe=>by omega) λe=>by rw[<-FI];exact e);unfold hy;rw[aI aJ,this,FI]
theorem fw.many {u:hM} (h:fw table b u):∀d,(∀m,m<d->(gq table b (l3 table b m u)).1=true)->fw table b (l3 table b d u)/\d+gI b (l3 table b d u)<=gI b u
 |0,_=>⟨h,by simp [l3]⟩
 |d+1,h1=>by
  obtain⟨q1,aB⟩:=fw.many h d λm hm=>h1 m aj
  obtain⟨cQ,dr⟩:=q1.unit (h1 d aj);refine⟨cQ,?_⟩;show d+1+gI b (gq table b (l3 table b d u)).2<=_;omega
theorem JA:∀(f:Nat) (u:hM),(hy table b f u).1<=f/\(hy table b f u).2=l3 table b (hy table b f u).1 u/\(∀m,m<(hy table b f u).1->(gq table b (l3 table b m u)).1=true)/\((hy table b f u).1=f\/(gq table b (hy table b f u).2).1=false)
 |0,u=>⟨bL _,rfl,λm hm=>absurd hm (Nat.not_lt_zero m),.inl rfl⟩
 |f+1,u=>by
  obtain⟨h1,ae,ar,bm⟩:=JA f (gq table b u).2;unfold hy;split
  ·rename_i h
   refine⟨by simp only;omega,by rw[FI];exact ae,λm hm=> ?_,?_⟩
   ·cases m with
    |zero=>exact h
    |succ m=>
     rw[FI];exact ar m (by simp only at hm;omega)
   ·exact bm.imp (λe=>by simp only;omega) λe=>e
  ·rename_i h
   exact⟨Nat.zero_le _,rfl,λm hm=>absurd hm (Nat.not_lt_zero m),.inr (by simpa using h)⟩
theorem fw.settle {u:hM} (h:fw table b u):fw table b (hy table b (gI b u) u).2/\(gq table b (hy table b (gI b u) u).2).1=false/\(hy table b (gI b u) u).1+gI b (hy table b (gI b u) u).2<=gI b u:=by
 obtain⟨h1,ae,ar,bm⟩:=JA (table:=table) (b:=b) (gI b u) u;obtain⟨q1,aB⟩:=h.many _ ar;rw[<-ae] at q1 aB;refine⟨q1,?_,aB⟩;rcases bm with bm|bm
 ·cases hu:(gq table b (hy table b (gI b u) u).2).1 with
  |false=>rfl
  |true=>
   have:=(q1.unit hu).2;omega
 ·exact bm
theorem fw.run {u:hM} (h:fw table b u) (f:Nat):fw table b (hy table b f u).2/\(hy table b f u).1+gI b (hy table b f u).2<=gI b u:=by
 obtain⟨h1,ae,ar,bm⟩:=JA (table:=table) (b:=b) f u;obtain⟨q1,aB⟩:=h.many _ ar;rw[<-ae] at q1 aB;exact⟨q1,aB⟩
theorem fw.WG {u:hM} (h:fw table b u) (hr:u.reqs.length<=10000):gI b u<=1000000000000:=by
 have h1:=h.lz;have ae:(er b).N<=10000:=by rw[h.N];exact h.few
 have ar:pt (er b).N<=3650002:=by unfold pt;omega
 have bm:pt (er b).N*u.reqs.length<=3650002*10000:=Nat.mul_le_mul ar hr;unfold gI;omega
theorem aiu {im sE:hM} {d:Nat} (h:sE=l3 table b d im) (hm:∀m,m<d->(gq table b (l3 table b m im)).1=true) (aF:(gq table b sE).1=true):
  (gq table b sE).2=l3 table b (d+1) im/\∀m,m<d+1->(gq table b (l3 table b m im)).1=true:=by
 subst h;refine⟨rfl,λm CH=> ?_⟩;rcases Nat.lt_succ_iff_lt_or_eq.1 CH with h|rfl
 ·exact hm m h
 ·exact aF
end AE
section
noncomputable section
namespace AE
abbrev bc:aQ:=Tryz.prog
theorem WH:sV bc tQ 1 8=true:=az
theorem aiv:sV bc mg 1 1=true:=az
theorem aiw:sV bc vo 4 32=true:=az
theorem aix:sV bc oR 8 56=true:=az
theorem aiy:sV bc Ce 3 24=true:=az
theorem aiz:sV bc Cf 5 40=true:=az
abbrev di:gE bc:=vt (α:=Int) default tQ 1 8 hv WH
abbrev sZ:gE bc:=vt (α:=Nat) default rQ 1 8 oW WH
abbrev c9:gE bc:=vt (α:=Bool) default mg 1 1 hx aiv
abbrev ez:gE bc:=vt (α:=bq) default vo 4 32 ch aiw
abbrev gg:gE bc:=vt (α:=cc) default oR 8 56 gm aix
abbrev vD:gE bc:=vt (α:=iv) default Ce 3 24 wK aiy
abbrev oS:gE bc:=vt (α:=au) default Cf 5 40 kx aiz
abbrev qi:=Option Addr×Nat×Nat
structure dM where
 q:cE
 o:cE
 g:cE
 s:cE
 w:qi
 l:qi
 i:qi
 t:qi
 h:qi
 c:qi
 k:qi
structure bJ where
 u:hM
 b:bw
 table:List cc
 cells:List Int
 known:List Bool
 most:Int
@[reducible] def yM (a:cE) (n:Nat):J:= .slice a.1 n a.2
@[reducible] def du (a:qi):J:= .slice a.1 a.2.1 a.2.2
@[reducible] def aiA (A:dM) (e:bJ):List J:=[I e.b.1,I e.b.2.1,I e.b.2.2.1,I e.b.2.2.2.1,I e.b.2.2.2.2.1,I e.b.2.2.2.2.2,du A.c,I e.b.1,I e.b.2.1,I e.b.2.2.1,I e.b.2.2.2.1,I e.b.2.2.2.2.1,I e.b.2.2.2.2.2,du A.i,du A.k,du A.h,du A.t,du A.l,I e.most,yM A.q e.u.reqs.length,yM A.o e.u.bz.length,yM A.g e.u.gone.length,yM A.s e.u.bp.length,du A.w]
@[reducible] def bI (g:Nat) (A:dM) (e:bJ):List (aw bc):=
  [.kO vD (yM A.q e.u.reqs.length) e.u.reqs,.kO oS (yM A.o e.u.bz.length) e.u.bz,.arr sZ (yM A.g e.u.gone.length) e.u.gone,.kO sZ (yM A.s e.u.bp.length) e.u.bp,.arr c9 (du A.w) e.u.waits,.arr ez (du A.l) e.u.av,.arr di (du A.i) e.u.lit,.arr gg (du A.t) e.table,.arr c9 (du A.h) e.u.bO,.arr di (du A.c) e.cells,.arr c9 (du A.k) e.known,.box g IQ (aiA A e)]
def fl (g:Nat) (A:dM) (e:bJ):b4:=ua (bD (bI g A e))
abbrev bK (g:Nat):J:= .pointer (some ⟨g,0,none⟩)
theorem bY.AO {M:Mem} {g:Nat} {A:dM} {e:bJ} (h:bY M [fl g A e]):bY M (bD (bI g A e)):=h.af_
instance:Inhabited dM:=⟨⟨(none,0),(none,0),(none,0),(none,0),(none,0,0),(none,0,0),(none,0,0),(none,0,0),(none,0,0),(none,0,0),(none,0,0)⟩⟩
instance:Inhabited bJ:=⟨⟨⟨[],[],[],[],[],[],[],[]⟩,(0,0,0,0,0,0),[],[],[],0⟩⟩
abbrev Pt:List Nat:=[0,1,2,3,4,5,6,7,8,9,10,11]
end AE
end
end
section
noncomputable section
namespace AE
theorem vE {n m:Nat} (h:n+m<=1000000):n+m<=maxLen:=Nat.le_trans h ck
namespace WI
def t:a7:=
.o (.dp 0) 2 1 []<|
.o (.b7 74 2 0) 3 1 [0,26,1]<|
.o (.bf 26 3) 4 1 [1]<|
.qX 26 4 1<|
.o (.dp 0) 6 1 []<|
.o (.b7 74 6 0) 7 1 [0,26,1]<|
.st 26 7 5<|
.ret (.tuple ⟨[]⟩)
theorem bB:cZ Tryz.prog 59 {} [0,1] 2=some t:=dg az
theorem any {W:ao} {g:Nat} {A:dM} {e:bJ} {vx:J} {lx:List Nat} (aH:bY (aE W) (bD (bI g A e++[.red sZ vx lx]))) (hl:e.u.bp.length+lx.length<=1000000) (ah:lr vx=vx:=by rfl):
  ey bc 59 [.pointer (some ⟨g,22,none⟩),vx] W (bI g A e++[.red sZ vx lx]) cE (λ_=> .tuple #[]) λy=>bI g {A with s:=y} {e with u:={e.u with bp:=e.u.bp++lx}}++[.red sZ vx lx]:=by
 refine g_ (ro:=[]) mixed bB [.pointer (some ⟨g,22,none⟩),vx] aH dR.none ?_ (ho:=⟨rfl,ah,trivial⟩);unfold t;refine aN ?_;refine O7 U U (λa c=>fK) (.red has) (λa c=> ?_) (vE hl) (by show _*8<=_;omega);refine aN ?_;exact bx ⟨(a,c),rfl,rfl⟩
end WI
namespace WJ
def t:a7:=
.o (.dp 0) 1 1 []<|
.o (.b7 74 1 0) 2 1 [0,26,1]<|
.o (.bf 26 2) 3 1 [1]<|
.o (.cm 26 3 (I 0)) 4 1 [0,3,1]<|
.o (.bf 3 4) 5 1 [1]<|
.o (.k3 26 3 (some (I 1)) none none) 6 1 [0,3,1]<|
.st 26 2 6<|
.ret 5
theorem bB:cZ Tryz.prog 72 {} [0] 1=some t:=dg az
theorem any {W:ao} {g:Nat} {A:dM} {e:bJ} (aH:bY (aE W) (bD (bI g A e))) (hl:0<e.u.bp.length):
  ey bc 72 [.pointer (some ⟨g,22,none⟩)] W (bI g A e) cE (λ_=>I ((e.u.bp.getD 0 default:Nat):Int)) λy=>bI g {A with s:=y} {e with u:={e.u with bp:=e.u.bp.drop 1}}:=by
 refine g_ (ro:=[]) mixed bB [.pointer (some ⟨g,22,none⟩)] aH dR.none ?_;unfold t;refine aN ?_;refine O9 (m':=(e.u.bp.drop 1).length) (j:=1) (by simp) U U ?_;refine pD U U fK pC ?_;exact la (λM h=>Pa 3 (K:=sZ) (a:=A.s.1) (m:=e.u.bp.length) (c:=A.s.2) (j:=1) (l:=e.u.bp) (m':=(e.u.bp.drop 1).length) fK rfl (by simp) aj h) ⟨(ke A.s.1 A.s.2 1 sZ.k,A.s.2-1),rfl,rfl⟩
end WJ
namespace WK
def t:a7:=
.o (.dp 0) 2 1 []<|
.o (.b7 72 2 0) 3 1 [0,70,1]<|
.o (.bf 70 3) 4 1 [1]<|
.qX 70 4 1<|
.o (.dp 0) 6 1 []<|
.o (.b7 72 6 0) 7 1 [0,70,1]<|
.st 70 7 5<|
.ret (.tuple ⟨[]⟩)
theorem bB:cZ Tryz.prog 107 {} [0,1] 2=some t:=dg az
theorem any {W:ao} {g:Nat} {A:dM} {e:bJ} {vx:J} {lx:List au} (aH:bY (aE W) (bD (bI g A e++[.red oS vx lx]))) (hl:e.u.bz.length+lx.length<=1000000) (ah:lr vx=vx:=by rfl):
  ey bc 107 [.pointer (some ⟨g,20,none⟩),vx] W (bI g A e++[.red oS vx lx]) cE (λ_=> .tuple #[]) λy=>bI g {A with o:=y} {e with u:={e.u with bz:=e.u.bz++lx}}++[.red oS vx lx]:=by
 refine g_ (ro:=[]) mixed bB [.pointer (some ⟨g,20,none⟩),vx] aH dR.none ?_ (ho:=⟨rfl,ah,trivial⟩);unfold t;refine aN ?_;refine O7 U U (λa c=>fK) (.red has) (λa c=> ?_) (vE hl) (by show _*40<=_;omega);refine aN ?_;exact bx ⟨(a,c),rfl,rfl⟩
end WK
namespace WL
def t:a7:=
.o (.dp 0) 1 1 []<|
.o (.b7 72 1 0) 2 1 [0,70,1]<|
.o (.bf 70 2) 3 1 [1]<|
.o (.cm 70 3 (I 0)) 4 1 [0,87,5]<|
.o (.bf 87 4) (.agg ⟨fC 5 5⟩) 5 [5]<|
.o (.k3 70 3 (some (I 1)) none none) 10 1 [0,87,5]<|
.st 70 2 10<|
.ret (.agg ⟨[5,6,7,8,9]⟩)
theorem bB:cZ Tryz.prog 66 {} [0] 1=some t:=dg az
theorem any {W:ao} {g:Nat} {A:dM} {e:bJ} (aH:bY (aE W) (bD (bI g A e))) (hl:0<e.u.bz.length):
  ey bc 66 [.pointer (some ⟨g,20,none⟩)] W (bI g A e) cE (λ_=> .agg ⟨kx (e.u.bz.getD 0 default)⟩) λy=>bI g {A with o:=y} {e with u:={e.u with bz:=e.u.bz.drop 1}}:=by
 refine g_ (ro:=[]) mixed bB [.pointer (some ⟨g,20,none⟩)] aH dR.none ?_;unfold t;refine aN ?_;refine nt (K:=oS) (l:=e.u.bz) (j:=0) (c:=kx (e.u.bz.getD 0 default)) U U U fL ?_;refine O9 (m':=(e.u.bz.drop 1).length) (j:=1) (by simp) U U ?_;refine pD U U fK pC ?_;exact la (λM h=>Pa 1 (K:=oS) (a:=A.o.1) (m:=e.u.bz.length) (c:=A.o.2) (j:=1) (l:=e.u.bz) (m':=(e.u.bz.drop 1).length) fK rfl (by simp) aj h) ⟨(ke A.o.1 A.o.2 1 oS.k,A.o.2-1),rfl,rfl⟩
end WL
namespace WM
def t:a7:=
.o (.dp 0) 2 1 []<|
.o (.b7 69 2 0) 3 1 [0,67,1]<|
.o (.bf 67 3) 4 1 [1]<|
.qX 67 4 1<|
.o (.dp 0) 6 1 []<|
.o (.b7 69 6 0) 7 1 [0,67,1]<|
.st 67 7 5<|
.ret (.tuple ⟨[]⟩)
theorem bB:cZ Tryz.prog 84 {} [0,1] 2=some t:=dg az
theorem any {W:ao} {g:Nat} {A:dM} {e:bJ} {vx:J} {lx:List iv} (aH:bY (aE W) (bD (bI g A e++[.red vD vx lx]))) (hl:e.u.reqs.length+lx.length<=1000000) (ah:lr vx=vx:=by rfl):
  ey bc 84 [.pointer (some ⟨g,19,none⟩),vx] W (bI g A e++[.red vD vx lx]) cE (λ_=> .tuple #[]) λy=>bI g {A with q:=y} {e with u:={e.u with reqs:=e.u.reqs++lx}}++[.red vD vx lx]:=by
 refine g_ (ro:=[]) mixed bB [.pointer (some ⟨g,19,none⟩),vx] aH dR.none ?_ (ho:=⟨rfl,ah,trivial⟩);unfold t;refine aN ?_;refine O7 U U (λa c=>fK) (.red has) (λa c=> ?_) (vE hl) (by show _*24<=_;omega);refine aN ?_;exact bx ⟨(a,c),rfl,rfl⟩
end WM
namespace WN
def t:a7:=
.o (.dp 0) 1 1 []<|
.o (.b7 69 1 0) 2 1 [0,67,1]<|
.o (.bf 67 2) 3 1 [1]<|
.o (.cm 67 3 (I 0)) 4 1 [0,89,3]<|
.o (.bf 89 4) (.agg ⟨fC 3 5⟩) 3 [3]<|
.o (.k3 67 3 (some (I 1)) none none) 8 1 [0,89,3]<|
.st 67 2 8<|
.ret (.agg ⟨[5,6,7]⟩)
theorem bB:cZ Tryz.prog 75 {} [0] 1=some t:=dg az
theorem any {W:ao} {g:Nat} {A:dM} {e:bJ} (aH:bY (aE W) (bD (bI g A e))) (hl:0<e.u.reqs.length):
  ey bc 75 [.pointer (some ⟨g,19,none⟩)] W (bI g A e) cE (λ_=> .agg ⟨wK (e.u.reqs.getD 0 default)⟩) λy=>bI g {A with q:=y} {e with u:={e.u with reqs:=e.u.reqs.drop 1}}:=by
 refine g_ (ro:=[]) mixed bB [.pointer (some ⟨g,19,none⟩)] aH dR.none ?_;unfold t;refine aN ?_;refine nt (K:=vD) (l:=e.u.reqs) (j:=0) (c:=wK (e.u.reqs.getD 0 default)) U U U fL ?_;refine O9 (m':=(e.u.reqs.drop 1).length) (j:=1) (by simp) U U ?_;refine pD U U fK pC ?_;exact la (λM h=>Pa 0 (K:=vD) (a:=A.q.1) (m:=e.u.reqs.length) (c:=A.q.2) (j:=1) (l:=e.u.reqs) (m':=(e.u.reqs.drop 1).length) fK rfl (by simp) aj h) ⟨(ke A.q.1 A.q.2 1 vD.k,A.q.2-1),rfl,rfl⟩
end WN
end AE
end
end
section
noncomputable section
namespace AE
theorem eG {p:Prop} [Decidable p] (h:¬p):Value.bool false= .bool (decide p):=by rw[fD h]
theorem WO {p:Prop} [Decidable p] (h:¬p):Value.bool true= .bool (!decide p):=by rw[fD h];rfl
theorem aiB {p q:Prop} [Decidable p] [Decidable q] (h:q↔¬p):Value.bool (decide q)= .bool (!decide p):=by rw[<-decide_not,decide_eq_decide.2 h]
theorem FJ {p q:Prop} [Decidable p] [Decidable q] (h:q↔p):Value.bool (decide q)= .bool (decide p):=by rw[decide_eq_decide.2 h]
theorem aiC {a b c aR b' c':Int} (h1:a=aR) (ae:b=b') (ar:c=c'):Value.agg ⟨[I a,I b,I c]⟩=P.val (aR,b',c'):=by rw[h1,ae,ar];rfl
namespace JB
def t:a7:=
.bb 3 (
 .o (.bin .eql 3 2 (I 3)) 4 1 []<|
 .bb 4 (
  .o (.bin .eql 3 0 (I 15)) 5 1 []<|
  .bb 5 (
   .o (.bin .eql 3 1 (I 1)) 6 1 []<|
   .bb 6 (
    .ret (I 15)) (
    .o (.bin .sub 3 0 1) 7 1 []<|
    .o (.dT #[3,3] 3 (I 0) 7) 8 1 []<|
    .ret 8)) (
   .o (.bin .sub 3 0 1) 6 1 []<|
   .o (.dT #[3,3] 3 (I 0) 6) 7 1 []<|
   .ret 7)) (
  .o (.bin .sub 3 0 1) 5 1 []<|
  .o (.dT #[3,3] 3 (I 0) 5) 6 1 []<|
  .ret 6)) (
 .o (.bin .sub 3 0 1) 4 1 []<|
 .o (.dT #[3,3] 3 (I 0) 4) 5 1 []<|
 .ret 5)
theorem bB:cZ Tryz.prog 70 {} [0,1,2,3] 4=some t:=dg az
theorem any (W:ao) (v f:Int) (c:Nat) (up:Bool) (x9: -1000<=v) (zU:v<=1000) (amO: -1000<=f) (SL:f<=1000):Calls Tryz.prog 70 #[I v,I f,I ((c:Nat):Int),.bool up] W λe w'=>e= .returned (I (given v f c up))/\cA W.heap.size W w':=by
 refine fV (ro:=[]) mixed bB [I v,I f,I (c:Nat),.bool up] (.nil _) ?_;unfold t;have no:¬(up=true/\c=3/\v=15/\f=1)->I (max 0 (v-f))=I (given v f c up):=λh=>by
  unfold given;rw[aG h]
 refine um rfl (λaJ=> ?_) λaJ=> ?_
 ·refine aN ?_
  refine bR rfl (λh1=> ?_) λh1=> ?_
  ·refine aN ?_
   refine bR rfl (λae=> ?_) λae=> ?_
   ·refine aN ?_
    refine bR rfl (λar=>bx ?_) λar=> ?_
    ·unfold given
     rw[aI ⟨aJ,aj,ae,ar⟩];rfl
    ·refine aN ?_
     exact bx (no λq=>ar q.2.2.2)
   ·refine aN ?_
    exact bx (no λq=>ae q.2.2.1)
  ·refine aN ?_
   exact bx (no λq=>h1 (by have:=q.2.1;omega))
 ·refine aN ?_
  exact bx (no λq=>by rw[aJ] at q;cases q.1)
end JB
namespace Pu
def t:a7:=
.o (.bin .geq 3 0 3) 9 1 []<|
.bb 9 (
 .o (.bin .lss 3 0 6) 10 1 []<|
 .bb 10 (
  .o (.bin .geq 3 1 4) 11 1 []<|
  .bb 11 (
   .o (.bin .lss 3 1 7) 12 1 []<|
   .bb 12 (
    .o (.bin .geq 3 2 5) 13 1 []<|
    .bb 13 (
     .o (.bin .lss 3 2 8) 14 1 []<|
     .ret 14) (
     .ret (.bool false))) (
    .ret (.bool false))) (
   .ret (.bool false))) (
  .ret (.bool false))) (
 .ret (.bool false))
theorem bB:cZ Tryz.prog 94 {} [.agg ⟨[0,1,2]⟩,.agg ⟨[3,4,5,6,7,8]⟩] 9=some t:=dg az
theorem any (W:ao) (p:dc) (b:bw):Calls Tryz.prog 94 #[P.val p,X.val b] W λe w'=>e= .returned (.bool (decide (cX p b)))/\cA W.heap.size W w':=by
 refine fV (ro:=[]) mixed bB [I p.1,I p.2.1,I p.2.2,I b.1,I b.2.1,I b.2.2.1,I b.2.2.2.1,I b.2.2.2.2.1,I b.2.2.2.2.2] (.nil _) ?_;unfold t;refine aN ?_;refine bR rfl (λ_=> ?_) λ_=> ?_
 ·refine aN ?_
  refine bR rfl (λ_=> ?_) λ_=> ?_
  ·refine aN ?_
   refine bR rfl (λ_=> ?_) λ_=> ?_
   ·refine aN ?_
    refine bR rfl (λ_=> ?_) λ_=> ?_
    ·refine aN ?_
     refine bR rfl (λ_=> ?_) λ_=> ?_
     ·refine aN ?_
      exact bx (FJ (by unfold cX;omega))
     ·exact bx (eG (by unfold cX;omega))
    ·exact bx (eG (by unfold cX;omega))
   ·exact bx (eG (by unfold cX;omega))
  ·exact bx (eG (by unfold cX;omega))
 ·exact bx (eG (by unfold cX;omega))
end Pu
namespace Pv
def t:a7:=
.c 94 [.agg ⟨[0,1,2]⟩,.agg ⟨[0,1,2,3,4,5]⟩] 6 1<|
.o (.un .not 6) 7 1 []<|
.ret 7
theorem bB:cZ Tryz.prog 87 {} [.agg ⟨[0,1,2,3,4,5]⟩] 6=some t:=dg az
theorem any (W:ao) (b:bw):Calls Tryz.prog 87 #[X.val b] W λe w'=>e= .returned (.bool (decide (¬ig b)))/\cA W.heap.size W w':=by
 refine fV (ro:=[]) mixed bB [I b.1,I b.2.1,I b.2.2.1,I b.2.2.2.1,I b.2.2.2.2.1,I b.2.2.2.2.2] (.nil _) ?_;unfold t;refine ew (v:= .bool (decide (ig b))) (λw _=>by
  have:=Pu.any w (b.1,b.2.1,b.2.2.1) b;rw[decide_eq_decide.2 (show cX (b.1,b.2.1,b.2.2.1) b↔ig b by unfold cX ig;dsimp only;omega)] at this
  exact this) ?_
 refine ox rfl ?_;exact bx (by rw[decide_not];rfl)
end Pv
def s0 (p:dc):Prop:= -2097152<=p.1/\p.1<=2097152/\ -2097152<=p.2.1/\p.2.1<=2097152/\ -2097152<=p.2.2/\p.2.2<=2097152
namespace Pw
def t:a7:=
.o (.bin .add 3 0 3) 6 1 []<|
.o (.bin .add 3 1 4) 7 1 []<|
.o (.bin .add 3 2 5) 8 1 []<|
.ret (.agg ⟨[6,7,8]⟩)
theorem bB:cZ Tryz.prog 119 {} [.agg ⟨[0,1,2]⟩,.agg ⟨[3,4,5]⟩] 6=some t:=dg az
theorem any {W:ao} {p q:dc} (hp:s0 p) (aU: -9223372036850000000<=q.1/\q.1<=9223372036850000000/\ -9223372036850000000<=q.2.1/\q.2.1<=9223372036850000000/\ -9223372036850000000<=q.2.2/\q.2.2<=9223372036850000000):hK bc 119 [P.val p,P.val q] W (P.val (p.1+q.1,p.2.1+q.2.1,p.2.2+q.2.2)):=by
 refine fV (ro:=[]) mixed bB [I p.1,I p.2.1,I p.2.2,I q.1,I q.2.1,I q.2.2] (.nil _) ?_;unfold t;unfold s0 at hp;refine aN ?_;exact bx rfl
end Pw
namespace WQ
def t:a7:=
.o (.bin .mul 3 3 0) 4 1 []<|
.o (.bin .mul 3 3 1) 5 1 []<|
.o (.bin .mul 3 3 2) 6 1 []<|
.ret (.agg ⟨[4,5,6]⟩)
theorem bB:cZ Tryz.prog 120 {} [.agg ⟨[0,1,2]⟩,3] 4=some t:=dg az
theorem any {W:ao} {p:dc} (hp:s0 p):hK bc 120 [P.val p,I (-1)] W (P.val ((-1)*p.1,(-1)*p.2.1,(-1)*p.2.2)):=by
 refine fV (ro:=[]) mixed bB [I p.1,I p.2.1,I p.2.2,I (-1)] (.nil _) ?_;unfold t;unfold s0 at hp;refine aN ?_;exact bx (by first|rfl|(rw[Int.mul_comm p.1,Int.mul_comm p.2.1,Int.mul_comm p.2.2];rfl))
end WQ
namespace Px
def t:a7:=
.c 120 [.agg ⟨[3,4,5]⟩,I (-1)] (.agg ⟨[6,7,8]⟩) 3<|
.c 119 [.agg ⟨[0,1,2]⟩,.agg ⟨[6,7,8]⟩] (.agg ⟨[9,10,11]⟩) 3<|
.ret (.agg ⟨[9,10,11]⟩)
theorem bB:cZ Tryz.prog 96 {} [.agg ⟨[0,1,2]⟩,.agg ⟨[3,4,5]⟩] 6=some t:=dg az
theorem any {W:ao} {p q:dc} (hp:s0 p) (aU:s0 q):hK bc 96 [P.val p,P.val q] W (P.val (p.1+(-1)*q.1,p.2.1+(-1)*q.2.1,p.2.2+(-1)*q.2.2)):=by
 refine fV (ro:=[]) mixed bB [I p.1,I p.2.1,I p.2.2,I q.1,I q.2.1,I q.2.2] (.nil _) ?_;unfold t;refine jV [I ((-1)*q.1),I ((-1)*q.2.1),I ((-1)*q.2.2)] (λw _=>WQ.any (p:=q) aU) rfl ?_;refine jV [I (p.1+(-1)*q.1),I (p.2.1+(-1)*q.2.1),I (p.2.2+(-1)*q.2.2)] (λw _=>Pw.any (p:=p) (q:=((-1)*q.1,(-1)*q.2.1,(-1)*q.2.2)) hp (by unfold s0 at aU;dsimp only;omega)) rfl ?_;exact bx rfl
end Px
namespace JC
def t:a7:=
.c 87 [.agg ⟨[0,1,2,3,4,5]⟩] 6 1<|
.bb 6 (
 .ret (.agg ⟨[I 0,I 0,I 0]⟩)) (
 .c 96 [.agg ⟨[3,4,5]⟩,.agg ⟨[0,1,2]⟩] (.agg ⟨[7,8,9]⟩) 3<|
 .ret (.agg ⟨[7,8,9]⟩))
theorem bB:cZ Tryz.prog 95 {} [.agg ⟨[0,1,2,3,4,5]⟩] 6=some t:=dg az
theorem any (W:ao) (b:bw) (ad:okB b):Calls Tryz.prog 95 #[X.val b] W λe w'=>e= .returned (P.val (bE b))/\cA W.heap.size W w':=by
 refine fV (ro:=[]) mixed bB [I b.1,I b.2.1,I b.2.2.1,I b.2.2.2.1,I b.2.2.2.2.1,I b.2.2.2.2.2] (.nil _) ?_;unfold t;refine ew (v:= .bool (decide (¬ig b))) (λw _=>Pv.any w b) ?_;refine bR rfl (λh=>bx ?_) λh=> ?_
 ·rw[CA h]
  rfl
 ·rw[vy (Decidable.not_not.1 h)]
  unfold okB at ad;refine jV [I (b.2.2.2.1+(-1)*b.1),I (b.2.2.2.2.1+(-1)*b.2.1),I (b.2.2.2.2.2+(-1)*b.2.2.1)] (λw _=>Px.any (p:=(b.2.2.2.1,b.2.2.2.2.1,b.2.2.2.2.2)) (q:=(b.1,b.2.1,b.2.2.1)) (by unfold s0;dsimp only;omega) (by unfold s0;dsimp only;omega)) rfl ?_;exact bx (aiC aj aj aj)
end JC
namespace Py
def t:a7:=
.c 95 [.agg ⟨[0,1,2,3,4,5]⟩] (.agg ⟨[6,7,8]⟩) 3<|
.o (.bin .mul 3 6 7) 9 1 []<|
.o (.bin .mul 3 9 8) 10 1 []<|
.ret 10
theorem bB:cZ Tryz.prog 88 {} [.agg ⟨[0,1,2,3,4,5]⟩] 6=some t:=dg az
theorem any (W:ao) (b:bw) (ad:okB b):Calls Tryz.prog 88 #[X.val b] W λe w'=>e= .returned (I (dv b))/\cA W.heap.size W w':=by
 obtain⟨mW,yH,m3,m4⟩:=Pg ad;refine fV (ro:=[]) mixed bB [I b.1,I b.2.1,I b.2.2.1,I b.2.2.2.1,I b.2.2.2.2.1,I b.2.2.2.2.2] (.nil _) ?_;unfold t;refine jV [I (bE b).1,I (bE b).2.1,I (bE b).2.2] (λw _=>JC.any w b ad) rfl ?_;refine wX U U ?_;refine wX U U ?_;exact bx rfl
end Py
end AE
end
end
section
noncomputable section
namespace AE
namespace FK
def t:a7:=
.c 94 [.agg ⟨[6,7,8]⟩,.agg ⟨[0,1,2,3,4,5]⟩] 9 1<|
.o (.un .not 9) 10 1 []<|
.bb 10 (
 .ret (I (-1))) (
 .c 95 [.agg ⟨[0,1,2,3,4,5]⟩] (.agg ⟨[11,12,13]⟩) 3<|
 .c 96 [.agg ⟨[6,7,8]⟩,.agg ⟨[0,1,2]⟩] (.agg ⟨[14,15,16]⟩) 3<|
 .o (.bin .mul 3 16 12) 17 1 []<|
 .o (.bin .add 3 17 15) 18 1 []<|
 .o (.bin .mul 3 18 11) 19 1 []<|
 .o (.bin .add 3 19 14) 20 1 []<|
 .ret 20)
theorem bB:cZ Tryz.prog 57 {} [.agg ⟨[0,1,2,3,4,5]⟩,.agg ⟨[6,7,8]⟩] 9=some t:=dg az
theorem any (W:ao) (b:bw) (p:dc) (ad:okB b):Calls Tryz.prog 57 #[X.val b,P.val p] W λe w'=>e= .returned (I (vw b p))/\cA W.heap.size W w':=by
 refine fV (ro:=[]) mixed bB [I b.1,I b.2.1,I b.2.2.1,I b.2.2.2.1,I b.2.2.2.2.1,I b.2.2.2.2.2,I p.1,I p.2.1,I p.2.2] (.nil _) ?_;unfold t;refine ew (v:= .bool (decide (cX p b))) (λw _=>Pu.any w p b) ?_;refine ox rfl ?_;refine i_ rfl (λh=>bx ?_) λh=> ?_
 ·rw[AK h]
  rfl
 ·have hp:=CB h
  have dw:=ad;unfold okB at dw;rw[Js h];have q:=Jt ad h;refine jV [I (bE b).1,I (bE b).2.1,I (bE b).2.2] (λw _=>JC.any w b ad) rfl ?_;refine jV [I (p.1+(-1)*b.1),I (p.2.1+(-1)*b.2.1),I (p.2.2+(-1)*b.2.2.1)] (λw _=>Px.any (p:=p) (q:=(b.1,b.2.1,b.2.2.1)) (by unfold s0;omega) (by unfold s0;dsimp only;omega)) rfl ?_;refine wX U U ?_;refine Fi U U ?_;refine wX U U ?_;refine Fi U U ?_;exact bx rfl
end FK
end AE
end
end
section
noncomputable section
namespace AE
namespace Pz
def t:a7:=
.o (.bin .lss 3 6 (I 0)) 7 1 []<|
.bb 7 (
 .ret (.tuple ⟨[.agg ⟨[I 0,I 0,I 0]⟩,.bool false]⟩)) (
 .c 88 [.agg ⟨[0,1,2,3,4,5]⟩] 8 1<|
 .o (.bin .geq 3 6 8) 9 1 []<|
 .bb 9 (
  .ret (.tuple ⟨[.agg ⟨[I 0,I 0,I 0]⟩,.bool false]⟩)) (
  .c 95 [.agg ⟨[0,1,2,3,4,5]⟩] (.agg ⟨[10,11,12]⟩) 3<|
  .o (.bin .quo 3 6 10) 13 1 []<|
  .o (.bin .rem 3 6 10) 14 1 []<|
  .o (.bin .rem 3 13 11) 15 1 []<|
  .o (.bin .quo 3 13 11) 16 1 []<|
  .c 119 [.agg ⟨[0,1,2]⟩,.agg ⟨[14,15,16]⟩] (.agg ⟨[17,18,19]⟩) 3<|
  .ret (.tuple ⟨[.agg ⟨[17,18,19]⟩,.bool true]⟩)))
theorem bB:cZ Tryz.prog 105 {} [.agg ⟨[0,1,2,3,4,5]⟩,6] 7=some t:=dg az
theorem any (W:ao) (b:bw) (i:Int) (ad:okB b):Calls Tryz.prog 105 #[X.val b,I i] W λe w'=>e= .returned (.tuple #[P.val (dH b i),.bool (decide (0<=i/\i<dv b))])/\cA W.heap.size W w':=by
 have no:¬(0<=i/\i<dv b)->Value.tuple ⟨[.agg ⟨[I 0,I 0,I 0]⟩,.bool false]⟩= .tuple #[P.val (dH b i),.bool (decide (0<=i/\i<dv b))]:=λh=>by
  rw[Wr h,fD h];rfl
 refine fV (ro:=[]) mixed bB [I b.1,I b.2.1,I b.2.2.1,I b.2.2.2.1,I b.2.2.2.2.1,I b.2.2.2.2.2,I i] (.nil _) ?_;unfold t;refine aN ?_;refine bR rfl (λh=>bx (no λq=>by omega)) λaJ=> ?_
 refine ew (v:=I (dv b)) (λw _=>Py.any w b ad) ?_;refine aN ?_;refine bR rfl (λh=>bx (no λq=>by omega)) λh1=> ?_
 have af:0<=i/\i<dv b:=⟨aj,aj⟩;have r2:=CE ad i;rw[kF af];have ha:dH b i=(b.1+i%(bE b).1,b.2.1+i/(bE b).1%(bE b).2.1,b.2.2.1+i/(bE b).1/(bE b).2.1):=aI af;rw[ha] at r2 ⊢;obtain⟨vm,z2,z3,z4,aiD,FL⟩:=yG ad;have PA:=(Pg ad).2.2;have ag:i.toNat<(dv b).toNat:=by omega
 obtain⟨bn,bH,aX,hs,vA,_,_,_⟩:=Fy ag;obtain⟨cp,c2,c3⟩:=Ap vA;have e1:(bE b).1=(bn:Nat):=by rw[hs]
 have e2:(bE b).2.1=(bH:Nat):=by rw[hs]
 have dw:=ad;unfold okB at dw;have amP:i<=9223345648600875000:=by
  have:dv b<=9223345648600875000:=PA.2;omega
 obtain⟨y,a_⟩:∃y,y=i/(bE b).1:=⟨_,rfl⟩;have d1:0<=y:=by rw[a_];exact Int.ediv_nonneg aj aj
 have ve:y<=i:=by rw[a_];exact Int.ediv_le_self _ aj
 rw[<-a_] at r2 ⊢;have mW:0<=i%(bE b).1:=Int.emod_nonneg _ aj;have yH:0<=y%(bE b).2.1:=Int.emod_nonneg _ aj;have jK:0<=y/(bE b).2.1:=Int.ediv_nonneg aj aj;refine jV [I (bE b).1,I (bE b).2.1,I (bE b).2.2] (λw _=>JC.any w b ad) rfl ?_;refine Fk U U ?_;rw[<-a_];refine Fl U U ?_;refine Fl U U ?_;refine Fk U U ?_;refine jV [I (b.1+i%(bE b).1),I (b.2.1+y%(bE b).2.1),I (b.2.2.1+y/(bE b).2.1)] (λw _=>Pw.any (p:=(b.1,b.2.1,b.2.2.1)) (q:=(i%(bE b).1,y%(bE b).2.1,y/(bE b).2.1)) (by unfold s0;dsimp only;omega) (by dsimp only at r2 ⊢;omega)) rfl ?_;exact bx rfl
end Pz
end AE
end
end
section
noncomputable section
namespace AE
namespace PB
def t:a7:=
.o (.bin .lss 3 1 (I 0)) 2 1 []<|
.bb 2 (
 .ret (.agg ⟨[b1 [],.bool false,.bool false,.bool false,I 16,I 0,I 0,I 0]⟩)) (
 .o (.len #[29] 3 0) 3 1 [0,66]<|
 .o (.bin .geq 3 1 3) 4 1 []<|
 .bb 4 (
  .ret (.agg ⟨[b1 [],.bool false,.bool false,.bool false,I 16,I 0,I 0,I 0]⟩)) (
  .o (.cm 29 0 1) 5 1 [0,66,8]<|
  .o (.bf 66 5) (.agg ⟨fC 8 6⟩) 8 [8]<|
  .ret (.agg ⟨[6,7,8,9,10,11,12,13]⟩)))
theorem bB:cZ Tryz.prog 124 {} [0,1] 2=some t:=dg az
theorem any {W:ao} {a:Option Addr} {n c:Nat} {table:List cc} (hl:bT (aE W) 8 gm (.slice a n c) table) (ak:n=table.length) (x:Int):hK bc 124 [.slice a n c,I x] W (M.val (dk table x)):=by
 subst ak;refine fV (ro:=[⟨gg,.slice a table.length c,table⟩]) mixed bB [.slice a table.length c,I x] (.cons hl (.nil _)) ?_;unfold t;refine aN ?_;refine bR rfl (λh=>bx ?_) λh=> ?_
 ·rw[Iy (λq=>by omega)]
  rfl
 ·obtain⟨j,rfl⟩:=Int.eq_ofNat_of_zero_le (show 0<=x by omega)
  refine aN ?_;refine bR rfl (λae=>bx ?_) λae=> ?_
  ·rw[Iy (λq=>by omega)]
   rfl
  ·have hj:j<table.length:=by omega
   refine ie (K:=gg) (l:=table) (j:=j) U U ?_;refine nt (K:=gg) (l:=table) (j:=j) (o:=0) (c:=gm (table.getD j default)) U U U fL ?_;refine bx ?_;rw[Uy aj aj];rfl
end PB
namespace WR
def t:a7:=
.c 124 [0,1] (.agg ⟨[2,3,4,5,6,7,8,9]⟩) 8<|
.ret 6
theorem bB:cZ Tryz.prog 106 {} [0,1] 2=some t:=dg az
theorem any (W:ao) {jj:J} {l:List cc} (hl:bT (aE W) 8 gm jj l) (cell:Int):Calls Tryz.prog 106 #[jj,I cell] W λe w'=>e= .returned (I (dk l cell).2.2.2.2.1)/\cA W.heap.size W w':=by
 obtain⟨a,c,rfl⟩:=hl.slice;refine fV (ro:=[⟨gg,.slice a l.length c,l⟩]) mixed bB [.slice a l.length c,I cell] (.cons hl (.nil _)) ?_;unfold t;refine jV (gm (dk l cell)) (λw hw=>PB.any (hw.ro 0 _ rfl) rfl cell) rfl ?_;exact bx rfl
end WR
namespace WS
def t:a7:=
.c 124 [0,1] (.agg ⟨[2,3,4,5,6,7,8,9]⟩) 8<|
.ret (.agg ⟨[7,8,9]⟩)
theorem bB:cZ Tryz.prog 108 {} [0,1] 2=some t:=dg az
theorem any (W:ao) {jj:J} {l:List cc} (hl:bT (aE W) 8 gm jj l) (cell:Int):Calls Tryz.prog 108 #[jj,I cell] W λe w'=>e= .returned (.agg ⟨[I (dk l cell).2.2.2.2.2.1,I (dk l cell).2.2.2.2.2.2.1,I (dk l cell).2.2.2.2.2.2.2]⟩)/\cA W.heap.size W w':=by
 obtain⟨a,c,rfl⟩:=hl.slice;refine fV (ro:=[⟨gg,.slice a l.length c,l⟩]) mixed bB [.slice a l.length c,I cell] (.cons hl (.nil _)) ?_;unfold t;refine jV (gm (dk l cell)) (λw hw=>PB.any (hw.ro 0 _ rfl) rfl cell) rfl ?_;exact bx rfl
end WS
end AE
end
end
section
noncomputable section
namespace AE
@[reducible] def yN (e:bJ) (k:Nat):bJ:={e with u:={e.u with bp:=lA e.u.bp e.u.waits k,waits:=mi e.u.waits k}}
@[reducible] def aiE (e:bJ) (k:Nat) (old:bq):bJ:={e with u:={e.u with bz:=e.u.bz++[(k,old)],gone:=e.u.gone++[k],av:=e.u.av.set k (tY old (e.u.av.getD k default))}}
namespace PC
def t:a7:=
.o (.dp 0) 2 1 []<|
.o (.b7 76 2 11) 3 1 [23,30,1]<|
.o (.bf 30 3) 4 1 [1]<|
.o (.cm 30 4 1) 5 1 [0,4,1]<|
.o (.bf 4 5) 6 1 [1]<|
.o (.un .not 6) 7 1 []<|
.bb 7 (
 .o (.dp 0) 8 1 []<|
 .o (.b7 76 8 11) 9 1 [23,30,1]<|
 .o (.bf 30 9) 10 1 [1]<|
 .o (.cm 30 10 1) 11 1 [0,4,1]<|
 .st 4 11 (.bool true)<|
 .o (.dp 0) 12 1 []<|
 .o (.b7 76 12 10) 13 1 [22,74,1]<|
 .rU [1] 1 1<|
 .call 59 [13,14] (.tuple ⟨[]⟩) 0<|
 .ret (.tuple ⟨[]⟩)) (
 .ret (.tuple ⟨[]⟩))
theorem bB:cZ Tryz.prog 32 {iT:=[59]} [0,1] 2=some t:=dg az
theorem any {W:ao} {g:Nat} {A:dM} {e:bJ} (aH:bY (aE W) (bD (bI g A e))) (k:Nat) (ag:k<e.u.waits.length) (hl:e.u.bp.length<=400000):
  ey bc 32 [bK g,I (k:Nat)] W (bI g A e) cE (λ_=> .tuple #[]) λy=>bI g {A with s:=y} (yN e k):=by
 refine g_ (ro:=[]) mixed bB [bK g,I (k:Nat)] aH dR.none ?_;unfold t;refine aN ?_;refine um rfl (λh=> ?_) λh=> ?_
 ·have hw:¬e.u.waits.getD k default=true:=by simpa using h
  refine aN ?_;refine uo (K:=c9) (l:=e.u.waits) (j:=k) true U U fK rfl (λ_ _=>rfl) ?_;refine aN ?_;refine O8 sZ [k] rfl (λ_=>iy) λb=> ?_
  refine kA (dm:=bI g A {e with u:={e.u with waits:=e.u.waits.set k true}}++[aw.red sZ (.slice (some ⟨b,0,none⟩) 1 1) [k]]) (L':=λy=>bI g {A with s:=y} {e with u:={e.u with waits:=e.u.waits.set k true,bp:=e.u.bp++[k]}}++[aw.red sZ (.slice (some ⟨b,0,none⟩) 1 1) [k]]) [0,1,2,3,4,5,6,7,8,9,10,11,12] (λ_=>[]) (λw hw aH=>WI.any (lx:=[k]) aH (by show e.u.bp.length+1<=_;omega)) λy=> ?_
  refine la (λM aV=> ?_) ⟨y,rfl,rfl⟩;show b6 0 _ _ M (bD (bI g {A with s:=y} (yN e k)));unfold yN;rw[U1 hw,U3 hw];exact aV.pre
 ·refine bx ⟨A.s,rfl,?_⟩
  have hw:e.u.waits.getD k default=true:=by simpa using h
  unfold yN;rw[U0 hw,U2 hw]
end PC
end AE
end
end
section
noncomputable section
namespace AE
abbrev iA:aK:=85
def r3 (x:bq) (i:Nat) (v:Int):bq:=pq λc=>if c=i then v else bF x c
theorem vF {x:bq} {i:Nat} (h:i<4):(ch x)[0+i*1]? =some (I (bF x i)):=by
 match i,h with
 |0,_=>rfl
 |1,_=>rfl
 |2,_=>rfl
 |3,_=>rfl
theorem JD {x:bq} {i:Nat} (h:i<4) (v:Int):ch (r3 x i v)=(ch x).set (0+i*1) (I v):=by
 match i,h with
 |0,_=>rfl
 |1,_=>rfl
 |2,_=>rfl
 |3,_=>rfl
theorem aiF {x:bq} {i:Nat} (h:i<4):(ch x)[i]? =some (I (bF x i)):=by
 have:=vF (x:=x) h
 rwa [Nat.zero_add,Nat.mul_one] at this
theorem aiG {old x:bq} {i:Nat} (h:0<bF old i):r3 (qd i old x) i 0=qd (i+1) old x:=by
 refine bq.ext' λc ai=> ?_
 unfold r3 qd;rw[hG ai,hG ai,hG ai];by_cases af:c=i
 ·subst af;rw[aI rfl,aI ⟨aj,h⟩]
 ·rw[aG af]
  by_cases hl:c<i/\0<bF old c
  ·rw[aI hl,aI ⟨aj,hl.2⟩]
  ·rw[aG hl,aG (λq=>hl ⟨aj,q.2⟩)]
theorem aiH {old x:bq} {i:Nat} (h:¬0<bF old i):qd (i+1) old x=qd i old x:=by
 refine bq.ext' λc ai=> ?_
 unfold qd;rw[hG ai,hG ai];by_cases hl:c<i/\0<bF old c
 ·rw[aI hl,aI ⟨aj,hl.2⟩]
 ·rw[aG hl,aG (λq=>hl ⟨(by rcases Nat.lt_or_ge c i with q1|q1;exact q1;exact absurd q.2 (by rw[show c=i by omega];exact h)),q.2⟩)]
@[reducible] def JE (e:bJ) (k:Nat) (old:bq) (i:Nat):bJ:={e with u:={e.u with bz:=e.u.bz++[(k,old)],gone:=e.u.gone++[k],av:=e.u.av.set k (qd i old (e.u.av.getD k default))}}
namespace PD
def t:a7:=
.nn 85 (.agg ⟨[2,3,4,5]⟩)<|
.o (.dp 0) 7 1 []<|
.o (.b7 76 7 8) 8 1 [20,72,1]<|
.o (.bf 85 6) (.agg ⟨fC 4 9⟩) 4 [4]<|
.rU [1,9,10,11,12] 1 1<|
.call 107 [8,13] (.tuple ⟨[]⟩) 0<|
.o (.dp 0) 14 1 []<|
.o (.b7 76 14 9) 15 1 [21,26,1]<|
.o (.bf 26 15) 16 1 [1]<|
.rT 26 16 [1]<|
.o (.dp 0) 18 1 []<|
.o (.b7 76 18 9) 19 1 [21,26,1]<|
.st 26 19 17<|
.loop [I 0] 1<|
.o (.bin .lss 3 20 (I 4)) 21 1 []<|
.bb 21 (
 .o (.cm 85 6 20) 22 1 [1,4,3,1]<|
 .o (.bf 3 22) 23 1 [1]<|
 .o (.bin .gtr 3 23 (I 0)) 24 1 []<|
 .bb 24 (
  .o (.dp 0) 25 1 []<|
  .o (.b7 76 25 5) 26 1 [17,51,1]<|
  .o (.bf 51 26) 27 1 [1]<|
  .o (.cm 51 27 1) 28 1 [0,85,4]<|
  .o (.cm 85 28 20) 29 1 [1,4,3,1]<|
  .st 3 29 (I 0)<|
  .o (.bin .add 3 20 (I 1)) 30 1 []<|
  .back [30]) (
  .o (.bin .add 3 20 (I 1)) 25 1 []<|
  .back [25])) (
 .c4<|
 .ret (.tuple ⟨[]⟩))
theorem bB:cZ Tryz.prog 71 {iT:=[107],marks:=[85]} [0,1,.agg ⟨[2,3,4,5]⟩] 6=some t:=dg az
theorem any {W:ao} {g:Nat} {A:dM} {e:bJ} (aH:bY (aE W) (bD (bI g A e))) (k:Nat) (old:bq) (ag:k<e.u.av.length) (h1:e.u.bz.length<=400000) (ae:e.u.gone.length<=400000):
  ey bc 71 [bK g,I (k:Nat),.agg ⟨ch old⟩] W (bI g A e) (cE×cE) (λ_=> .tuple #[]) λy=>bI g {A with o:=y.1,g:=y.2} (aiE e k old):=by
 refine g_ (ro:=[]) mixed bB [bK g,I (k:Nat),I old.1,I old.2.1,I old.2.2.1,I old.2.2.2] aH dR.none ?_;unfold t;refine vr (cs:=ch old) U U (λb=>iy) λb=> ?_
 refine aN ?_;refine mN (c:=ch old) rfl has U U fL ?_;refine O8 oS [(k,old)] rfl (λ_=>iy) λjz=> ?_
 refine kA (dm:=bI g A e++[aw.red oS (.slice (some ⟨jz,0,none⟩) 1 1) [(k,old)]]) (L':=λy=>bI g {A with o:=y} {e with u:={e.u with bz:=e.u.bz++[(k,old)]}}++[aw.box b iA (ch old),aw.red oS (.slice (some ⟨jz,0,none⟩) 1 1) [(k,old)]]) [0,1,2,3,4,5,6,7,8,9,10,11,13] (λ_=>[]) (λw hw aH=>WK.any (lx:=[(k,old)]) aH (by show e.u.bz.length+1<=_;omega)) λy=> ?_
 refine aN ?_;refine Fm (K:=sZ) (l:=e.u.gone) [k] rfl (λa c=>fK) rfl (λa c=> ?_) (vE (by show e.u.gone.length+1<=_;omega)) (by show (e.u.gone.length+1)*8<=_;omega);refine aN ?_;refine k_ Nat (λi=>[I (i:Nat)]) (λi=>bI g {A with o:=y,g:=(a,c)} (JE e k old i)++[aw.box b iA (ch old),aw.red oS (.slice (some ⟨jz,0,none⟩) 1 1) [(k,old)]]) (λi=>i<=4) (λi=>4-i) 0 rfl ?_ aj (λi af=> ?_)
 ·show _=bI g _ {e with u:={e.u with bz:=e.u.bz++[(k,old)],gone:=e.u.gone++[k],av:=e.u.av.set k (qd 0 old (e.u.av.getD k default))}}++_
  rw[af9,U5 ag];rfl
 refine aN ?_;refine bR rfl (λbm=> ?_) λbm=> ?_
 ·have kS:i<4:=by omega
  refine aN ?_;refine kz (u:=I (bF old i)) rfl has (vF kS) ?_;have kH:k<(e.u.av.set k (qd i old (e.u.av.getD k default))).length:=by rw[List.length_set];exact ag
  refine aN ?_;refine bR rfl (λhp=> ?_) λhp=> ?_
  ·refine aN ?_
   refine uo (K:=ez) (l:=e.u.av.set k (qd i old (e.u.av.getD k default))) (j:=k) (o:=0+i*1) (r3 (qd i old (e.u.av.getD k default)) i 0) U U fK rfl (λz bu=> ?_) ?_ (hj:=kH) (ho:=by show 0+i*1<4;omega)
   ·rw[List.getElem?_set,aI rfl,aI ag,cz] at bu
    subst bu;exact JD kS 0
   refine aN ?_;refine h5 (i+1) rfl ?_ aj aj;rw[List.set_set,aiG hp];rfl
  ·refine aN ?_
   refine h5 (i+1) rfl ?_ aj aj;show _=bI g _ (JE e k old (i+1))++_;unfold JE;rw[aiH hp]
 ·refine aN ?_
  obtain rfl:i=4:=by omega
  refine la (λM aV=> ?_) ⟨(y,(a,c)),rfl,rfl⟩;unfold JE at aV;rw[af'] at aV;exact aV.pick Pt rfl
end PD
end AE
end
end
section
noncomputable section
namespace AE
abbrev r4:aK:=87
namespace PE
def t:a7:=
.o (.dp 0) 2 1 []<|
.o (.b7 76 2 4) 3 1 [16,29,1]<|
.o (.bf 29 3) 4 1 [1]<|
.o (.b7 76 2 1) 5 1 [7,28,7]<|
.o (.b7 28 5 1) 6 1 [6,26,1]<|
.o (.bf 26 6) 7 1 [1]<|
.o (.cm 26 7 1) 8 1 [0,3,1]<|
.o (.bf 3 8) 9 1 [1]<|
.c 106 [4,9] 10 1<|
.ret 10
theorem bB:cZ Tryz.prog 69 {} [0,1] 2=some t:=dg az
theorem any {W:ao} {g:Nat} {A:dM} {e:bJ} (aH:bY (aE W) (bD (bI g A e))) (k:Nat) (ag:k<e.u.lit.length):
  ey bc 69 [bK g,I (k:Nat)] W (bI g A e) Unit (λ_=>I (dk e.table (e.u.lit.getD k default)).2.2.2.2.1) λ_=>bI g A e:=by
 refine g_ (ro:=[]) mixed bB [bK g,I (k:Nat)] aH dR.none ?_;unfold t;refine aN ?_;refine ew (v:=I (dk e.table (e.u.lit.getD k default)).2.2.2.2.1) (λw hw=>WR.any w ((fU.arr (K:=gg) (l:=e.table) has).at hw) _) ?_;exact bx ⟨(),rfl,rfl⟩
end PE
namespace WT
def t:a7:=
.o (.bf 34 2) 3 1 [1]<|
.call 32 [3,0] (.tuple ⟨[]⟩) 0<|
.ret (.tuple ⟨[]⟩)
theorem bB:cZ Tryz.prog 74 {iT:=[32]} [0,1,2] 3=some t:=dg az
theorem any {W:ao} {g dn:Nat} {A:dM} {e:bJ} (aH:bY (aE W) (bD (bI g A e++[aw.box dn fj [bK g]]))) (k:Nat) (eR:Int) (ag:k<e.u.waits.length) (hl:e.u.bp.length<=400000):
  ey bc 74 [I (k:Nat),I eR,.pointer (some ⟨dn,0,none⟩)] W (bI g A e++[aw.box dn fj [bK g]]) cE (λ_=> .tuple #[]) λy=>bI g {A with s:=y} (yN e k)++[aw.box dn fj [bK g]]:=by
 refine g_ (ro:=[]) mixed bB [I (k:Nat),I eR,.pointer (some ⟨dn,0,none⟩)] aH dR.none ?_;unfold t;refine aN ?_;refine pE (dm:=bI g A e) (λ_=>[]) (λw hw aH=>PC.any aH k ag hl) λy=> ?_
 exact bx ⟨y,rfl,rfl⟩
end WT
end AE
end
end
section
noncomputable section
namespace AE
theorem WU {x:au} {i:Nat} (h:i<4):(kx x)[0+1+i*1]? =some (I (bF x.2 i)):=by
 match i,h with
 |0,_=>rfl
 |1,_=>rfl
 |2,_=>rfl
 |3,_=>rfl
abbrev w7 (x:bq):Prop:=∀c,c<4->0<=bF x c/\bF x c<=15
def vG (F:Int) (old x:bq) (eR:Int) (i:Nat):bq:=pq λc=>if c<i then CC F old x eR c else 0
theorem aiI {F:Int} {old x:bq} {eR:Int} {i:Nat} {v:Int} (h:CC F old x eR i=v):r3 (vG F old x eR i) i v=vG F old x eR (i+1):=by
 refine bq.ext' λc ai=> ?_
 unfold r3 vG;rw[hG ai,hG ai,hG ai];by_cases af:c=i
 ·subst af;rw[aI rfl,aI aj,h]
 ·rw[aG af]
  by_cases hl:c<i
  ·rw[aI hl,aI aj]
  ·rw[aG hl,aG aj]
theorem PF {F:Int} {old x:bq} {eR:Int} {i:Nat} (h:CC F old x eR i=0):vG F old x eR (i+1)=vG F old x eR i:=by
 refine bq.ext' λc ai=> ?_
 unfold vG;rw[hG ai,hG ai];by_cases af:c=i
 ·subst af;rw[aI aj,aG aj,h]
 ·by_cases hl:c<i
  ·rw[aI hl,aI aj]
  ·rw[aG hl,aG aj]
theorem aiJ {F:Int} {old x:bq} {eR:Int}:vG F old x eR 4=yI F old x eR:=by
 refine bq.ext' λc ai=> ?_
 unfold vG yI;rw[hG ai,hG ai,aI ai]
@[reducible] def jY (e:bJ) (k:Nat):Int:=(dk e.table (e.u.lit.getD k default)).2.2.2.2.1
@[reducible] def PG (e:bJ) (k:Nat) (O:bq):bJ:={e with u:={e.u with bz:=AL e.u.bz k O,gone:=w4 e.u.gone k O,av:=yJ e.u.av k O}}
@[reducible] def FM (e:bJ) (x:au) (k:Nat) (eR:Int):bJ:=PG e k (yI (jY e k) x.2 (e.u.av.getD k default) eR)
namespace WV
def t:a7:=
.o (.bf 34 2) 4 1 [1]<|
.call 69 [4,0] 5 1<|
.mJ 85<|
.o (.bf 34 2) 7 1 [1]<|
.o (.dp 7) 8 1 []<|
.o (.b7 76 8 5) 9 1 [17,51,1]<|
.o (.bf 51 9) 10 1 [1]<|
.o (.cm 51 10 0) 11 1 [0,85,4]<|
.o (.bf 85 11) (.agg ⟨fC 4 12⟩) 4 [4]<|
.loop [I 0] 1<|
.o (.bin .lss 3 16 (I 4)) 17 1 []<|
.bb 17 (
 .o (.dP 85 (.agg ⟨[12,13,14,15]⟩) 16) 18 1 [1,4,3,1]<|
 .o (.b7 87 3 1) 19 1 [1,85,4]<|
 .o (.cm 85 19 16) 20 1 [1,4,3,1]<|
 .o (.bf 3 20) 21 1 [1]<|
 .o (.bin .gtr 3 21 (I 0)) 22 1 []<|
 .bb 22 (
  .o (.bin .gtr 3 18 (I 0)) 23 1 []<|
  .bb 23 (
   .o (.b7 87 3 1) 24 1 [1,85,4]<|
   .o (.cm 85 24 16) 25 1 [1,4,3,1]<|
   .o (.bf 3 25) 26 1 [1]<|
   .o (.bin .lss 3 1 (I 0)) 27 1 []<|
   .c 70 [26,5,16,27] 28 1<|
   .o (.bin .eql 3 18 28) 29 1 []<|
   .bb 29 (
    .o (.cm 85 6 16) 30 1 [1,4,3,1]<|
    .st 3 30 18<|
    .o (.bin .add 3 16 (I 1)) 31 1 []<|
    .back [31]) (
    .o (.bin .add 3 16 (I 1)) 30 1 []<|
    .back [30])) (
   .o (.bin .add 3 16 (I 1)) 24 1 []<|
   .back [24])) (
  .o (.bin .add 3 16 (I 1)) 23 1 []<|
  .back [23])) (
 .c4<|
 .o (.bf 85 6) (.agg ⟨fC 4 18⟩) 4 [4]<|
 .o (.bin .neq 85 (.agg ⟨[18,19,20,21]⟩) (.agg ⟨[I 0,I 0,I 0,I 0]⟩)) 22 1 []<|
 .bb 22 (
  .o (.bf 34 2) 23 1 [1]<|
  .o (.bf 85 6) (.agg ⟨fC 4 24⟩) 4 [4]<|
  .call 71 [23,0,.agg ⟨[24,25,26,27]⟩] (.tuple ⟨[]⟩) 0<|
  .ret (.tuple ⟨[]⟩)) (
  .ret (.tuple ⟨[]⟩)))
theorem bB:cZ Tryz.prog 68 {iT:=[71,69],marks:=[85]} [0,1,2,3] 4=some t:=dg az
theorem any {W:ao} {g dn nv:Nat} {A:dM} {e:bJ} {x:au} (aH:bY (aE W) (bD (bI g A e++[aw.box dn fj [bK g],aw.box nv r4 (kx x)]))) (k:Nat) (eR:Int) (ag:k<e.u.av.length) (kH:k<e.u.lit.length) (h1:e.u.bz.length<=300000) (ae:e.u.gone.length<=300000) (ah:w7 x.2) (cl:1<=jY e k/\jY e k<=16):
  ey bc 68 [I (k:Nat),I eR,.pointer (some ⟨dn,0,none⟩),.pointer (some ⟨nv,0,none⟩)] W (bI g A e++[aw.box dn fj [bK g],aw.box nv r4 (kx x)]) (cE×cE) (λ_=> .tuple #[]) λy=>bI g {A with o:=y.1,g:=y.2} (FM e x k eR)++[aw.box dn fj [bK g],aw.box nv r4 (kx x)]:=by
 refine g_ (ro:=[]) mixed bB [I (k:Nat),I eR,.pointer (some ⟨dn,0,none⟩),.pointer (some ⟨nv,0,none⟩)] aH dR.none ?_;unfold t;refine aN ?_;refine pE (dm:=bI g A e) (λ_=>[I (jY e k)]) (λw hw aH=>PE.any aH k kH) λ_=> ?_
 refine uq (z:= .agg ⟨ch z4⟩) (ch z4) az rfl (λb=>iy) λb=> ?_
 refine aN ?_;refine nt (K:=ez) (l:=e.u.av) (j:=k) (c:=ch (e.u.av.getD k default)) U U U fL ?_;generalize mw:e.u.av.getD k default=c4;generalize aO:jY e k=F at cl;refine k_ Nat (λi=>[I (i:Nat)]) (λi=>bI g A e++[aw.box dn fj [bK g],aw.box nv r4 (kx x),aw.box b iA (ch (vG F x.2 c4 eR i))]) (λi=>i<=4) (λi=>4-i) 0 U U aj (λi af=> ?_);refine aN ?_;refine bR rfl (λbm=> ?_) λbm=> ?_
 ·have kS:i<4:=by omega
  refine Jj (cs:=ch c4) (j:=i) U U (aiF kS) ?_;refine aN ?_;refine kz (u:=I (bF x.2 i)) rfl has (WU kS) ?_;refine aN ?_;refine bR rfl (λhp=> ?_) λhp=> ?_
  ·refine aN ?_
   refine bR rfl (λaU=> ?_) λaU=> ?_
   ·refine aN ?_
    refine kz (u:=I (bF x.2 i)) rfl has (WU kS) ?_;refine aN ?_;refine ew (v:=I (given (bF x.2 i) F i (decide (eR<0)))) (λw hw=>JB.any w (bF x.2 i) F i (decide (eR<0)) (by have:=ah i kS;omega) (by have:=ah i kS;omega) aj aj) ?_;refine aN ?_;refine bR rfl (λhr=> ?_) λhr=> ?_
    ·refine aN ?_
     refine Wa (cs':=ch (vG F x.2 c4 eR (i+1))) U U fK ?_ ?_ (by show 0+i*1<4;omega)
     ·rw[<-aiI (ah8 hp aU hr)]
      exact JD kS _
     refine aN ?_;exact h5 (i+1) U U aj aj
    ·refine aN ?_
     refine h5 (i+1) rfl ?_ aj aj;rw[PF (Ph λq=>hr q.2.2)]
   ·refine aN ?_
    refine h5 (i+1) rfl ?_ aj aj;rw[PF (Ph λq=>aU q.2.1)]
  ·refine aN ?_
   refine h5 (i+1) rfl ?_ aj aj;rw[PF (Ph λq=>hp q.1)]
 ·refine aN ?_
  obtain rfl:i=4:=by omega
  rw[aiJ];generalize cj:yI F x.2 c4 eR=O;refine mN (c:=ch O) rfl has U U fL ?_;refine Cw (b:=decide (O=z4)) U U ((Ws O z4).trans (by rw[Wt])) ?_;refine i_ rfl (λbu=> ?_) λbu=> ?_
  ·refine aN ?_
   refine mN (c:=ch O) rfl has U U fL ?_;refine pE (dm:=bI g A e) (λ_=>[]) (λw hw aH=>PD.any aH k O ag aj aj) λy=> ?_
   refine la (λM aV=> ?_) ⟨y,rfl,rfl⟩;unfold FM PG;rw[mw,aO,cj];obtain⟨q1,aB,b_⟩:=ah7 (l:=e.u.bz) (g:=e.u.gone) (li:=e.u.av) (n:=k) bu;rw[q1,aB,b_];exact aV.pick [0,1,2,3,4,5,6,7,8,9,10,11,12,13] rfl
  ·refine la (λM aV=> ?_) ⟨(A.o,A.g),rfl,rfl⟩
   unfold FM PG;rw[mw,aO,cj];obtain⟨q1,aB,b_⟩:=ah6 (l:=e.u.bz) (g:=e.u.gone) (li:=e.u.av) (n:=k) bu;rw[q1,aB,b_];exact aV.pick [0,1,2,3,4,5,6,7,8,9,10,11,12,13] rfl
end WV
end AE
end
end
section
noncomputable section
namespace AE
theorem w8 {b:bw} {p:dc} (ad:okB b) (h:cX p b):vw b p=((bV b p:Nat):Int):=by
 unfold bV;have:=(Jt ad h).1;rw[Js h];have ae:=(Jt ad h).2.2.1;have ar:=CB h;omega
def yO (j:Nat):Int:=if j=0 then -1 else 1
theorem aiK {j:Nat} (h:j<2):([I (-1),I 1]:List J)[j]? =some (I (yO j)):=by
 match j,h with
 |0,_=>rfl
 |1,_=>rfl
namespace AP
def t (f:FuncId) (CI:List J):a7:=
.o (.dp 0) 5 1 []<|
.o (.b7 76 5 1) 6 1 [7,28,7]<|
.o (.b7 28 6 0) 7 1 [0,25,6]<|
.o (.bf 25 7) (.agg ⟨fC 6 8⟩) 6 [6]<|
.c 105 [.agg ⟨[8,9,10,11,12,13]⟩,1] (.tuple ⟨[.agg ⟨[14,15,16]⟩,17]⟩) 4<|
.loop [I 0] 1<|
.o (.bin .lss 3 18 (I 3)) 19 1 []<|
.bb 19 (
 .loop [I 0] 1<|
 .o (.bin .lss 3 20 (I 2)) 21 1 []<|
 .bb 21 (
  .o (.dP 153 (.agg ⟨[I (-1),I 1]⟩) 20) 22 1 [1,2,3,1]<|
  .o (.bin .eql 3 18 (I 0)) 23 1 []<|
  .qW 23 (
   .o (.bin .add 3 14 22) 24 1 []<|
   .back [I 0,24,15,16]) (
   .o (.bin .eql 3 18 (I 1)) 24 1 []<|
   .bb 24 (
    .o (.bin .add 3 15 22) 25 1 []<|
    .back [I 0,14,25,16]) (
    .o (.bin .add 3 16 22) 25 1 []<|
    .back [22,14,15,25])) 4<|
  .o (.dp 0) 28 1 []<|
  .o (.b7 76 28 1) 29 1 [7,28,7]<|
  .o (.b7 28 29 0) 30 1 [0,25,6]<|
  .o (.bf 25 30) (.agg ⟨fC 6 31⟩) 6 [6]<|
  .c 57 [.agg ⟨[31,32,33,34,35,36]⟩,.agg ⟨[25,26,27]⟩] 37 1<|
  .o (.bin .geq 3 37 (I 0)) 38 1 []<|
  .bb 38 (
   .o (.dp 0) 39 1 []<|
   .o (.b7 76 39 3) 40 1 [15,30,1]<|
   .o (.bf 30 40) 41 1 [1]<|
   .o (.cm 30 41 37) 42 1 [0,4,1]<|
   .o (.bf 4 42) 43 1 [1]<|
   .bb 43 (
    .call f (37::24::CI) (.tuple ⟨[]⟩) 0<|
    .o (.bin .add 3 20 (I 1)) 44 1 []<|
    .back [44]) (
    .o (.bin .add 3 20 (I 1)) 44 1 []<|
    .back [44])) (
   .o (.bin .add 3 20 (I 1)) 39 1 []<|
   .back [39])) (
  .c4<|
  .o (.bin .add 3 18 (I 1)) 22 1 []<|
  .back [22])) (
 .c4<|
 .ret (.tuple ⟨[]⟩))
theorem any {f:FuncId} {CI k5:List J} {h:yy} (aA:cZ bc 67 h [0,1,.func (.func f) #[] ⟨CI⟩] 5=some (t f CI)) {c2 c3 mx:J} (jC:∀env n,look env n 2=c2->look env n 3=c3->look env n 4=mx->fG env n CI=k5) (ai:eJ [c2,c3,mx]) (D4:∀v0 v1,fG [mx,c3,c2,v1,v0] 5 [0,1,.func (.func f) #[] ⟨CI⟩]=[v0,v1,.func (.func f) #[] ⟨k5⟩])
  {W:ao} {g:Nat} {yg Z:Type} (nW:Z->yg->dM) (lV:yg->bJ) (nX:Z->yg->List (aw bc)) (is:List Nat) (st:yg->Nat×Int->yg) (hz:yg) {b:bw} {sh:List Bool} {k:Nat} (ad:okB b) (ag:k<sh.length) (hl:sh.length=(dv b).toNat)
  (yP:∀n,(lV ((c5 b sh k n).foldl st hz)).b=b) (es:∀n,(lV ((c5 b sh k n).foldl st hz)).u.bO=sh)
  (ko:∀n z w,n<6->bY (aE w) (bD (bI g (nW z ((c5 b sh k n).foldl st hz)) (lV ((c5 b sh k n).foldl st hz))++nX z ((c5 b sh k n).foldl st hz)))->ey bc f (I (bV b (eF b k n):Nat)::I (om n)::k5) w (bI g (nW z ((c5 b sh k n).foldl st hz)) (lV ((c5 b sh k n).foldl st hz))++nX z ((c5 b sh k n).foldl st hz)) Z (λ_=> .tuple #[]) λoZ=>bI g (nW oZ (st ((c5 b sh k n).foldl st hz) (bV b (eF b k n),om n))) (lV (st ((c5 b sh k n).foldl st hz) (bV b (eF b k n),om n)))++nX oZ (st ((c5 b sh k n).foldl st hz) (bV b (eF b k n),om n)))
  (hp:∀z d,pick (bD (bI g (nW z d) (lV d)++nX z d)) is=bD (bI g (nW z d) (lV d)++nX z d)) (aiL:∀z d oZ mX,sU (bI g (nW z d) (lV d)++nX z d) is (bI g (nW oZ mX) (lV mX)++nX oZ mX)=bI g (nW oZ mX) (lV mX)++nX oZ mX)
  (hU:∀z d,ju (bI g (nW z d) (lV d)++nX z d).length is=true) (hle:∀z d,is.length<=(bI g (nW z d) (lV d)++nX z d).length) (z0:Z) (aH:bY (aE W) (bD (bI g (nW z0 hz) (lV hz)++nX z0 hz))):
  ey bc 67 [bK g,I (k:Nat),.func (.func f) #[] ⟨k5⟩] W (bI g (nW z0 hz) (lV hz)++nX z0 hz) Z (λ_=> .tuple #[]) λz=>bI g (nW z ((c5 b sh k 6).foldl st hz)) (lV ((c5 b sh k 6).foldl st hz))++nX z ((c5 b sh k 6).foldl st hz):=by
 have bA:(c5 b sh k 0).foldl st hz=hz:=rfl;have ax:0<=((k:Nat):Int)/\((k:Nat):Int)<dv b:=Pj ag hl;have r2:=CE ad (k:Nat);refine g_ (ro:=[]) mixed aA [bK g,I (k:Nat),c2,c3,mx] aH dR.none ?_ (D4 _ _) (ho:=⟨rfl,rfl,ai⟩);unfold t;refine aN ?_;refine mN (c:=lB b) rfl has (by exact(congrArg lB (yP 0)).symm) rfl fL ?_;refine jV [I (dH b (k:Nat)).1,I (dH b (k:Nat)).2.1,I (dH b (k:Nat)).2.2,.bool (decide (0<=((k:Nat):Int)/\((k:Nat):Int)<dv b))] (λw _=>Pz.any w b (k:Nat) ad) rfl ?_;refine k_ (Nat×Z) (λu=>[I (u.1:Nat)]) (λu=>bI g (nW u.2 ((c5 b sh k (2*u.1)).foldl st hz)) (lV ((c5 b sh k (2*u.1)).foldl st hz))++nX u.2 ((c5 b sh k (2*u.1)).foldl st hz)) (λu=>u.1<=3) (λu=>3-u.1) (0,z0) U U (by show 0<=3;omega) (λu hu=> ?_);obtain⟨i,z⟩:=u;have hu:i<=3:=hu;dsimp only;refine aN ?_;refine bR rfl (λar=> ?_) λar=> ?_
 ·refine k_ (Nat×Z) (λu=>[I (u.1:Nat)]) (λu=>bI g (nW u.2 ((c5 b sh k (2*i+u.1)).foldl st hz)) (lV ((c5 b sh k (2*i+u.1)).foldl st hz))++nX u.2 ((c5 b sh k (2*i+u.1)).foldl st hz)) (λu=>u.1<=2) (λu=>2-u.1) (0,z) U U (by show 0<=2;omega) (λv zU=> ?_)
  have bu:∃PH,PH=z:=⟨z,rfl⟩;obtain⟨PH,bu⟩:=bu;subst bu;obtain⟨j,z⟩:=v;have zU:j<=2:=zU;dsimp only;refine aN ?_;refine bR rfl (λae=> ?_) λae=> ?_
  ·have hj:j<2:=by omega
   have cu:2*i+j<6:=by omega
   have JF: -1<=yO j/\yO j<=1:=by unfold yO;split<;>omega
   refine Jj (cs:=[I (-1),I 1]) (j:=j) U U (aiK hj) ?_;refine aN ?_;refine Ji (Int×dc) (λu=>[I u.1,I u.2.1,I u.2.2.1,I u.2.2.2]) (λ_=>bI g (nW z ((c5 b sh k (2*i+j)).foldl st hz)) (lV ((c5 b sh k (2*i+j)).foldl st hz))++nX z ((c5 b sh k (2*i+j)).foldl st hz)) (λu=>u=(om (2*i+j),eF b k (2*i+j))) rfl (λaf=> ?_) (λaf=> ?_) (λu hu=> ?_)
   ·refine aN ?_
    refine wZ (0,(dH b (k:Nat)).1+yO j,(dH b (k:Nat)).2.1,(dH b (k:Nat)).2.2) U U ?_;obtain rfl:i=0:=by omega
    match j,hj with
    |0,_=>rfl
    |1,_=>rfl
   ·refine aN ?_
    refine bR rfl (λPI=> ?_) λPI=> ?_
    ·refine aN ?_
     refine wZ (0,(dH b (k:Nat)).1,(dH b (k:Nat)).2.1+yO j,(dH b (k:Nat)).2.2) U U ?_;obtain rfl:i=1:=by omega
     match j,hj with
     |0,_=>rfl
     |1,_=>rfl
    ·refine aN ?_
     refine wZ (yO j,(dH b (k:Nat)).1,(dH b (k:Nat)).2.1,(dH b (k:Nat)).2.2+yO j) U U ?_;obtain rfl:i=2:=by omega
     match j,hj with
     |0,_=>rfl
     |1,_=>rfl
   ·subst hu
    dsimp only;have fq:=Fz (b:=b) ag hl (eF b k (2*i+j));have amQ:(bV b (eF b k (2*i+j)))<(lV ((c5 b sh k (2*i+j)).foldl st hz)).u.bO.length:=by rw[es];exact fq
    refine aN ?_;refine mN (c:=lB b) rfl has (by exact(congrArg lB (yP (2*i+j))).symm) rfl fL ?_;by_cases hX:cX (eF b k (2*i+j)) b
    ·refine ew (v:=I (bV b (eF b k (2*i+j)):Nat)) (λw _=>by rw[<-w8 ad hX];exact FK.any w b (eF b k (2*i+j)) ad) ?_
     refine aN ?_;refine bR rfl (λaJ=> ?_) λaJ=>absurd (Int.natCast_nonneg _) aJ
     refine aN ?_;refine um rfl (λhs=> ?_) λhs=> ?_
     ·have hs:sh.getD (bV b (eF b k (2*i+j))) default=true:=by rw[<-es (2*i+j)];exact hs
      refine kA (v:=λ_=> .tuple #[]) (N:=λoZ=>bI g (nW oZ (st ((c5 b sh k (2*i+j)).foldl st hz) (bV b (eF b k (2*i+j)),om (2*i+j)))) (lV (st ((c5 b sh k (2*i+j)).foldl st hz) (bV b (eF b k (2*i+j)),om (2*i+j))))++nX oZ (st ((c5 b sh k (2*i+j)).foldl st hz) (bV b (eF b k (2*i+j)),om (2*i+j)))) (dm:=bI g (nW z ((c5 b sh k (2*i+j)).foldl st hz)) (lV ((c5 b sh k (2*i+j)).foldl st hz))++nX z ((c5 b sh k (2*i+j)).foldl st hz)) (L':=λoZ=>bI g (nW oZ ((c5 b sh k (2*i+(j+1))).foldl st hz)) (lV ((c5 b sh k (2*i+(j+1))).foldl st hz))++nX oZ ((c5 b sh k (2*i+(j+1))).foldl st hz)) is (λ_=>[]) (λw hw aH=>ko (2*i+j) z w cu aH) (λoZ=> ?_) (ha:=by exact congrArg (λl=>I (bV b (eF b k (2*i+j)):Nat)::I (om (2*i+j))::l) (jC _ _ (by rfl) (by rfl) (by rfl))) (hL:=λoZ=> ?_) (hp:=hp _ _) (hU:=hU _ _) (hl:=λoZ=>hle _ _)
      ·refine aN ?_
       exact h5 (u:=(j,z)) (j+1,oZ) U U (by show j+1<=2;omega) (by show 2-(j+1)<2-j;omega)
      ·rw[aiL,show 2*i+(j+1)=2*i+j+1 by omega,Pn ag hl cu hX hs,List.foldl_append]
       rfl
     ·have hs:¬sh.getD (bV b (eF b k (2*i+j))) default=true:=by rw[<-es (2*i+j)];rw[show _=false from hs];decide
      refine aN ?_;refine h5 (u:=(j,z)) (j+1,z) rfl ?_ (by show j+1<=2;omega) (by show 2-(j+1)<2-j;omega);dsimp only;rw[show 2*i+(j+1)=2*i+j+1 by omega,Po ag hl cu hX hs]
    ·refine ew (v:=I (-1)) (λw _=>by rw[<-AK hX];exact FK.any w b (eF b k (2*i+j)) ad) ?_
     refine aN ?_;refine bR rfl (λaJ=>absurd aJ ck) λaJ=> ?_
     refine aN ?_;refine h5 (u:=(j,z)) (j+1,z) rfl ?_ (by show j+1<=2;omega) (by show 2-(j+1)<2-j;omega);dsimp only;rw[show 2*i+(j+1)=2*i+j+1 by omega,Pp ag hl cu hX]
  ·refine aN ?_
   obtain rfl:j=2:=by omega
   exact h5 (u:=(i,PH)) (i+1,z) U U (by show i+1<=3;omega) (by show 3-(i+1)<3-i;omega)
 ·refine aN ?_
  obtain rfl:i=3:=by omega
  exact bx ⟨z,rfl,rfl⟩
end AP
end AE
end
end
section
noncomputable section
namespace AE
@[reducible] def AQ (e:bJ) (s:List au×List Nat×List bq):bJ:={e with u:={e.u with bz:=s.1,gone:=s.2.1,av:=s.2.2}}
theorem FN (x:au):∀(l:List (Nat×Int)) (e:bJ),l.foldl (λe p=>FM e x p.1 p.2) e=AQ e (lb e.table e.u.lit x.2 l (e.u.bz,e.u.gone,e.u.av))
 |[],_=>rfl
 |p::l,e=>by
  rw[List.foldl_cons,FN x l];rfl
theorem PJ (table:List cc) (lit:List Int) (old:bq):∀(l:List (Nat×Int)) (s:List au×List Nat×List bq),(lb table lit old l s).1.length<=s.1.length+l.length/\(lb table lit old l s).2.1.length<=s.2.1.length+l.length/\(lb table lit old l s).2.2.length=s.2.2.length
 |[],_=>⟨bL _,bL _,rfl⟩
 |p::l,s=>by
  obtain⟨q1,aB,b_⟩:=PJ table lit old l (nV table lit old s p);have cQ:(nV table lit old s p).1.length<=s.1.length+1:=Wv _ _ _;have dr:(nV table lit old s p).2.1.length<=s.2.1.length+1:=ah9 _ _ _;have fP:(nV table lit old s p).2.2.length=s.2.2.length:=ah' _ _ _;have e:lb table lit old (p::l) s=lb table lit old l (nV table lit old s p):=rfl;rw[e,List.length_cons];exact⟨aj,aj,b_.trans fP⟩
@[reducible] def JG (e:bJ) (s:List Nat×List Bool):bJ:={e with u:={e.u with bp:=s.1,waits:=s.2}}
theorem FO:∀(l:List (Nat×Int)) (e:bJ),l.foldl (λe p=>yN e p.1) e=JG e (q7 l (e.u.bp,e.u.waits))
 |[],_=>rfl
 |p::l,e=>by
  rw[List.foldl_cons,FO l];rfl
theorem WW:∀(l:List (Nat×Int)) (s:List Nat×List Bool),(q7 l s).1.length<=s.1.length+l.length/\(q7 l s).2.length=s.2.length
 |[],_=>⟨bL _,rfl⟩
 |p::l,s=>by
  obtain⟨q1,aB⟩:=WW l (lA s.1 s.2 p.1,mi s.2 p.1);have cQ:=U4 s.1 s.2 p.1;have dr:=IT s.2 p.1;have e:q7 (p::l) s=q7 l (lA s.1 s.2 p.1,mi s.2 p.1):=rfl;rw[e,List.length_cons];dsimp only at q1 aB;exact⟨aj,aB.trans dr⟩
theorem PK (b:bw) (sh:List Bool) (k j:Nat):(c5 b sh k j).length<=j:=by
 unfold c5 vz;exact Nat.le_trans (List.length_filter_le _ _) (NF _ _ _ _ _)
theorem PL (a b c:Nat):eJ [.pointer (some ⟨a,0,none⟩),.pointer (some ⟨b,0,none⟩),.pointer (some ⟨c,0,none⟩)]:=⟨rfl,rfl,rfl,trivial⟩
namespace WX
theorem bB:cZ bc 67 {iT:=[68],cells:=[(1039,1,0),(1039,1,1),(1039,1,2)],EY:=[(39,[])]} [0,1,.func (.func 68) ⟨[]⟩ ⟨[2,3]⟩] 5=some (AP.t 68 [2,3]):=dg az
theorem any {W:ao} {g dn nv:Nat} {A:dM} {e:bJ} {x:au} (aH:bY (aE W) (bD (bI g A e++[aw.box dn fj [bK g],aw.box nv r4 (kx x)]))) (k:Nat) (ad:okB e.b) (ag:k<e.u.bO.length) (hl:e.u.bO.length=(dv e.b).toNat) (iH:e.u.av.length=e.u.bO.length) (FP:e.u.lit.length=e.u.bO.length) (h1:e.u.bz.length<=200000) (ae:e.u.gone.length<=200000) (ah:w7 x.2) (cl:∀n,n<e.u.bO.length->1<=jY e n/\jY e n<=16):
  ey bc 67 [bK g,I (k:Nat),.func (.func 68) #[] ⟨[bK dn,bK nv]⟩] W (bI g A e++[aw.box dn fj [bK g],aw.box nv r4 (kx x)]) (cE×cE) (λ_=> .tuple #[]) λy=>bI g {A with o:=y.1,g:=y.2} (AQ e (lb e.table e.u.lit x.2 (c5 e.b e.u.bO k 6) (e.u.bz,e.u.gone,e.u.av)))++[aw.box dn fj [bK g],aw.box nv r4 (kx x)]:=by
 rw[<-FN];refine AP.any bB (c2:=bK dn) (c3:=bK nv) (mx:=bK dn) (k5:=[bK dn,bK nv]) (λenv n ae ar _=> ?_) (PL _ _ _) (λ_ _=>rfl) (λz (_:bJ)=>{A with o:=z.1,g:=z.2}) (λe=>e) (λ_ _=>[aw.box dn fj [bK g],aw.box nv r4 (kx x)]) [0,1,2,3,4,5,6,7,8,9,10,11,12,13] (λe p=>FM e x p.1 p.2) e ad ag hl (λn=>by rw[FN]) (λn=>by rw[FN]) (λn z w cu aH=> ?_) (λ_ _=>rfl) (λ_ _ _ _=>Fo (n:=14) U U) (λ_ _=>rfl) (λ_ _=>hQ rfl) (A.o,A.g) aH
 ·show [look env n 2,look env n 3]=_
  rw[ae,ar]
 ·have ak:=PK e.b e.u.bO k n
  have hp:=Fz (b:=e.b) ag hl (eF e.b k n);rw[FN] at aH ⊢;obtain⟨q1,aB,b_⟩:=PJ e.table e.u.lit x.2 (c5 e.b e.u.bO k n) (e.u.bz,e.u.gone,e.u.av);dsimp only at q1 aB b_;exact WV.any aH (bV e.b (eF e.b k n)) (om n) (by show _<(lb e.table e.u.lit x.2 (c5 e.b e.u.bO k n) (e.u.bz,e.u.gone,e.u.av)).2.2.length;rw[b_,iH];exact hp) (by show _<e.u.lit.length;rw[FP];exact hp) (by show (lb e.table e.u.lit x.2 (c5 e.b e.u.bO k n) (e.u.bz,e.u.gone,e.u.av)).1.length<=_;omega) (by show (lb e.table e.u.lit x.2 (c5 e.b e.u.bO k n) (e.u.bz,e.u.gone,e.u.av)).2.1.length<=_;omega) ah (cl _ hp)
end WX
namespace WY
theorem bB:cZ bc 67 {iT:=[74],cells:=[(1039,1,0),(1039,1,1),(1039,1,2)],EY:=[(39,[])]} [0,1,.func (.func 74) ⟨[]⟩ ⟨[2]⟩] 5=some (AP.t 74 [2]):=dg az
theorem any {W:ao} {g dn:Nat} {A:dM} {e:bJ} (aH:bY (aE W) (bD (bI g A e++[aw.box dn fj [bK g]]))) (k:Nat) (ad:okB e.b) (ag:k<e.u.bO.length) (hl:e.u.bO.length=(dv e.b).toNat) (hw:e.u.waits.length=e.u.bO.length) (h1:e.u.bp.length<=200000):
  ey bc 67 [bK g,I (k:Nat),.func (.func 74) #[] ⟨[bK dn]⟩] W (bI g A e++[aw.box dn fj [bK g]]) cE (λ_=> .tuple #[]) λy=>bI g {A with s:=y} (JG e (q7 (c5 e.b e.u.bO k 6) (e.u.bp,e.u.waits)))++[aw.box dn fj [bK g]]:=by
 rw[<-FO];refine AP.any bB (c2:=bK dn) (c3:=bK dn) (mx:=bK dn) (k5:=[bK dn]) (λenv n ae _ _=> ?_) (PL _ _ _) (λ_ _=>rfl) (λz (_:bJ)=>{A with s:=z}) (λe=>e) (λ_ _=>[aw.box dn fj [bK g]]) [0,1,2,3,4,5,6,7,8,9,10,11,12] (λe p=>yN e p.1) e ad ag hl (λn=>by rw[FO]) (λn=>by rw[FO]) (λn z w cu aH=> ?_) (λ_ _=>rfl) (λ_ _ _ _=>Fo (n:=13) U U) (λ_ _=>rfl) (λ_ _=>hQ rfl) A.s aH
 ·show [look env n 2]=_
  rw[ae]
 ·have ak:=PK e.b e.u.bO k n
  have hp:=Fz (b:=e.b) ag hl (eF e.b k n);rw[FO] at aH ⊢;obtain⟨q1,aB⟩:=WW (c5 e.b e.u.bO k n) (e.u.bp,e.u.waits);dsimp only at q1 aB;exact WT.any aH (bV e.b (eF e.b k n)) (om n) (by show _<(q7 (c5 e.b e.u.bO k n) (e.u.bp,e.u.waits)).2.length;rw[aB,hw];exact hp) (by show (q7 (c5 e.b e.u.bO k n) (e.u.bp,e.u.waits)).1.length<=_;omega)
end WY
end AE
end
end
section
noncomputable section
namespace AE
abbrev nY:aK:=3
def uy (F:Int) (out x:bq) (eR:Int) (i:Nat):bq:=pq λc=>if c<i then Wu F out x eR c else bF out c
theorem aiM {F:Int} {out x:bq} {eR:Int}:uy F out x eR 0=out:=bq.ext' λc ai=>by
 unfold uy;rw[hG ai,aG aj]
theorem aiN {F:Int} {out x:bq} {eR:Int}:uy F out x eR 4=AM F out x eR:=bq.ext' λc ai=>by
 unfold uy AM;rw[hG ai,hG ai,aI ai]
theorem aiO {F:Int} {out x:bq} {eR:Int} {i:Nat} (h:i<4):bF (uy F out x eR i) i=bF out i:=by
 unfold uy;rw[hG h,aG aj]
theorem aiP {F:Int} {out x:bq} {eR:Int} {i:Nat}:r3 (uy F out x eR i) i (max (bF out i) (given (bF x i) F i (decide (0<eR))))=uy F out x eR (i+1):=bq.ext' λc ai=>by
 unfold r3 uy;rw[hG ai,hG ai,hG ai];by_cases af:c=i
 ·subst af;rw[aI rfl,aI aj];rfl
 ·rw[aG af]
  by_cases hl:c<i
  ·rw[aI hl,aI aj]
  ·rw[aG hl,aG aj]
namespace WZ
def t:a7:=
.loop [I 0] 1<|
.o (.bin .lss 3 5 (I 4)) 6 1 []<|
.bb 6 (
 .o (.cm 85 2 5) 7 1 [1,4,3,1]<|
 .o (.bf 3 7) 8 1 [1]<|
 .o (.bf 34 3) 9 1 [1]<|
 .o (.dp 9) 10 1 []<|
 .o (.b7 76 10 5) 11 1 [17,51,1]<|
 .o (.bf 51 11) 12 1 [1]<|
 .o (.cm 51 12 0) 13 1 [0,85,4]<|
 .o (.cm 85 13 5) 14 1 [1,4,3,1]<|
 .o (.bf 3 14) 15 1 [1]<|
 .o (.bf 3 4) 16 1 [1]<|
 .o (.bin .gtr 3 1 (I 0)) 17 1 []<|
 .c 70 [15,16,5,17] 18 1<|
 .o (.dT #[3,3] 3 8 18) 19 1 []<|
 .st 3 7 19<|
 .o (.bin .add 3 5 (I 1)) 20 1 []<|
 .back [20]) (
 .c4<|
 .ret (.tuple ⟨[]⟩))
theorem bB:cZ Tryz.prog 109 {} [0,1,2,3,4] 5=some t:=dg az
theorem any {W:ao} {g go dn nZ:Nat} {A:dM} {e:bJ} {out:bq} {F:Int} (aH:bY (aE W) (bD (bI g A e++[aw.box go iA (ch out),aw.box dn fj [bK g],aw.box nZ nY [I F]]))) (k:Nat) (eR:Int) (ag:k<e.u.av.length) (ad:w7 (e.u.av.getD k default)) (cl:1<=F/\F<=16):
  ey bc 109 [I (k:Nat),I eR,bK go,bK dn,bK nZ] W (bI g A e++[aw.box go iA (ch out),aw.box dn fj [bK g],aw.box nZ nY [I F]]) Unit (λ_=> .tuple #[]) λ_=>bI g A e++[aw.box go iA (ch (AM F out (e.u.av.getD k default) eR)),aw.box dn fj [bK g],aw.box nZ nY [I F]]:=by
 refine g_ (ro:=[]) mixed bB [I (k:Nat),I eR,bK go,bK dn,bK nZ] aH dR.none ?_;unfold t;generalize mw:e.u.av.getD k default=c4 at ad ⊢;refine k_ Nat (λi=>[I (i:Nat)]) (λi=>bI g A e++[aw.box go iA (ch (uy F out c4 eR i)),aw.box dn fj [bK g],aw.box nZ nY [I F]]) (λi=>i<=4) (λi=>4-i) 0 rfl (by rw[aiM]) aj (λi af=> ?_);refine aN ?_;refine bR rfl (λbm=> ?_) λbm=> ?_
 ·have kS:i<4:=by omega
  refine aN ?_;refine kz (u:=I (bF out i)) rfl has (by rw[<-aiO (F:=F) (x:=c4) (eR:=eR) kS];exact vF kS) ?_;refine aN ?_;refine mM (K:=ez) (l:=e.u.av) (j:=k) (o:=0+i*1) (u:=I (bF c4 i)) rfl (by rw[<-mw];exact vF kS) ?_;refine aN ?_;refine ew (v:=I (given (bF c4 i) F i (decide (0<eR)))) (λw hw=>JB.any w (bF c4 i) F i (decide (0<eR)) (by have:=ad i kS;omega) (by have:=ad i kS;omega) aj aj) ?_;refine aN ?_;refine Wa (cs':=ch (uy F out c4 eR (i+1))) U U fK ?_ ?_ (by show 0+i*1<4;omega)
  ·rw[<-aiP]
   exact JD kS _
  refine aN ?_;exact h5 (i+1) U U aj aj
 ·refine aN ?_
  obtain rfl:i=4:=by omega
  refine bx ⟨(),rfl,?_⟩;rw[aiN]
end WZ
namespace PM
theorem bB:cZ bc 67 {iT:=[109],cells:=[(1039,1,0),(1039,1,1),(1039,1,2)],EY:=[(39,[])]} [0,1,.func (.func 109) ⟨[]⟩ ⟨[2,3,4]⟩] 5=some (AP.t 109 [2,3,4]):=dg az
theorem any {W:ao} {g go dn nZ:Nat} {A:dM} {e:bJ} {out:bq} {F:Int} (aH:bY (aE W) (bD (bI g A e++[aw.box go iA (ch out),aw.box dn fj [bK g],aw.box nZ nY [I F]]))) (k:Nat) (ad:okB e.b) (ag:k<e.u.bO.length) (hl:e.u.bO.length=(dv e.b).toNat) (iH:e.u.av.length=e.u.bO.length) (hL:∀n,n<e.u.bO.length->w7 (e.u.av.getD n default)) (cl:1<=F/\F<=16):
  ey bc 67 [bK g,I (k:Nat),.func (.func 109) #[] ⟨[bK go,bK dn,bK nZ]⟩] W (bI g A e++[aw.box go iA (ch out),aw.box dn fj [bK g],aw.box nZ nY [I F]]) Unit (λ_=> .tuple #[]) λ_=>bI g A e++[aw.box go iA (ch (q8 F e.u.av (c5 e.b e.u.bO k 6) out)),aw.box dn fj [bK g],aw.box nZ nY [I F]]:=by
 refine AP.any bB (c2:=bK go) (c3:=bK dn) (mx:=bK nZ) (k5:=[bK go,bK dn,bK nZ]) (λenv n ae ar bm=> ?_) (PL _ _ _) (λ_ _=>rfl) (λ(_:Unit) (_:bq)=>A) (λ_=>e) (λ_ o=>[aw.box go iA (ch o),aw.box dn fj [bK g],aw.box nZ nY [I F]]) [0,1,2,3,4,5,6,7,8,9,10,11,12,13,14] (λo p=>AM F o (e.u.av.getD p.1 default) p.2) out ad ag hl (λn=>rfl) (λn=>rfl) (λn z w cu aH=> ?_) (λ_ _=>rfl) (λ_ _ _ _=>Fo (n:=15) U U) (λ_ _=>rfl) (λ_ _=>hQ rfl) () aH
 ·show [look env n 2,look env n 3,look env n 4]=_
  rw[ae,ar,bm]
 ·have hp:=Fz (b:=e.b) ag hl (eF e.b k n)
  exact WZ.any aH (bV e.b (eF e.b k n)) (om n) (by rw[iH];exact hp) (hL _ hp) cl
end PM
namespace W0
def t:a7:=
.nn 34 0<|
.mJ 85<|
.mJ 85<|
.o (.bf 34 2) 5 1 [1]<|
.o (.dp 5) 6 1 []<|
.o (.b7 76 6 3) 7 1 [15,30,1]<|
.o (.bf 30 7) 8 1 [1]<|
.o (.cm 30 8 1) 9 1 [0,4,1]<|
.o (.bf 4 9) 10 1 [1]<|
.o (.un .not 10) 11 1 []<|
.bb 11 (
 .o (.bf 85 4) (.agg ⟨fC 4 12⟩) 4 [4]<|
 .st 85 3 (.agg ⟨[12,13,14,15]⟩)<|
 .nO 85 3) (
 .o (.bf 34 2) 12 1 [1]<|
 .o (.dp 12) 13 1 []<|
 .o (.b7 76 13 4) 14 1 [16,29,1]<|
 .o (.bf 29 14) 15 1 [1]<|
 .o (.b7 76 13 1) 16 1 [7,28,7]<|
 .o (.b7 28 16 1) 17 1 [6,26,1]<|
 .o (.bf 26 17) 18 1 [1]<|
 .o (.cm 26 18 1) 19 1 [0,3,1]<|
 .o (.bf 3 19) 20 1 [1]<|
 .c 108 [15,20] (.agg ⟨[21,22,23]⟩) 3<|
 .o (.k3 85 4 none none none) 24 1 [1,4,3,1]<|
 .qO 26 24 [21,22,23]<|
 .o (.bf 34 2) 25 1 [1]<|
 .call 69 [25,1] 26 1<|
 .mJ 3<|
 .st 3 27 26<|
 .o (.bf 34 2) 28 1 [1]<|
 .o (.dp 28) 29 1 []<|
 .o (.b7 76 29 1) 30 1 [7,28,7]<|
 .o (.b7 28 30 0) 31 1 [0,25,6]<|
 .o (.bf 25 31) (.agg ⟨fC 6 32⟩) 6 [6]<|
 .c 105 [.agg ⟨[32,33,34,35,36,37]⟩,1] (.tuple ⟨[.agg ⟨[38,39,40]⟩,41]⟩) 4<|
 .o (.b7 25 31 1) 42 1 [3,23,3]<|
 .o (.b7 23 42 2) 43 1 [2,3,1]<|
 .o (.bf 3 43) 44 1 [1]<|
 .o (.bin .sub 3 44 (I 1)) 45 1 []<|
 .o (.bin .eql 3 40 45) 46 1 []<|
 .bb 46 (
  .o (.bf 3 27) 47 1 [1]<|
  .c 70 [I 15,47,I 3,.bool true] 48 1<|
  .o (.cm 85 4 (I 3)) 49 1 [1,4,3,1]<|
  .st 3 49 48<|
  .o (.bf 34 2) 50 1 [1]<|
  .call 67 [50,1,.func (.func 109) ⟨[]⟩ ⟨[4,2,27]⟩] (.tuple ⟨[]⟩) 0<|
  .o (.bf 85 4) (.agg ⟨fC 4 51⟩) 4 [4]<|
  .st 85 3 (.agg ⟨[51,52,53,54]⟩)<|
  .nO 85 3) (
  .o (.bf 34 2) 47 1 [1]<|
  .call 67 [47,1,.func (.func 109) ⟨[]⟩ ⟨[4,2,27]⟩] (.tuple ⟨[]⟩) 0<|
  .o (.bf 85 4) (.agg ⟨fC 4 48⟩) 4 [4]<|
  .st 85 3 (.agg ⟨[48,49,50,51]⟩)<|
  .nO 85 3))
theorem bB:cZ Tryz.prog 73 {iT:=[67,69],marks:=[34,85,3]} [0,1] 2=some t:=dg az
theorem any {W:ao} {g:Nat} {A:dM} {e:bJ} (aH:bY (aE W) (bD (bI g A e))) (k:Nat) (ad:okB e.b) (ag:k<e.u.bO.length) (hl:e.u.bO.length=(dv e.b).toNat) (iH:e.u.av.length=e.u.bO.length) (FP:e.u.lit.length=e.u.bO.length) (hL:∀n,n<e.u.bO.length->w7 (e.u.av.getD n default)) (cl:1<=jY e k/\jY e k<=16):
  ey bc 73 [bK g,I (k:Nat)] W (bI g A e) Unit (λ_=> .agg ⟨ch (r1 e.table e.u.lit e.u.av e.u.bO e.b k)⟩) λ_=>bI g A e:=by
 have ax:0<=((k:Nat):Int)/\((k:Nat):Int)<dv e.b:=Pj ag hl;have r2:=CE ad (k:Nat);have mH:k<e.u.lit.length:=by omega
 refine g_ (ro:=[]) mixed bB [bK g,I (k:Nat)] aH dR.none ?_;unfold t;refine vr (cs:=[bK g]) U U (λb=>iy) λdn=> ?_
 refine uq (z:= .agg ⟨ch z4⟩) (ch z4) az rfl (λb=>iy) λgr=> ?_
 refine uq (z:= .agg ⟨ch z4⟩) (ch z4) az rfl (λb=>iy) λgo=> ?_
 refine aN ?_;refine um rfl (λmy=> ?_) λmy=> ?_
 ·have hs:¬e.u.bO.getD k default=true:=by simpa using my
  refine mN (c:=ch z4) rfl has U U fL ?_;refine sT (m:=4) (us:=ch z4) (cs':=ch z4) U U fK rfl ?_;refine AF (L':=bI g A e) rfl has (λM aV=>aV.pre) ⟨(),?_,rfl⟩;rw[ah_ hs]
 ·have hs:e.u.bO.getD k default=true:=by simpa using my
  refine aN ?_;refine jV [I (dh (dk e.table (e.u.lit.getD k default)) 0),I (dh (dk e.table (e.u.lit.getD k default)) 1),I (dh (dk e.table (e.u.lit.getD k default)) 2)] (λw hw=>WS.any w ((fU.arr (K:=gg) (l:=e.table) has).at hw) _) rfl ?_;refine ahT rfl ?_;refine ahL (e:=nY) (us:=[I (dh (dk e.table (e.u.lit.getD k default)) 0),I (dh (dk e.table (e.u.lit.getD k default)) 1),I (dh (dk e.table (e.u.lit.getD k default)) 2)]) (cs':=ch (dh (dk e.table (e.u.lit.getD k default)) 0,dh (dk e.table (e.u.lit.getD k default)) 1,dh (dk e.table (e.u.lit.getD k default)) 2,0)) U U fK rfl ?_;refine aN ?_;refine pE (dm:=bI g A e) (λ_=>[I (jY e k)]) (λw hw aH=>PE.any aH k mH) (λ_=> ?_);refine uq (z:=I 0) [I 0] az rfl (λb=>iy) λnZ=> ?_
  refine pD U U fK pC ?_;refine aN ?_;refine mN (c:=lB e.b) rfl has U U fL ?_;refine jV [I (dH e.b (k:Nat)).1,I (dH e.b (k:Nat)).2.1,I (dH e.b (k:Nat)).2.2,.bool (decide (0<=((k:Nat):Int)/\((k:Nat):Int)<dv e.b))] (λw _=>Pz.any w e.b (k:Nat) ad) rfl ?_;unfold okB at ad;refine aN ?_;have ad:okB e.b:=ad;refine bR rfl (λaF=> ?_) λaF=> ?_
  ·refine aN ?_
   refine ew (v:=I (given 15 (jY e k) 3 true)) (λw hw=>JB.any w 15 (jY e k) 3 true ck ck aj aj) ?_;refine pB (j:=3) U U ?_;refine aN ?_;refine kA (dm:=bI g A e++[aw.box go iA (ch (dh (dk e.table (e.u.lit.getD k default)) 0,dh (dk e.table (e.u.lit.getD k default)) 1,dh (dk e.table (e.u.lit.getD k default)) 2,given 15 (jY e k) 3 true)),aw.box dn fj [bK g],aw.box nZ nY [I (jY e k)]]) (L':=λ_=>bI g A e++[aw.box dn fj [bK g],aw.box gr iA (ch z4),aw.box go iA (ch (q8 (jY e k) e.u.av (c5 e.b e.u.bO k 6) (dh (dk e.table (e.u.lit.getD k default)) 0,dh (dk e.table (e.u.lit.getD k default)) 1,dh (dk e.table (e.u.lit.getD k default)) 2,given 15 (jY e k) 3 true))),aw.box nZ nY [I (jY e k)]]) [0,1,2,3,4,5,6,7,8,9,10,11,14,12,15] (λ_=>[]) (λw hw aH=>PM.any aH k ad ag hl iH hL cl) (λ_=> ?_);refine mN (c:=ch (q8 (jY e k) e.u.av (c5 e.b e.u.bO k 6) (dh (dk e.table (e.u.lit.getD k default)) 0,dh (dk e.table (e.u.lit.getD k default)) 1,dh (dk e.table (e.u.lit.getD k default)) 2,given 15 (jY e k) 3 true))) rfl has U U fL ?_;refine sT (m:=4) (us:=ch (q8 (jY e k) e.u.av (c5 e.b e.u.bO k 6) (dh (dk e.table (e.u.lit.getD k default)) 0,dh (dk e.table (e.u.lit.getD k default)) 1,dh (dk e.table (e.u.lit.getD k default)) 2,given 15 (jY e k) 3 true))) (cs':=ch (q8 (jY e k) e.u.av (c5 e.b e.u.bO k 6) (dh (dk e.table (e.u.lit.getD k default)) 0,dh (dk e.table (e.u.lit.getD k default)) 1,dh (dk e.table (e.u.lit.getD k default)) 2,given 15 (jY e k) 3 true))) U U fK rfl ?_;refine AF (L':=bI g A e) rfl has (λM aV=>aV.pre) ⟨(),?_,rfl⟩;rw[aia hs aF]
  ·refine aN ?_
   refine kA (dm:=bI g A e++[aw.box go iA (ch (dh (dk e.table (e.u.lit.getD k default)) 0,dh (dk e.table (e.u.lit.getD k default)) 1,dh (dk e.table (e.u.lit.getD k default)) 2,0)),aw.box dn fj [bK g],aw.box nZ nY [I (jY e k)]]) (L':=λ_=>bI g A e++[aw.box dn fj [bK g],aw.box gr iA (ch z4),aw.box go iA (ch (q8 (jY e k) e.u.av (c5 e.b e.u.bO k 6) (dh (dk e.table (e.u.lit.getD k default)) 0,dh (dk e.table (e.u.lit.getD k default)) 1,dh (dk e.table (e.u.lit.getD k default)) 2,0))),aw.box nZ nY [I (jY e k)]]) [0,1,2,3,4,5,6,7,8,9,10,11,14,12,15] (λ_=>[]) (λw hw aH=>PM.any aH k ad ag hl iH hL cl) (λ_=> ?_);refine mN (c:=ch (q8 (jY e k) e.u.av (c5 e.b e.u.bO k 6) (dh (dk e.table (e.u.lit.getD k default)) 0,dh (dk e.table (e.u.lit.getD k default)) 1,dh (dk e.table (e.u.lit.getD k default)) 2,0))) rfl has U U fL ?_;refine sT (m:=4) (us:=ch (q8 (jY e k) e.u.av (c5 e.b e.u.bO k 6) (dh (dk e.table (e.u.lit.getD k default)) 0,dh (dk e.table (e.u.lit.getD k default)) 1,dh (dk e.table (e.u.lit.getD k default)) 2,0))) (cs':=ch (q8 (jY e k) e.u.av (c5 e.b e.u.bO k 6) (dh (dk e.table (e.u.lit.getD k default)) 0,dh (dk e.table (e.u.lit.getD k default)) 1,dh (dk e.table (e.u.lit.getD k default)) 2,0))) U U fK rfl ?_;refine AF (L':=bI g A e) rfl has (λM aV=>aV.pre) ⟨(),?_,rfl⟩;rw[aib hs aF]
end W0
end AE
end
end
namespace AE
@[reducible] def hN (b:bw) (v:J):J:= .agg ⟨[.int .i64 b.1,.int .i64 b.2.1,.int .i64 b.2.2.1,.int .i64 b.2.2.2.1,.int .i64 b.2.2.2.2.1,.int .i64 b.2.2.2.2.2,v]⟩
theorem W1 {α:Type} {P:aQ} {f:FuncId} {args:Array J} {w:ao} {e:aK} {k:Nat} {enc:α->List J} {l:List α} {L:List b4} {F:J->J} (hs:bY (aE w) L)
  (h:Calls P f args w λe' w'=>(∃a c,e'= .returned (F (.slice a l.length c))/\dt w.heap.size (aE w') e k enc (.slice a l.length c) l)/\cA w.heap.size w w'):
  Calls P f args w λe' w'=>(∃y:Option Addr×Nat,e'= .returned (F (.slice y.1 l.length y.2))/\ef (aE w) L (aE w') (L++[jt e k enc (.slice y.1 l.length y.2) l]))/\cA 0 w w':=
 h.mono λe' w' he=>by
   obtain⟨⟨a,c,rfl,cj⟩,hl⟩:=he;have t:ef (aE w) [] (aE w') [jt e k enc (.slice a l.length c) l]:=⟨bY.one (p7 cj),λi o af _=>by
    rw[show aE w' i=aE w i from hl.block i (Array.getElem?_eq_some_iff.1 af).1]
    exact af,λb ad=> .inr (Array.getElem?_eq_none_iff.2 (cj.known b (lU.1 ad)).2)⟩
   exact⟨⟨(a,c),rfl,(hs.own.new t).IU⟩,hl.zero⟩
theorem JH {α:Type} (M:Mem) (e:aK) (k:Nat) (enc:α->List J):ef M [] M [jt e k enc (.slice none 0 0) []]:=
 ⟨bY.one (p7 (dt.nil 0 M e k enc none)),λ_ _ h _=>h,λb ad=>by
   have:some b=ek (.slice none 0 0):=lU.1 ad
   cases this⟩
theorem PN {α:Type} (M:Mem) (e:aK) (k:Nat) (enc:α->List J):ef M [] M [oT e k enc (.slice none 0 0) []]:=
 ⟨bY.one (Ue (dt.nil 0 M e k enc none).queue),λ_ _ h _=>h,λb ad=>by
   have:some b=ek (.slice none 0 0):=lU.1 ad
   cases this⟩
end AE
section
noncomputable section
namespace AE
theorem PO {x:bq} (h:0<=x.1/\x.1<=15/\0<=x.2.1/\x.2.1<=15/\0<=x.2.2.1/\x.2.2.1<=15/\0<=x.2.2.2/\x.2.2.2<=15):w7 x:=λc ai=>by
 obtain⟨aJ,h1,ae,ar,bm,cg,cu,e_⟩:=h
 match c,ai with
 |0,_=>exact⟨aJ,h1⟩
 |1,_=>exact⟨ae,ar⟩
 |2,_=>exact⟨bm,cg⟩
 |3,_=>exact⟨cu,e_⟩
theorem W2 {N O:bq} {i:Nat} (h:i<4):bF (kg i N O) i=bF O i:=by
 unfold kg;rw[hG h,aG aj]
theorem W3 {N O:bq} {i:Nat}:r3 (kg i N O) i (max (bF N i) (bF O i))=kg (i+1) N O:=bq.ext' λc ai=>by
 unfold r3 kg;rw[hG ai,hG ai,hG ai];by_cases af:c=i
 ·subst af;rw[aI rfl,aI aj]
 ·rw[aG af]
  by_cases hl:c<i
  ·rw[aI hl,aI aj]
  ·rw[aG hl,aG aj]
theorem W4 {N O:bq} {i:Nat} (h:i<4):ux (i+1) N O=(ux i N O||decide (bF O i<bF N i)):=by
 match i,h with
 |0,_=>simp [ux,bF]
 |1,_=>simp [ux,bF]
 |2,_=>simp [ux,bF]
 |3,_=>simp [ux,bF]
theorem W5:∀(l:List Nat) (s:List Nat×List Bool),(l2 l s).1.length<=s.1.length+l.length/\(l2 l s).2.length=s.2.length
 |[],_=>⟨bL _,rfl⟩
 |k::l,s=>by
  obtain⟨q1,aB⟩:=W5 l (lA s.1 s.2 k,mi s.2 k);have cQ:=U4 s.1 s.2 k;have dr:=IT s.2 k;have e:l2 (k::l) s=l2 l (lA s.1 s.2 k,mi s.2 k):=rfl;rw[e,List.length_cons];dsimp only at q1 aB;exact⟨aj,aB.trans dr⟩
theorem aiQ {B:Nat} {ep:Mem} {au:List b4} {M:Mem} {L L':List (aw bc)} (d:Nat) {K:gE bc} {r:aw bc} (hP:nq L d r (.arr K (.slice none 0 0) []) L') (h:b6 B ep au M (bD L)):b6 B ep au M (bD L'):=by
 obtain⟨af,rfl⟩:=hP.get;rw[sS];have t:=JH M K.e K.k K.enc;refine h.mG d (kf af) ⟨t.sp,λi o af _=>af,λb ad=> ?_⟩;rcases t.fresh b ad with h1|h1
 ·exact absurd h1 (Af b)
 ·exact .inr h1
namespace JI
def t:a7:=
.o (.dp 0) 1 1 []<|
.o (.b7 72 1 0) 2 1 [0,70,1]<|
.o (.bf 70 2) 3 1 [1]<|
.o (.len #[70] 3 3) 4 1 [0,87]<|
.o (.bin .eql 3 4 (I 0)) 5 1 []<|
.ret 5
theorem bB:cZ Tryz.prog 39 {} [0] 1=some t:=dg az
theorem any {W:ao} {g:Nat} {A:dM} {e:bJ} (aH:bY (aE W) (bD (bI g A e))):ey bc 39 [.pointer (some ⟨g,20,none⟩)] W (bI g A e) Unit (λ_=> .bool (decide (((e.u.bz.length:Nat):Int)=0))) λ_=>bI g A e:=by
 refine g_ (ro:=[]) mixed bB [.pointer (some ⟨g,20,none⟩)] aH dR.none ?_;unfold t;refine aN ?_;exact bx ⟨(),rfl,rfl⟩
end JI
namespace PQ
def t:a7:=
.o (.dp 0) 1 1 []<|
.o (.b7 74 1 0) 2 1 [0,26,1]<|
.o (.bf 26 2) 3 1 [1]<|
.o (.len #[26] 3 3) 4 1 [0,3]<|
.o (.bin .eql 3 4 (I 0)) 5 1 []<|
.ret 5
theorem bB:cZ Tryz.prog 40 {} [0] 1=some t:=dg az
theorem any {W:ao} {g:Nat} {A:dM} {e:bJ} (aH:bY (aE W) (bD (bI g A e))):ey bc 40 [.pointer (some ⟨g,22,none⟩)] W (bI g A e) Unit (λ_=> .bool (decide (((e.u.bp.length:Nat):Int)=0))) λ_=>bI g A e:=by
 refine g_ (ro:=[]) mixed bB [.pointer (some ⟨g,22,none⟩)] aH dR.none ?_;unfold t;refine aN ?_;exact bx ⟨(),rfl,rfl⟩
end PQ
namespace PR
def t:a7:=
.o (.dp 0) 1 1 []<|
.o (.b7 69 1 0) 2 1 [0,67,1]<|
.o (.bf 67 2) 3 1 [1]<|
.o (.len #[67] 3 3) 4 1 [0,89]<|
.o (.bin .eql 3 4 (I 0)) 5 1 []<|
.ret 5
theorem bB:cZ Tryz.prog 41 {} [0] 1=some t:=dg az
theorem any {W:ao} {g:Nat} {A:dM} {e:bJ} (aH:bY (aE W) (bD (bI g A e))):ey bc 41 [.pointer (some ⟨g,19,none⟩)] W (bI g A e) Unit (λ_=> .bool (decide (((e.u.reqs.length:Nat):Int)=0))) λ_=>bI g A e:=by
 refine g_ (ro:=[]) mixed bB [.pointer (some ⟨g,19,none⟩)] aH dR.none ?_;unfold t;refine aN ?_;exact bx ⟨(),rfl,rfl⟩
end PR
end AE
end
end
section
noncomputable section
namespace AE
@[reducible] def s3 (e:bJ):bJ:={e with u:=(gq e.table e.b e.u).2}
namespace W6
def t:a7:=
.nn 34 0<|
.o (.bf 34 1) 2 1 [1]<|
.o (.dp 2) 3 1 []<|
.o (.b7 76 3 8) 4 1 [20,72,1]<|
.call 39 [4] 5 1<|
.o (.un .not 5) 6 1 []<|
.bb 6 (
 .o (.bf 34 1) 7 1 [1]<|
 .o (.dp 7) 8 1 []<|
 .o (.b7 76 8 8) 9 1 [20,72,1]<|
 .call 66 [9] (.agg ⟨[10,11,12,13,14]⟩) 5<|
 .mJ 87<|
 .st 87 15 (.agg ⟨[10,11,12,13,14]⟩)<|
 .o (.bf 34 1) 16 1 [1]<|
 .o (.b7 87 15 0) 17 1 [0,3,1]<|
 .o (.bf 3 17) 18 1 [1]<|
 .call 67 [16,18,.func (.func 68) ⟨[]⟩ ⟨[1,15]⟩] (.tuple ⟨[]⟩) 0<|
 .o (.bf 34 1) 19 1 [1]<|
 .o (.dp 19) 20 1 []<|
 .o (.b7 76 20 8) 21 1 [20,72,1]<|
 .call 39 [21] 22 1<|
 .bb 22 (
  .o (.bf 34 1) 23 1 [1]<|
  .o (.dp 23) 24 1 []<|
  .o (.b7 76 24 9) 25 1 [21,26,1]<|
  .o (.bf 26 25) 26 1 [1]<|
  .o (.len #[26] 3 26) 27 1 [0,3]<|
  .loop [I 0] 1<|
  .o (.bin .lss 3 28 27) 29 1 []<|
  .bb 29 (
   .o (.cm 26 26 28) 30 1 [0,3,1]<|
   .o (.bf 3 30) 31 1 [1]<|
   .o (.bf 34 1) 32 1 [1]<|
   .call 32 [32,31] (.tuple ⟨[]⟩) 0<|
   .o (.bin .add 3 28 (I 1)) 33 1 []<|
   .back [33]) (
   .c4<|
   .o (.bf 34 1) 30 1 [1]<|
   .o (.dp 30) 31 1 []<|
   .o (.b7 76 31 9) 32 1 [21,26,1]<|
   .st 26 32 (.slice none 0 0)<|
   .ret (.bool true))) (
  .ret (.bool true))) (
 .o (.bf 34 1) 7 1 [1]<|
 .o (.dp 7) 8 1 []<|
 .o (.b7 76 8 10) 9 1 [22,74,1]<|
 .call 40 [9] 10 1<|
 .o (.un .not 10) 11 1 []<|
 .bb 11 (
  .o (.bf 34 1) 12 1 [1]<|
  .o (.dp 12) 13 1 []<|
  .o (.b7 76 13 10) 14 1 [22,74,1]<|
  .call 72 [14] 15 1<|
  .o (.bf 34 1) 16 1 [1]<|
  .o (.dp 16) 17 1 []<|
  .o (.b7 76 17 11) 18 1 [23,30,1]<|
  .o (.bf 30 18) 19 1 [1]<|
  .o (.cm 30 19 15) 20 1 [0,4,1]<|
  .st 4 20 (.bool false)<|
  .o (.bf 34 1) 21 1 [1]<|
  .call 73 [21,15] (.agg ⟨[22,23,24,25]⟩) 4<|
  .mJ 85<|
  .st 85 26 (.agg ⟨[22,23,24,25]⟩)<|
  .loop [I 0,.bool false] 2<|
  .o (.bin .lss 3 27 (I 4)) 29 1 []<|
  .bb 29 (
   .bb 28 (
    .o (.bf 34 1) 30 1 [1]<|
    .o (.dp 30) 31 1 []<|
    .o (.b7 76 31 5) 32 1 [17,51,1]<|
    .o (.bf 51 32) 33 1 [1]<|
    .o (.cm 85 26 27) 34 1 [1,4,3,1]<|
    .o (.bf 3 34) 35 1 [1]<|
    .o (.cm 51 33 15) 36 1 [0,85,4]<|
    .o (.cm 85 36 27) 37 1 [1,4,3,1]<|
    .o (.bf 3 37) 38 1 [1]<|
    .o (.dT #[3,3] 3 35 38) 39 1 []<|
    .st 3 37 39<|
    .o (.bin .add 3 27 (I 1)) 40 1 []<|
    .back [40,.bool true]) (
    .o (.cm 85 26 27) 30 1 [1,4,3,1]<|
    .o (.bf 3 30) 31 1 [1]<|
    .o (.bf 34 1) 32 1 [1]<|
    .o (.dp 32) 33 1 []<|
    .o (.b7 76 33 5) 34 1 [17,51,1]<|
    .o (.bf 51 34) 35 1 [1]<|
    .o (.cm 51 35 15) 36 1 [0,85,4]<|
    .o (.cm 85 36 27) 37 1 [1,4,3,1]<|
    .o (.bf 3 37) 38 1 [1]<|
    .o (.bin .gtr 3 31 38) 39 1 []<|
    .o (.dT #[3,3] 3 31 38) 40 1 []<|
    .st 3 37 40<|
    .o (.bin .add 3 27 (I 1)) 41 1 []<|
    .back [41,39])) (
   .c4<|
   .bb 28 (
    .o (.bf 34 1) 30 1 [1]<|
    .call 67 [30,15,.func (.func 74) ⟨[]⟩ ⟨[1]⟩] (.tuple ⟨[]⟩) 0<|
    .ret (.bool true)) (
    .ret (.bool true)))) (
  .o (.bf 34 1) 12 1 [1]<|
  .o (.dp 12) 13 1 []<|
  .o (.b7 76 13 7) 14 1 [19,69,1]<|
  .call 41 [14] 15 1<|
  .o (.un .not 15) 16 1 []<|
  .bb 16 (
   .o (.bf 34 1) 17 1 [1]<|
   .o (.dp 17) 18 1 []<|
   .o (.b7 76 18 7) 19 1 [19,69,1]<|
   .call 75 [19] (.agg ⟨[20,21,22]⟩) 3<|
   .o (.bf 34 1) 23 1 [1]<|
   .o (.dp 23) 24 1 []<|
   .o (.b7 76 24 5) 25 1 [17,51,1]<|
   .o (.bf 51 25) 26 1 [1]<|
   .o (.cm 51 26 20) 27 1 [0,85,4]<|
   .o (.bf 85 27) (.agg ⟨fC 4 28⟩) 4 [4]<|
   .call 71 [23,20,.agg ⟨[28,29,30,31]⟩] (.tuple ⟨[]⟩) 0<|
   .o (.bf 34 1) 32 1 [1]<|
   .o (.dp 32) 33 1 []<|
   .o (.b7 76 33 1) 34 1 [7,28,7]<|
   .o (.b7 28 34 1) 35 1 [6,26,1]<|
   .o (.bf 26 35) 36 1 [1]<|
   .o (.b7 76 33 3) 37 1 [15,30,1]<|
   .o (.bf 30 37) 38 1 [1]<|
   .o (.cm 26 36 20) 39 1 [0,3,1]<|
   .o (.cm 30 38 20) 40 1 [0,4,1]<|
   .st 3 39 21<|
   .o (.cm 30 38 20) 41 1 [0,4,1]<|
   .st 4 41 22<|
   .ret (.bool true)) (
   .ret (.bool false))))
theorem bB:cZ Tryz.prog 42 {iT:=[66,72,75,39,40,41,67,73,32,71],marks:=[34,85,87]} [0] 1=some t:=dg az
theorem any {W:ao} {g:Nat} {A:dM} {e:bJ} (aH:bY (aE W) (bD (bI g A e))) (G:fw e.table e.b e.u):
  ey bc 42 [bK g] W (bI g A e) dM (λ_=> .bool (gq e.table e.b e.u).1) λaS=>bI g aS (s3 e):=by
 have ad:=G.box;have hl:=G.len;have iH:=G.Jz;have FP:=G.FH;have hw:=G.ait;have h1:=G.cp;have ae:=G.c2;have ar:=G.c3;have hL:∀n,n<e.u.bO.length->w7 (e.u.av.getD n default):=λn ak=>PO (G.li n ak)
 refine g_ (ro:=[]) mixed bB [bK g] aH dR.none ?_;unfold t;refine vr (cs:=[bK g]) U U (λb=>iy) λdn=> ?_
 refine aN ?_;refine pE (dm:=bI g A e) (λ_=>[.bool (decide (((e.u.bz.length:Nat):Int)=0))]) (λw _ aH=>JI.any aH) λ_=> ?_
 refine aN ?_;refine i_ rfl (λak=> ?_) λak=> ?_
 ·have q2:0<e.u.bz.length:=by omega
  have W7:=G.gj _ (by rw[c_,fy q2];exact List.getElem_mem q2:e.u.bz.getD 0 default∈e.u.bz);refine aN ?_;refine pE (dm:=bI g A e) (λ_=>kx (e.u.bz.getD 0 default)) (λw _ aH=>WL.any aH q2) λy=> ?_
  generalize ah:e.u.bz.getD 0 default=x at W7 ⊢;obtain⟨qR,hF⟩:=W7;refine uq (z:= .agg ⟨kx (0,z4)⟩) (kx (0,z4)) az rfl (λb=>iy) λnv=> ?_
  refine sT (m:=5) (us:=kx x) (cs':=kx x) U U fK rfl ?_;refine aN ?_;generalize hs:lb e.table e.u.lit x.2 (c5 e.b e.u.bO x.1 6) (e.u.bz.drop 1,e.u.gone,e.u.av)=s;have KS:(e.u.bz.drop 1).length<=e.u.bz.length:=by rw[List.length_drop];omega
  have gC:=PJ e.table e.u.lit x.2 (c5 e.b e.u.bO x.1 6) (e.u.bz.drop 1,e.u.gone,e.u.av);have JF:=aii (b:=e.b) (sh:=e.u.bO) (k:=x.1) (table:=e.table) (lit:=e.u.lit) (old:=x.2) (s:=(e.u.bz.drop 1,e.u.gone,e.u.av)) G.go;rw[hs] at gC JF;have hB:=PK e.b e.u.bO x.1 6;have dd:(gq e.table e.b e.u)=(true,if s.1.length=0 then {e.u with bz:=s.1,gone:=[],av:=s.2.2,bp:=(l2 s.2.1 (e.u.bp,e.u.waits)).1,waits:=(l2 s.2.1 (e.u.bp,e.u.waits)).2} else {e.u with bz:=s.1,gone:=s.2.1,av:=s.2.2}):=by
   rw[FB q2];unfold w5 vB;rw[ah,hs]
  unfold s3;rw[dd];refine kA (dm:=bI g {A with o:=y} {e with u:={e.u with bz:=e.u.bz.drop 1}}++[aw.box dn fj [bK g],aw.box nv r4 (kx x)]) (L':=λ(z:cE×cE)=>bI g {A with o:=z.1,g:=z.2} (AQ e s)++[aw.box dn fj [bK g],aw.box nv r4 (kx x)]) (N:=λ(z:cE×cE)=>bI g {A with o:=z.1,g:=z.2} (AQ e s)++[aw.box dn fj [bK g],aw.box nv r4 (kx x)]) [0,1,2,3,4,5,6,7,8,9,10,11,12,13] (λ_=>[]) (λw _ aH=> ?_) (λz=> ?_) (hL:=λz=>Fo (n:=14) U U)
  ·have:=WX.any (e:={e with u:={e.u with bz:=e.u.bz.drop 1}}) aH x.1 ad qR hl iH FP (by show (e.u.bz.drop 1).length<=_;omega) (by show e.u.gone.length<=_;omega) (PO hF) G.b7
   rw[hs] at this;exact this
  ·refine aN ?_
   refine pE (dm:=bI g {A with o:=z.1,g:=z.2} (AQ e s)) (λ_=>[.bool (decide (((s.1.length:Nat):Int)=0))]) (λw _ aH=>JI.any aH) λ_=> ?_
   refine bR rfl (λbu=> ?_) λbu=> ?_
   ·have bu:s.1.length=0:=by omega
    rw[aI bu];refine aN ?_;refine k_ (Nat×cE) (λu=>[I (u.1:Nat)]) (λu=>bI g {A with o:=z.1,g:=z.2,s:=u.2} (JG (AQ e s) (l2 (s.2.1.take u.1) (e.u.bp,e.u.waits)))++[aw.box dn fj [bK g],aw.box nv r4 (kx x)]) (λu=>u.1<=s.2.1.length) (λu=>s.2.1.length-u.1) (0,A.s) U U (Nat.zero_le _) (λu hu=> ?_);obtain⟨i,a⟩:=u;have hu:i<=s.2.1.length:=hu;dsimp only;obtain⟨cQ,dr⟩:=W5 (s.2.1.take i) (e.u.bp,e.u.waits);have fP:(s.2.1.take i).length<=s.2.1.length:=by rw[List.length_take];omega
    have tj:s.2.1.length<=e.u.gone.length+6:=JF.2;dsimp only at cQ dr;refine aN ?_;refine bR rfl (λaf=> ?_) λaf=> ?_
    ·have af:i<s.2.1.length:=by omega
     have ag:=JF.1 i af;refine aN ?_;refine pE (dm:=bI g {A with o:=z.1,g:=z.2,s:=a} (JG (AQ e s) (l2 (s.2.1.take i) (e.u.bp,e.u.waits)))) (λ_=>[]) (λw _ aH=>PC.any aH (s.2.1.getD i default) (by show _<(l2 (s.2.1.take i) (e.u.bp,e.u.waits)).2.length;rw[dr,hw];exact ag) (by show (l2 (s.2.1.take i) (e.u.bp,e.u.waits)).1.length<=_;omega)) λaR=> ?_
     refine aN ?_;refine h5 (u:=(i,a)) (i+1,aR) rfl ?_ (by show i+1<=_;omega) (by show s.2.1.length-(i+1)<s.2.1.length-i;omega);obtain⟨t1,t2⟩:=aie (s:=(e.u.bp,e.u.waits)) U U af;unfold yN;dsimp only;rw[t1,t2]
    ·refine aN ?_
     obtain rfl:i=s.2.1.length:=by omega
     rw[List.take_length];exact la (λM aV=>by exact(aiQ (L':=bI g {A with o:=z.1,g:=(none,0),s:=a} {e with u:={e.u with bz:=s.1,gone:=[],av:=s.2.2,bp:=(l2 s.2.1 (e.u.bp,e.u.waits)).1,waits:=(l2 s.2.1 (e.u.bp,e.u.waits)).2}}++[aw.box dn fj [bK g],aw.box nv r4 (kx x)]) 2 (K:=sZ) fK aV).pick Pt rfl) ⟨{A with o:=z.1,g:=(none,0),s:=a},rfl,rfl⟩
   ·rw[aG aj]
    exact la (λM aV=>by exact aV.pre) ⟨{A with o:=z.1,g:=z.2},rfl,rfl⟩
 ·have q2:¬0<e.u.bz.length:=by omega
  refine aN ?_;refine pE (dm:=bI g A e) (λ_=>[.bool (decide (((e.u.bp.length:Nat):Int)=0))]) (λw _ aH=>PQ.any aH) λ_=> ?_
  refine aN ?_;refine i_ rfl (λiW=> ?_) λiW=> ?_
  ·have AR:0<e.u.bp.length:=by omega
   have ag:=G.WC _ (by rw[c_,fy AR];exact List.getElem_mem AR:e.u.bp.getD 0 default∈e.u.bp);refine aN ?_;refine pE (dm:=bI g A e) (λ_=>[I (e.u.bp.getD 0 default:Nat)]) (λw _ aH=>WJ.any aH AR) λy=> ?_
   generalize aiR:e.u.bp.getD 0 default=k at ag ⊢;have KS:(e.u.bp.drop 1).length<=e.u.bp.length:=by rw[List.length_drop];omega
   have amR:k<e.u.waits.length:=by omega
   have mH:k<e.u.av.length:=by omega
   refine aN ?_;refine uo (K:=c9) (l:=e.u.waits) (j:=k) false U U fK rfl (λ_ _=>rfl) ?_;refine aN ?_;generalize h0:r1 e.table e.u.lit e.u.av e.u.bO e.b k=N;generalize cj:e.u.av.getD k default=O;have dd:(gq e.table e.b e.u)=(true,if ux 4 N O=true then {e.u with av:=e.u.av.set k (kg 4 N O),bp:=(q7 (c5 e.b e.u.bO k 6) (e.u.bp.drop 1,e.u.waits.set k false)).1,waits:=(q7 (c5 e.b e.u.bO k 6) (e.u.bp.drop 1,e.u.waits.set k false)).2} else {e.u with av:=e.u.av.set k (kg 4 N O),bp:=e.u.bp.drop 1,waits:=e.u.waits.set k false}):=by
    rw[FC q2 AR];unfold w6 FA;rw[aiR,h0,cj]
   unfold s3;rw[dd];refine kA (v:=λ_=> .agg ⟨ch N⟩) (dm:=bI g {A with s:=y} {e with u:={e.u with bp:=e.u.bp.drop 1,waits:=e.u.waits.set k false}}) (L':=λ_=>bI g {A with s:=y} {e with u:={e.u with bp:=e.u.bp.drop 1,waits:=e.u.waits.set k false}}++[aw.box dn fj [bK g]]) Pt (λ_=>ch N) (λw _ aH=>by rw[<-h0];exact W0.any aH k ad ag hl iH FP hL (G.b7 k ag)) λ_=> ?_
   refine uq (z:= .agg ⟨ch z4⟩) (ch z4) az rfl (λb=>iy) λFG=> ?_
   refine sT (m:=4) (us:=ch N) (cs':=ch N) U U fK rfl ?_;refine k_ Nat (λi=>[I (i:Nat),.bool (ux i N O)]) (λi=>bI g {A with s:=y} {e with u:={e.u with bp:=e.u.bp.drop 1,waits:=e.u.waits.set k false,av:=e.u.av.set k (kg i N O)}}++[aw.box dn fj [bK g],aw.box FG iA (ch N)]) (λi=>i<=4) (λi=>4-i) 0 rfl ?_ aj (λi af=> ?_)
   ·rw[aic,<-cj,U5 mH]
    rfl
   refine aN ?_;refine bR rfl (λbm=> ?_) λbm=> ?_
   ·have kS:i<4:=by omega
    have kH:k<(e.u.av.set k (kg i N O)).length:=by rw[List.length_set];exact mH
    have B1:(e.u.av.set k (kg i N O)).getD k default=kg i N O:=by rw[Am mH,aI rfl]
    have a_:∀z,(e.u.av.set k (kg i N O))[k]? =some z->ch (r3 (kg i N O) i (max (bF N i) (bF O i)))=(ch z).set (0+i*1) (I (max (bF N i) (bF O i))):=λz bu=>by
     rw[List.getElem?_set,aI rfl,aI mH,cz] at bu;subst bu;exact JD kS _
    refine um rfl (λhm=> ?_) λhm=> ?_
    ·refine aN ?_
     refine kz (u:=I (bF N i)) rfl has (vF kS) ?_;refine aN ?_;refine mM (K:=ez) (l:=e.u.av.set k (kg i N O)) (j:=k) (o:=0+i*1) (u:=I (bF O i)) rfl (by rw[B1,<-W2 (N:=N) kS];exact vF kS) ?_;refine aN ?_;refine uo (K:=ez) (l:=e.u.av.set k (kg i N O)) (j:=k) (o:=0+i*1) (r3 (kg i N O) i (max (bF N i) (bF O i))) U U fK rfl a_ ?_ (hj:=kH) (ho:=by show 0+i*1<4;omega);refine aN ?_;refine h5 (i+1) ?_ ?_ aj aj
     ·rw[W4 kS,hm]
      rfl
     ·rw[List.set_set,W3]
      rfl
    ·refine aN ?_
     refine kz (u:=I (bF N i)) rfl has (vF kS) ?_;refine aN ?_;refine mM (K:=ez) (l:=e.u.av.set k (kg i N O)) (j:=k) (o:=0+i*1) (u:=I (bF O i)) rfl (by rw[B1,<-W2 (N:=N) kS];exact vF kS) ?_;refine aN ?_;refine uo (K:=ez) (l:=e.u.av.set k (kg i N O)) (j:=k) (o:=0+i*1) (r3 (kg i N O) i (max (bF N i) (bF O i))) U U fK rfl a_ ?_ (hj:=kH) (ho:=by show 0+i*1<4;omega);refine aN ?_;refine h5 (i+1) ?_ ?_ aj aj
     ·rw[W4 kS,hm]
      rfl
     ·rw[List.set_set,W3]
      rfl
   ·refine aN ?_
    obtain rfl:i=4:=by omega
    refine um rfl (λhm=> ?_) λhm=> ?_
    ·rw[aI hm]
     refine aN ?_;refine kA (dm:=bI g {A with s:=y} {e with u:={e.u with bp:=e.u.bp.drop 1,waits:=e.u.waits.set k false,av:=e.u.av.set k (kg 4 N O)}}++[aw.box dn fj [bK g]]) (L':=λz=>bI g {A with s:=z} {e with u:={e.u with av:=e.u.av.set k (kg 4 N O),bp:=(q7 (c5 e.b e.u.bO k 6) (e.u.bp.drop 1,e.u.waits.set k false)).1,waits:=(q7 (c5 e.b e.u.bO k 6) (e.u.bp.drop 1,e.u.waits.set k false)).2}}++[aw.box dn fj [bK g],aw.box FG iA (ch N)]) [0,1,2,3,4,5,6,7,8,9,10,11,12] (λ_=>[]) (λw _ aH=>WY.any (e:={e with u:={e.u with bp:=e.u.bp.drop 1,waits:=e.u.waits.set k false,av:=e.u.av.set k (kg 4 N O)}}) aH k ad ag hl (by show (e.u.waits.set k false).length=_;rw[List.length_set];exact hw) (by show (e.u.bp.drop 1).length<=_;omega)) λz=> ?_
     exact la (λM aV=>by exact aV.pre) ⟨{A with s:=z},rfl,rfl⟩
    ·rw[aG (by rw[hm];decide)]
     exact la (λM aV=>by exact aV.pre) ⟨{A with s:=y},rfl,rfl⟩
  ·have AR:¬0<e.u.bp.length:=by omega
   refine aN ?_;refine pE (dm:=bI g A e) (λ_=>[.bool (decide (((e.u.reqs.length:Nat):Int)=0))]) (λw _ aH=>PR.any aH) λ_=> ?_
   refine aN ?_;refine i_ rfl (λaiS=> ?_) λaiS=> ?_
   ·have CJ:0<e.u.reqs.length:=by omega
    have ag:=G.reqs _ (by rw[c_,fy CJ];exact List.getElem_mem CJ:e.u.reqs.getD 0 default∈e.u.reqs);unfold s3;rw[FD q2 AR CJ];unfold Jv;refine aN ?_;refine pE (dm:=bI g A e) (λ_=>wK (e.u.reqs.getD 0 default)) (λw _ aH=>WN.any aH CJ) λy=> ?_
    generalize ah:e.u.reqs.getD 0 default=x at ag ⊢;have mH:x.1<e.u.av.length:=by omega
    have sB:x.1<e.u.lit.length:=by omega
    refine aN ?_;refine nt (K:=ez) (l:=e.u.av) (j:=x.1) (c:=ch (e.u.av.getD x.1 default)) U U U fL ?_;refine pE (dm:=bI g {A with q:=y} {e with u:={e.u with reqs:=e.u.reqs.drop 1}}) (λ_=>[]) (λw _ aH=>PD.any aH x.1 (e.u.av.getD x.1 default) mH (by show e.u.bz.length<=_;omega) (by show e.u.gone.length<=_;omega)) λz=> ?_
    refine aN ?_;refine uo (K:=di) (l:=e.u.lit) (j:=x.1) x.2.1 U U fK rfl (λ_ _=>rfl) ?_;refine aN ?_;refine uo (K:=c9) (l:=e.u.bO) (j:=x.1) x.2.2 U U fK rfl (λ_ _=>rfl) ?_;exact la (λM aV=>by exact aV.pre) ⟨{A with q:=y,o:=z.1,g:=z.2},rfl,rfl⟩
   ·have CJ:¬0<e.u.reqs.length:=by omega
    unfold s3;rw[FE q2 AR CJ];exact la (λM aV=>by exact aV.pre) ⟨A,rfl,rfl⟩
end W6
end AE
end
end
namespace AE
namespace W8
noncomputable def body:Code:=(Tryz.f93.body).getD .skip
def N:Nat:=14
noncomputable abbrev eh:=kL Tryz.prog Tryz.f93
def b3:cC:={sl:=gb [(1,.agg ⟨[I 0,I 0,I 0,I 0,I 0,I 0]⟩),(0,.agg ⟨[0,1,2,3,4,5]⟩)],ms:=[],A:=start}
def hA:c0:=[(.dT #[3,3] 3 0 (I 0),6),
 (.dT #[3,3] 3 1 (I 0),7),
 (.dT #[3,3] 3 2 (I 0),8),
 (.kJ #[3,3] 3 3 (I 0),9),
 (.kJ #[3,3] 3 4 (I 0),10),
 (.kJ #[3,3] 3 5 (I 0),11),
 (.bin .geq 3 6 6,.bool true),
 (.bin .lss 3 6 9,.bool true),
 (.bin .geq 3 7 7,.bool true),
 (.bin .lss 3 7 10,.bool true),
 (.bin .geq 3 8 8,.bool true),
 (.bin .lss 3 8 11,.bool true)]
theorem bA:eh (at' 14 hA [] body b3)=some (.agg ⟨[6,7,8,9,10,11]⟩):=az
def gJ:c0:=[(.dT #[3,3] 3 0 (I 0),6),
 (.dT #[3,3] 3 1 (I 0),7),
 (.dT #[3,3] 3 2 (I 0),8),
 (.kJ #[3,3] 3 3 (I 0),9),
 (.kJ #[3,3] 3 4 (I 0),10),
 (.kJ #[3,3] 3 5 (I 0),11),
 (.bin .geq 3 6 6,.bool true),
 (.bin .lss 3 6 9,.bool true),
 (.bin .geq 3 7 7,.bool true),
 (.bin .lss 3 7 10,.bool true),
 (.bin .geq 3 8 8,.bool true),
 (.bin .lss 3 8 11,.bool false)]
theorem e1:eh (at' 14 gJ [] body b3)=some (.agg ⟨[I 0,I 0,I 0,I 0,I 0,I 0]⟩):=az
def ld:c0:=[(.dT #[3,3] 3 0 (I 0),6),
 (.dT #[3,3] 3 1 (I 0),7),
 (.dT #[3,3] 3 2 (I 0),8),
 (.kJ #[3,3] 3 3 (I 0),9),
 (.kJ #[3,3] 3 4 (I 0),10),
 (.kJ #[3,3] 3 5 (I 0),11),
 (.bin .geq 3 6 6,.bool true),
 (.bin .lss 3 6 9,.bool true),
 (.bin .geq 3 7 7,.bool true),
 (.bin .lss 3 7 10,.bool false)]
theorem e2:eh (at' 14 ld [] body b3)=some (.agg ⟨[I 0,I 0,I 0,I 0,I 0,I 0]⟩):=az
def ih:c0:=[(.dT #[3,3] 3 0 (I 0),6),
 (.dT #[3,3] 3 1 (I 0),7),
 (.dT #[3,3] 3 2 (I 0),8),
 (.kJ #[3,3] 3 3 (I 0),9),
 (.kJ #[3,3] 3 4 (I 0),10),
 (.kJ #[3,3] 3 5 (I 0),11),
 (.bin .geq 3 6 6,.bool true),
 (.bin .lss 3 6 9,.bool false)]
theorem fI:eh (at' 14 ih [] body b3)=some (.agg ⟨[I 0,I 0,I 0,I 0,I 0,I 0]⟩):=az
@[reducible] noncomputable def eL (b:bw):List J:=[I b.1,I b.2.1,I b.2.2.1,I b.2.2.2.1,I b.2.2.2.2.1,I b.2.2.2.2.2,I (max b.1 0),I (max b.2.1 0),I (max b.2.2.1 0),I (min b.2.2.2.1 0),I (min b.2.2.2.2.1 0),I (min b.2.2.2.2.2 0)]
theorem any (W:ao) (b:bw):Calls Tryz.prog 93 #[X.val b,.agg ⟨[I 0,I 0,I 0,I 0,I 0,I 0]⟩] W λe w'=>e= .returned (.agg ⟨[I 0,I 0,I 0,I 0,I 0,I 0]⟩)/\cA W.heap.size W w':=by
 refine uv (eL b) body b3 N [.agg ⟨[aq 0,aq 1,aq 2,aq 3,aq 4,aq 5]⟩,.agg ⟨[I 0,I 0,I 0,I 0,I 0,I 0]⟩] Tryz.func93 λa al=> ?_
 letI:=gn al;by_cases aJ:(max b.1 0)<(min b.2.2.2.1 0)
 ·by_cases h1:(max b.2.1 0)<(min b.2.2.2.2.1 0)
  ·by_cases ae:(max b.2.2.1 0)<(min b.2.2.2.2.2 0)
   ·refine dG hA [] (ay (aZ.rG U U U U U U) (ay (aZ.rG U U U U U U) (ay (aZ.rG U U U U U U) (ay (aZ.rH U U U U U U) (ay (aZ.rH U U U U U U) (ay (aZ.rH U U U U U U) (ay dA (ay dA (ay dA (ay dA (ay dA (ay dA cx)))))))))))) cy ?_ al
    exact dX bA λw2 cO=>(by (exfalso;omega))
   ·refine dG gJ [] (ay (aZ.rG U U U U U U) (ay (aZ.rG U U U U U U) (ay (aZ.rG U U U U U U) (ay (aZ.rH U U U U U U) (ay (aZ.rH U U U U U U) (ay (aZ.rH U U U U U U) (ay dA (ay dA (ay dA (ay dA (ay dA (ay b0 cx)))))))))))) cy ?_ al
    exact dX e1 λw2 cO=>(by rfl)
  ·refine dG ld [] (ay (aZ.rG U U U U U U) (ay (aZ.rG U U U U U U) (ay (aZ.rG U U U U U U) (ay (aZ.rH U U U U U U) (ay (aZ.rH U U U U U U) (ay (aZ.rH U U U U U U) (ay dA (ay dA (ay dA (ay b0 cx)))))))))) cy ?_ al
   exact dX e2 λw2 cO=>(by rfl)
 ·refine dG ih [] (ay (aZ.rG U U U U U U) (ay (aZ.rG U U U U U U) (ay (aZ.rG U U U U U U) (ay (aZ.rH U U U U U U) (ay (aZ.rH U U U U U U) (ay (aZ.rH U U U U U U) (ay dA (ay b0 cx)))))))) cy ?_ al
  exact dX fI λw2 cO=>(by rfl)
end W8
end AE
namespace AE
def FL:J:= .agg ⟨[.int .i64 0,.int .i64 0,.int .i64 0,.int .i64 0,.int .i64 0,.int .i64 0]⟩
variable [a6]
theorem aiT {x y r:J} {b:bw} (hp:ev [x,y]=true) (hr:aP r=true) (bj:e4 [x,y]=[X.val b,FL]) (cd:aM r=FL):oe Tryz.prog (93,[x,y],r):=
 yd (a:= #[X.val b,FL]) hp hr bj cd λw _=>W8.any w b
end AE
namespace AE
namespace W9
noncomputable def body:Code:=(Tryz.f43.body).getD .skip
def N:Nat:=8
def b3:cC:={sl:=gb [(0,0)],ms:=[],A:=start}
def hA:c0:=[(.bin .eql 51 0 (.slice none 0 0),.bool true)]
theorem bA:kL Tryz.prog Tryz.f43 (at' 8 hA [] body b3)=some (.slice none 0 0):=az
def gJ:c0:=[(.bin .eql 51 0 (.slice none 0 0),.bool false)]
theorem e1:rJ 51 (at' 8 gJ [] body b3)=some (.slice (some ⟨0,0,none⟩) 0 0,0):=az
abbrev n0:=at' 8 gJ [] body b3
def iM:List bS:=[]
def ia:a1:=gb [(2,.slice none 0 0)]
def jv:a1:=mm 8 ia 7 1
theorem e2:d' (de n0) ia iM=some []:=az
def jw:iz:=(body,[1,1,0],3)
theorem nE:kL Tryz.prog Tryz.f43 (hW 8 [] [] jw (eg jv iM))=some 1:=az
@[reducible] noncomputable def eL (l:List bq) (jk:gp) (kh:Nat) (cT:List bq:=[]) (a0:gp:=none) (bZ:Nat:=0):List J:=[b8 jk l kh,b8 a0 cT bZ]
theorem any (W:ao) {jj:J} {l:List bq} (hl:bT (aE W) 4 ch jj l) (ak:l.length<=100000):Calls Tryz.prog 43 #[jj] W λe w'=>(∃a c,e= .returned (b8 a l c)/\dt W.heap.size (aE w') vo 4 ch (b8 a l c) l)/\cA W.heap.size W w':=by
 obtain⟨jk,kh,rfl⟩:=hl.slice;refine uv (eL l jk kh) body b3 N [aq 0] Tryz.func43 λa al=> ?_
 letI:=gn al;by_cases aJ:jk=none
 ·refine dG hA [] (ay (aZ.HV rfl IN rfl aJ) cx) cy ?_ al
  exact dX bA λw2 cO=>(by (subst aJ;exact HT hl.isNil))
 ·refine dG gJ [] (ay (aZ.HW rfl IN rfl aJ) cx) cy ?_ al
  obtain⟨cT,gL⟩:=kB ([]++l);have fX:cT.length=0+l.length:=by rw[gL];simp
  refine HP (l:=[]) (lx:=l) (l':=cT) (bC:=λuz uA=>(eL l jk kh cT uz uA)) (T:=none) gL e1 IN NM NN NO NP af7 ck NQ af8 e2 (jX jv 1) rfl (HR az) (z1 U U λw hw=>hl.reads NQ hw) (Eh (show 0+l.length<=1000000 by omega)) (show (0+l.length)*IP<=140737488355328 by unfold IP;omega) (λ_ _ _=>Ef) (λ_ _ _=>rfl) ?_;intro o0 a0 bZ o1 oy w9 ja w al;have CK:=oy.up w9 (bL _) (λ_ _ h=>h);letI:=gn al;refine jG (jH jw) [] [] cx cy ?_ al;exact dX nE λw2 cO=>(by (exact HU o1 (by rw[gL];rfl) cO))
end W9
namespace FQ
noncomputable def body:Code:=(Tryz.f30.body).getD .skip
def N:Nat:=8
def b3:cC:={sl:=gb [(0,0)],ms:=[],A:=start}
def hA:c0:=[(.bin .eql 30 0 (.slice none 0 0),.bool true)]
theorem bA:kL Tryz.prog Tryz.f30 (at' 8 hA [] body b3)=some (.slice none 0 0):=az
def gJ:c0:=[(.bin .eql 30 0 (.slice none 0 0),.bool false)]
theorem e1:rJ 30 (at' 8 gJ [] body b3)=some (.slice (some ⟨0,0,none⟩) 0 0,0):=az
abbrev n0:=at' 8 gJ [] body b3
def iM:List bS:=[]
def ia:a1:=gb [(2,.slice none 0 0)]
def jv:a1:=mm 8 ia 7 1
theorem e2:d' (de n0) ia iM=some []:=az
def jw:iz:=(body,[1,1,0],3)
theorem nE:kL Tryz.prog Tryz.f30 (hW 8 [] [] jw (eg jv iM))=some 1:=az
@[reducible] noncomputable def eL (l:List Bool) (jk:gp) (kh:Nat) (cT:List Bool:=[]) (a0:gp:=none) (bZ:Nat:=0):List J:=[b8 jk l kh,b8 a0 cT bZ]
theorem any (W:ao) {jj:J} {l:List Bool} (hl:bT (aE W) 1 hx jj l) (ak:l.length<=100000):Calls Tryz.prog 30 #[jj] W λe w'=>(∃a c,e= .returned (b8 a l c)/\dt W.heap.size (aE w') mg 1 hx (b8 a l c) l)/\cA W.heap.size W w':=by
 obtain⟨jk,kh,rfl⟩:=hl.slice;refine uv (eL l jk kh) body b3 N [aq 0] Tryz.func30 λa al=> ?_
 letI:=gn al;by_cases aJ:jk=none
 ·refine dG hA [] (ay (aZ.HV rfl qc rfl aJ) cx) cy ?_ al
  exact dX bA λw2 cO=>(by (subst aJ;exact HT hl.isNil))
 ·refine dG gJ [] (ay (aZ.HW rfl qc rfl aJ) cx) cy ?_ al
  obtain⟨cT,gL⟩:=kB ([]++l);have fX:cT.length=0+l.length:=by rw[gL];simp
  refine HP (l:=[]) (lx:=l) (l':=cT) (bC:=λuz uA=>(eL l jk kh cT uz uA)) (T:=none) gL e1 qc NG NH NI NJ afZ ck mh NK e2 (jX jv 1) rfl (HR az) (z1 U U λw hw=>hl.reads mh hw) (Eh (show 0+l.length<=1000000 by omega)) (show (0+l.length)*EP<=140737488355328 by unfold EP;omega) (λ_ _ _=>Ef) (λ_ _ _=>rfl) ?_;intro o0 a0 bZ o1 oy w9 ja w al;have CK:=oy.up w9 (bL _) (λ_ _ h=>h);letI:=gn al;refine jG (jH jw) [] [] cx cy ?_ al;exact dX nE λw2 cO=>(by (exact HU o1 (by rw[gL];rfl) cO))
end FQ
namespace W_
noncomputable def body:Code:=(Tryz.f92.body).getD .skip
def N:Nat:=8
def b3:cC:={sl:=gb [(0,0)],ms:=[],A:=start}
def hA:c0:=[(.bin .eql 26 0 (.slice none 0 0),.bool true)]
theorem bA:kL Tryz.prog Tryz.f92 (at' 8 hA [] body b3)=some (.slice none 0 0):=az
def gJ:c0:=[(.bin .eql 26 0 (.slice none 0 0),.bool false)]
theorem e1:rJ 26 (at' 8 gJ [] body b3)=some (.slice (some ⟨0,0,none⟩) 0 0,0):=az
abbrev n0:=at' 8 gJ [] body b3
def iM:List bS:=[]
def ia:a1:=gb [(2,.slice none 0 0)]
def jv:a1:=mm 8 ia 7 1
theorem e2:d' (de n0) ia iM=some []:=az
def jw:iz:=(body,[1,1,0],3)
theorem nE:kL Tryz.prog Tryz.f92 (hW 8 [] [] jw (eg jv iM))=some 1:=az
@[reducible] noncomputable def eL (l:List Int) (jk:gp) (kh:Nat) (cT:List Int:=[]) (a0:gp:=none) (bZ:Nat:=0):List J:=[b8 jk l kh,b8 a0 cT bZ]
theorem any (W:ao) {jj:J} {l:List Int} (hl:bT (aE W) 1 hv jj l) (ak:l.length<=100000):Calls Tryz.prog 92 #[jj] W λe w'=>(∃a c,e= .returned (b8 a l c)/\dt W.heap.size (aE w') tQ 1 hv (b8 a l c) l)/\cA W.heap.size W w':=by
 obtain⟨jk,kh,rfl⟩:=hl.slice;refine uv (eL l jk kh) body b3 N [aq 0] Tryz.func92 λa al=> ?_
 letI:=gn al;by_cases aJ:jk=none
 ·refine dG hA [] (ay (aZ.HV rfl H2 rfl aJ) cx) cy ?_ al
  exact dX bA λw2 cO=>(by (subst aJ;exact HT hl.isNil))
 ·refine dG gJ [] (ay (aZ.HW rfl H2 rfl aJ) cx) cy ?_ al
  obtain⟨cT,gL⟩:=kB ([]++l);have fX:cT.length=0+l.length:=by rw[gL];simp
  refine HP (l:=[]) (lx:=l) (l':=cT) (bC:=λuz uA=>(eL l jk kh cT uz uA)) (T:=none) gL e1 H2 aeg aeh aei aej aek ck TL ael e2 (jX jv 1) rfl (HR az) (z1 U U λw hw=>hl.reads TL hw) (Eh (show 0+l.length<=1000000 by omega)) (show (0+l.length)*MG<=140737488355328 by unfold MG;omega) (λ_ _ _=>Ef) (λ_ _ _=>rfl) ?_;intro o0 a0 bZ o1 oy w9 ja w al;have CK:=oy.up w9 (bL _) (λ_ _ h=>h);letI:=gn al;refine jG (jH jw) [] [] cx cy ?_ al;exact dX nE λw2 cO=>(by (exact HU o1 (by rw[gL];rfl) cO))
end W_
namespace Xa
noncomputable def body:Code:=(Tryz.f29.body).getD .skip
def N:Nat:=8
def b3:cC:={sl:=gb [(0,0)],ms:=[],A:=start}
def hA:c0:=[(.bin .eql 29 0 (.slice none 0 0),.bool true)]
theorem bA:kL Tryz.prog Tryz.f29 (at' 8 hA [] body b3)=some (.slice none 0 0):=az
def gJ:c0:=[(.bin .eql 29 0 (.slice none 0 0),.bool false)]
theorem e1:rJ 29 (at' 8 gJ [] body b3)=some (.slice (some ⟨0,0,none⟩) 0 0,0):=az
abbrev n0:=at' 8 gJ [] body b3
def iM:List bS:=[]
def ia:a1:=gb [(2,.slice none 0 0)]
def jv:a1:=mm 8 ia 7 1
theorem e2:d' (de n0) ia iM=some []:=az
def jw:iz:=(body,[1,1,0],3)
theorem nE:kL Tryz.prog Tryz.f29 (hW 8 [] [] jw (eg jv iM))=some 1:=az
@[reducible] noncomputable def eL (l:List cc) (jk:gp) (kh:Nat) (cT:List cc:=[]) (a0:gp:=none) (bZ:Nat:=0):List J:=[b8 jk l kh,b8 a0 cT bZ]
theorem any (W:ao) {jj:J} {l:List cc} (hl:bT (aE W) 8 gm jj l) (ak:l.length<=100000):Calls Tryz.prog 29 #[jj] W λe w'=>(∃a c,e= .returned (b8 a l c)/\dt W.heap.size (aE w') oR 8 gm (b8 a l c) l)/\cA W.heap.size W w':=by
 obtain⟨jk,kh,rfl⟩:=hl.slice;refine uv (eL l jk kh) body b3 N [aq 0] Tryz.func29 λa al=> ?_
 letI:=gn al;by_cases aJ:jk=none
 ·refine dG hA [] (ay (aZ.HV rfl rL rfl aJ) cx) cy ?_ al
  exact dX bA λw2 cO=>(by (subst aJ;exact HT hl.isNil))
 ·refine dG gJ [] (ay (aZ.HW rfl rL rfl aJ) cx) cy ?_ al
  obtain⟨cT,gL⟩:=kB ([]++l);have fX:cT.length=0+l.length:=by rw[gL];simp
  refine HP (l:=[]) (lx:=l) (l':=cT) (bC:=λuz uA=>(eL l jk kh cT uz uA)) (T:=none) gL e1 rL aem aen aeo aep aeq ck TM aer e2 (jX jv 1) rfl (HR az) (z1 U U λw hw=>hl.reads TM hw) (Eh (show 0+l.length<=1000000 by omega)) (show (0+l.length)*MH<=140737488355328 by unfold MH;omega) (λ_ _ _=>Ef) (λ_ _ _=>rfl) ?_;intro o0 a0 bZ o1 oy w9 ja w al;have CK:=oy.up w9 (bL _) (λ_ _ h=>h);letI:=gn al;refine jG (jH jw) [] [] cx cy ?_ al;exact dX nE λw2 cO=>(by (exact HU o1 (by rw[gL];rfl) cO))
end Xa
end AE
namespace AE
namespace Xb
noncomputable def body:Code:=(Tryz.f53.body).getD .skip
def N:Nat:=16
def b3:cC:={sl:=gb [(1,.func (.func 54) ⟨[]⟩ ⟨[0,1]⟩),(0,.agg ⟨[2,3,4,5,6,7,8]⟩)],ms:=[],A:=start}
theorem bA:qh (at' 16 [] [] body b3)=some (92,[8]):=az
abbrev n0:=at' 16 [] [] body b3
def iM:List bS:=[⟨.cells [2,3,4,5,6,7,8],28,0⟩,⟨.cells [I 0,I 0,I 0,I 0,I 0,I 0,.slice none 0 0],28,0⟩]
def ia:a1:=gb [(4,nu 1 0),(2,nu 0 0),(1,.func (.func 54) ⟨[]⟩ ⟨[0,1]⟩)]
def jv:a1:=mm 16 ia 8 9
theorem fI:d' (lS Tryz.prog n0) ia iM=some [(0,0),(1,1),(2,2),(3,3),(4,4),(5,5),(6,6),(7,7),(8,8)]:=az
def jw:iz:=(body,[1,0],3)
def gJ:c0:=[(.bf 28 0,.agg ⟨[2,3,4,5,6,7,8]⟩),
 (.b7 28 1 0,1),
 (.bf 25 1,.agg ⟨[I 0,I 0,I 0,I 0,I 0,I 0]⟩)]
def s4:fM:=[(93,[.agg ⟨[2,3,4,5,6,7]⟩,.agg ⟨[I 0,I 0,I 0,I 0,I 0,I 0]⟩],.agg ⟨[I 0,I 0,I 0,I 0,I 0,I 0]⟩)]
theorem sy:kL Tryz.prog Tryz.f53 (hW 16 gJ s4 jw (eg jv iM))=some (.agg ⟨[2,3,4,5,6,7,9]⟩):=az
@[reducible] noncomputable def eL (ij:gp) (hO ik AS:Nat) (b:bw) (AT:Nat) (JJ:List Int:=[]) (jl:gp:=none) (jm:Nat:=0):List J:=[nu AS 0,nu AT 0,I b.1,I b.2.1,I b.2.2.1,I b.2.2.2.1,I b.2.2.2.2.1,I b.2.2.2.2.2,.slice ij hO ik,b8 jl JJ jm]
theorem any (W:ao) {ij:gp} {hO ik:Nat} {cells:List Int} (oz:bT (aE W) 1 hv (.slice ij hO ik) cells) {AS:Nat} {b:bw} (aiU:iK 0 (aE W) (nu AS 0) 28 [I b.1,I b.2.1,I b.2.2.1,I b.2.2.2.1,I b.2.2.2.2.1,I b.2.2.2.2.2,.slice ij hO ik]) {AT:Nat} (aiV:iK 0 (aE W) (nu AT 0) 28 [I 0,I 0,I 0,I 0,I 0,I 0,.slice none 0 0]) (ak:cells.length<=100000):Calls Tryz.prog 53 #[.agg ⟨[I b.1,I b.2.1,I b.2.2.1,I b.2.2.2.1,I b.2.2.2.2.1,I b.2.2.2.2.2,.slice ij hO ik]⟩,.func (.func 54) #[] #[nu AS 0,nu AT 0]] W λe w'=>(∃a c,e= .returned (hN b (b8 a cells c))/\dt W.heap.size (aE w') tQ 1 hv (b8 a cells c) cells)/\cA W.heap.size W w':=by
 refine uv (eL ij hO ik AS b AT) body b3 N [.agg ⟨[aq 2,aq 3,aq 4,aq 5,aq 6,aq 7,aq 8]⟩,.func (.func 54) ⟨[]⟩ ⟨[aq 0,aq 1]⟩] Tryz.func53 λa al=> ?_
 letI:=gn al;have aH:=b6.MX W;refine dG [] [] cx cy ?_ al;obtain⟨JJ,Xc⟩:=kB (cells);refine sY (Y:=cE) (bC:=λc1=>(eL ij hO ik AS b AT JJ c1.1 c1.2)) aH [] (λc1=>[]) (λc1=>[w3 c1.1 JJ c1.2]) bA fI (jX jv 9) (kN:=λw hw dQ hs=>by rw[Xc];exact Ez (W_.any _ ((oz.mono aH.ext).mono hw) ak)) (rest:= ?_);intro o0 ⟨jl,jm⟩ fH ja w al;replace fH:=fH.Fv;letI:=gn al;refine jG (jH jw) gJ s4 (ay (aZ.M0 (g:=AS) (o:=0) (n:=7) (aiU.up fH.ext) U U U az az U U U) (ay (sW 25 0 6) (ay (aZ.M0 (g:=AT) (o:=0) (n:=6) (aiV.up fH.ext) U U U az az U U U) cx))) (ej (aiT U U U U) cy) ?_ al;exact dX sy λw2 cO=>(by subst Xc;exact⟨_,_,rfl,(fH.arr 0 rfl).mono (bL _) λ_ _ _ h=>cO _ _ h⟩)
end Xb
theorem aiW {W:ao} {ro:List (fk bc)} {f:FuncId} {h:yy} {args aR:List J} {n:Nat} {t:a7} {K:gE bc} {F:J->J} {l:List K.α} (cH:(bc).follows .mixedOrders=true) (aA:cZ bc f h args n=some t) (vs:List J) (da:dR ro (aE W))
  (ah:X W.heap.size W [] ro (λx L'=>∃a c,x=F (.slice a l.length c)/\L'=[.arr K (.slice a l.length c) l]) n vs.reverse [] [] t) (ha:fG vs.reverse n args=aR:=by rfl) (ak:vs.length=n:=by rfl) (ho:eJ vs:=by exact fL):
  Calls bc f ⟨aR⟩ W λe w'=>(∃a c,e= .returned (F (.slice a l.length c))/\dt W.heap.size (aE w') K.e K.k K.enc (.slice a l.length c) l)/\cA W.heap.size W w':=by
 subst ha;refine(V6 cH aA da.ext ak ho (ah (by simp [ak]) (nM ho))).mono λe w q=> ?_
 obtain⟨⟨x,L',rfl,⟨a,c,rfl,rfl⟩,dE⟩,ae⟩:=q;refine⟨⟨a,c,rfl,dt.T_ (dE.sp.ok 0 _ rfl) (λj hj=> ?_) λ_ _ _ ho=>ho⟩,ae⟩;rcases dE.fresh j (lU.2 hj) with ar|ar
 ·exact absurd ar (Af j)
 ·exact Array.getElem?_eq_none_iff.1 ar
abbrev AU:aK:=28
@[reducible] def Xd (b:bw) (v:J):List J:=[I b.1,I b.2.1,I b.2.2.1,I b.2.2.2.1,I b.2.2.2.2.1,I b.2.2.2.2.2,v]
namespace JK
def t:a7:=
.nn 28 (.agg ⟨[0,1,2,3,4,5,6]⟩)<|
.nn 28 (.agg ⟨[7,8,9,10,11,12,13]⟩)<|
.mJ 28<|
.o (.bf 28 14) (.agg ⟨fC 7 17⟩) 7 [7]<|
.call 53 [.agg ⟨[17,18,19,20,21,22,23]⟩,.func (.func 54) ⟨[]⟩ ⟨[14,15]⟩] (.agg ⟨[24,25,26,27,28,29,30]⟩) 7<|
.st 28 16 (.agg ⟨[24,25,26,27,28,29,30]⟩)<|
.nO 28 16
theorem bB:cZ Tryz.prog 28 {iT:=[53],marks:=[28]} [.agg ⟨[0,1,2,3,4,5,6]⟩,.agg ⟨[7,8,9,10,11,12,13]⟩] 14=some t:=dg az
theorem any (W:ao) {b:bw} {a:gp} {n c:Nat} {cells:List Int} (hl:bT (aE W) 1 hv (.slice a n c) cells) (ak:cells.length<=100000):Calls Tryz.prog 28 #[hN b (.slice a n c),.agg ⟨[I 0,I 0,I 0,I 0,I 0,I 0,.slice none 0 0]⟩] W λe w'=>(∃a c,e= .returned (hN b (b8 a cells c))/\dt W.heap.size (aE w') tQ 1 hv (b8 a cells c) cells)/\cA W.heap.size W w':=by
 refine aiW (K:=di) (F:=hN b) (l:=cells) (ro:=[⟨di,.slice a n c,cells⟩]) mixed bB [I b.1,I b.2.1,I b.2.2.1,I b.2.2.2.1,I b.2.2.2.2.1,I b.2.2.2.2.2,.slice a n c,I 0,I 0,I 0,I 0,I 0,I 0,.slice none 0 0] (.cons hl (.nil _)) ?_;unfold t;refine vr (cs:=[I b.1,I b.2.1,I b.2.2.1,I b.2.2.2.1,I b.2.2.2.2.1,I b.2.2.2.2.2,.slice a n c]) U U (λb=>iy) λng=> ?_
 refine vr (cs:=[I 0,I 0,I 0,I 0,I 0,I 0,.slice none 0 0]) U U (λb=>iy) λg1=> ?_
 refine uq (z:= .agg ⟨[I 0,I 0,I 0,I 0,I 0,I 0,.slice none 0 0]⟩) [I 0,I 0,I 0,I 0,I 0,I 0,.slice none 0 0] az rfl (λb=>iy) λg2=> ?_
 refine mN (c:=[I b.1,I b.2.1,I b.2.2.1,I b.2.2.2.1,I b.2.2.2.2.1,I b.2.2.2.2.2,.slice a n c]) rfl has U U fL ?_;refine kA (Y:=cE) (dm:=[aw.box ng AU [I b.1,I b.2.1,I b.2.2.1,I b.2.2.2.1,I b.2.2.2.2.1,I b.2.2.2.2.2,.slice a n c],aw.box g1 AU [I 0,I 0,I 0,I 0,I 0,I 0,.slice none 0 0]]) (v:=λy=>hN b (.slice y.1 cells.length y.2)) (N:=λy=>[aw.box ng AU [I b.1,I b.2.1,I b.2.2.1,I b.2.2.2.1,I b.2.2.2.2.1,I b.2.2.2.2.2,.slice a n c],aw.box g1 AU [I 0,I 0,I 0,I 0,I 0,I 0,.slice none 0 0],aw.arr di (.slice y.1 cells.length y.2) cells]) (L':=λy=>[aw.box ng AU [I b.1,I b.2.1,I b.2.2.1,I b.2.2.2.1,I b.2.2.2.2.1,I b.2.2.2.2.2,.slice a n c],aw.box g1 AU [I 0,I 0,I 0,I 0,I 0,I 0,.slice none 0 0],aw.box g2 AU [I 0,I 0,I 0,I 0,I 0,I 0,.slice none 0 0],aw.arr di (.slice y.1 cells.length y.2) cells]) [0,1] (λy=>[I b.1,I b.2.1,I b.2.2.1,I b.2.2.2.1,I b.2.2.2.2.1,I b.2.2.2.2.2,.slice y.1 cells.length y.2]) (λw hw aH=>W1 (F:=hN b) aH (Xb.any _ ((fU.ro (K:=di) (v:= .slice a n c) (l:=cells) has).at hw) (aH.box 0 rfl) (aH.box 1 rfl) ak)) λy=> ?_
 refine sT (m:=7) (us:=[I b.1,I b.2.1,I b.2.2.1,I b.2.2.2.1,I b.2.2.2.2.1,I b.2.2.2.2.2,.slice y.1 cells.length y.2]) (cs':=[I b.1,I b.2.1,I b.2.2.1,I b.2.2.2.1,I b.2.2.2.2.1,I b.2.2.2.2.2,.slice y.1 cells.length y.2]) U U fK rfl ?_;exact AF (v:= .agg ⟨[24,25,26,27,28,29,30]⟩) (L':=[aw.arr di (.slice y.1 cells.length y.2) cells]) rfl has (λM aV=>aV.pick [3] rfl) ⟨y.1,y.2,rfl,rfl⟩
end JK
end AE
end Go.Proofs.YtepcfjbfkedlpaaGreatDoor
namespace Go.Proofs.YtepcfjbfkedlpaaGreatDoor
open Go Go.Proofs Go.Shelf Go.RowKit Go.Lib
section
def aiX:Go.Shelf.Ren:=⟨λ|212=>58|263=>97|264=>98|n=>n,λ|46=>105|51=>140|146=>141|53=>143|148=>144|n=>n,λ|n=>n⟩
theorem aiY:Go.Proofs.Lays.n212 Tryz.prog aiX:={
 mixed:=by kernel_rfl
 f212:=Tryz.func58.trans (congrArg some az)
 f263:=Tryz.func97.trans (congrArg some az)
 f264:=Tryz.func98.trans (congrArg some az)
 t46:=Tryz.underlying105
 a46:=Tryz.isAgg105
 z46:=Tryz.sizeOf105
 v46:=Tryz.zeroValue105
 t51:=Tryz.underlying140
 a51:=Tryz.isAgg140
 z51:=Tryz.sizeOf140
 v51:=Tryz.zeroValue140
 t53:=Tryz.underlying143
 a53:=Tryz.isAgg143
 z53:=Tryz.sizeOf143
 v53:=Tryz.zeroValue143
 t146:=Tryz.underlying141
 a146:=Tryz.isAgg141
 z146:=Tryz.sizeOf141
 v146:=Tryz.zeroValue141
 t148:=Tryz.underlying144
 a148:=Tryz.isAgg144
 z148:=Tryz.sizeOf144
 v148:=Tryz.zeroValue144}
open Go.RowKit Go.Lib in
theorem bits_Mul (x y:Nat) (ah:x<18446744073709551616) (a_:y<18446744073709551616) (w:ao):
 Calls Tryz.prog 58 #[.int .u64 x,.int .u64 y] w λe w'=>e= .returned (.tuple #[.int .u64 ((x*y/18446744073709551616:Nat):Int),.int .u64 ((x*y%18446744073709551616:Nat):Int)])/\w'=w:=Any.bits_Mul aiY x y ah a_ w
namespace AE
def iN (n i:Nat):List Bool:=List.replicate i true++List.replicate (n-i) false
theorem Xe (n:Nat):iN n n=List.replicate n true:=by simp [iN]
theorem aiZ (n:Nat):(List.replicate n t_).take 0++[true].take (min [true].length ((List.replicate n t_).length-0))++(List.replicate n t_).drop (0+min [true].length ((List.replicate n t_).length-0))=iN n (min [true].length ((List.replicate n t_).length-0)):=by
 have bu:t_=false:=rfl;rw[bu,kX];cases n with
 |zero=>rfl
 |succ n=>
  have:min [true].length (n+1-0)=1:=by simp
  rw[this];simp [iN]
theorem ai0 {n i:Nat} (h:i<=n):(iN n i).take i++((iN n i).take i).take (min ((iN n i).take i).length ((iN n i).length-i))++(iN n i).drop (i+min ((iN n i).take i).length ((iN n i).length-i))=iN n (i+min ((iN n i).take i).length ((iN n i).length-i)):=by
 have h1:(iN n i).take i=List.replicate i true:=by
  unfold iN;rw[List.take_append_of_le_length (by simp)];simp
 have ae:(iN n i).length=n:=by simp [iN];omega
 rw[h1,ae,kX];generalize hm:min i (n-i)=m;have ai1:m<=i:=by omega
 have IC:m<=n-i:=by omega
 unfold iN;rw[List.drop_append,kX,List.drop_of_length_le (by simp),Nat.add_sub_cancel_left,List.take_replicate,List.drop_replicate,Nat.min_eq_left ai1,List.nil_append,List.replicate_append_replicate];congr 2;omega
theorem ai2 {α:Type} {B:Nat} {M:Mem} {e:aK} {k:Nat} {enc:α->List J} {a:Option Addr} {n c:Nat} {l:List α} (h:dt B M e k enc (.slice a n c) l):l.length<=c:=by
 obtain⟨aR,c',he,ai⟩:=h.queue.cap;cases he;exact ai
section
variable [a6]
theorem Xf {x y r:J} {p q:Nat} (hp:ev [x,y]=true) (hr:aP r=true) (bj:e4 [x,y]=[.int .u64 ((p:Nat):Int),.int .u64 ((q:Nat):Int)]) (cd:aM r= .tuple ⟨[.int .u64 0,.int .u64 ((q:Nat):Int)]⟩) (h1:p=1) (ae:q<=9000000000000000000):oe Tryz.prog (58,[x,y],r):=
 yd (a:= #[.int .u64 ((p:Nat):Int),.int .u64 ((q:Nat):Int)]) hp hr bj cd λw _=>(bits_Mul p q aj aj w).mono λe w' he=>by
  obtain⟨rfl,rfl⟩:=he;subst h1;refine⟨?_,⟨rfl,rfl,rfl,bL _,λ_ _=>rfl⟩,bL _⟩;rw[Nat.one_mul,Nat.div_eq_of_lt aj,Nat.mod_eq_of_lt aj];rfl
end
end AE
end
end Go.Proofs.YtepcfjbfkedlpaaGreatDoor
namespace Go.Proofs.YtepcfjbfkedlpaaGreatDoor
open Go Go.Proofs Go.RowKit
namespace AE
namespace Xg
noncomputable def body:Code:=(Tryz.f31.body).getD .skip
def N:Nat:=48
def b3:cC:={sl:=gb [(1,1),(0,0)],ms:=[],A:=start}
def hA:c0:=[(.bin .lss 3 1 (I 0),.bool false),
 (.len #[30] 3 0,2),
 (.conv 3 105 2,3),
 (.conv 3 105 1,4),
 (.bin .gtr 105 4 (.int .u64 9223372036854775807),.bool true)]
def AV:fM:=[(58,[3,4],.tuple ⟨[.int .u64 0,4]⟩)]
def gJ:c0:=[(.bin .lss 3 1 (I 0),.bool false),
 (.len #[30] 3 0,2),
 (.conv 3 105 2,3),
 (.conv 3 105 1,4),
 (.bin .gtr 105 4 (.int .u64 9223372036854775807),.bool false),
 (.conv 105 3 4,1)]
def s4:fM:=[(58,[3,4],.tuple ⟨[.int .u64 0,4]⟩)]
theorem bA:Ik (at' 48 gJ s4 body b3)=some (30,1):=az
abbrev n0:=at' 48 gJ s4 body b3
def iM:List bS:=[]
def ia:a1:=gb [(4,.slice none 0 0),(0,0)]
def jv:a1:=mm 48 ia 30 5
theorem e1:d' (de n0) ia iM=some [(0,0)]:=az
def jw:iz:=(body,[1,1,1,1,0],3)
theorem w_:Ah 30 30 (hW 48 [] [] jw (eg jv iM))=some (5,0):=az
abbrev q9:=hW 48 [] [] jw {sl:=jv,ms:=[],A:=ff iM}
def n1:List bS:=[]
def k8:a1:=gb [(7,5),(4,.slice none 0 0)]
def iY:a1:=mm 48 k8 33 6
theorem nE:d' (de q9) k8 n1=some [(5,5)]:=az
def mj:iz:=(body,[1,1,1,1,1,0],3)
def n3:List bS:=[]
def n4:a1:=gb [(8,7),(7,5),(4,.slice none 0 0)]
abbrev uB:=hW 48 [] [] mj {sl:=iY,ms:=[],A:=ff n1}
theorem xb:ya n4 n3 uB=some [(5,5),(6,7)]:=az
def n5:Code:=H9 body [1,1,1,1,1,1,0,4]
def vH:List fu:=tT body [1,1,1,1,1,1,0,4] []
theorem AW:wB uB=n5:=az
theorem PS:hk uB=vH:=az
def ih:c0:=[(.len #[30] 3 5,8),
 (.bin .lss 3 7 8,.bool true),
 (.k3 30 5 (some 7) none none,9),
 (.k3 30 5 none (some 7) none,10)]
theorem PT:Ah 30 30 (at' 48 ih [] n5 (eg n4 n3))=some (9,10):=az
abbrev AX:=at' 48 ih [] n5 (eg n4 n3)
def s5:List bS:=[]
def uC:a1:=gb [(38,7),(8,7),(7,5),(4,.slice none 0 0)]
def jO:a1:=mm 48 uC 45 11
theorem FR:d' (de AX) uC s5=some [(5,5),(7,7),(7,7)]:=az
def nQ:iz:=(n5,[1,4],8)
def lf:c0:=[(.bin .add 3 7 11,12)]
theorem AY:zV n4 n3 (hW 48 lf [] nQ (eg jO s5))=some [(5,5),(12,7)]:=az
def lC:c0:=[(.len #[30] 3 5,8),
 (.bin .lss 3 7 8,.bool false)]
theorem PU:kL Tryz.prog Tryz.f31 (AH 48 [] [] vH (at' 48 lC [] n5 (eg n4 n3)))=some 5:=az
@[reducible] noncomputable def eL (x:List Bool) (kC:gp) (kD n:Nat) (iL:List Bool:=[]) (i:Nat:=0) (cT:List Bool:=[]) (a0:gp:=none) (bZ:Nat:=0):List J:=[b8 kC x kD,I ((n:Nat):Int),I ((x.length:Nat):Int),.int .u64 ((x.length:Nat):Int),.int .u64 ((n:Nat):Int),b8 a0 cT bZ,I (((min x.length (cT.length-0)):Nat):Int),I ((i:Nat):Int),I ((iL.length:Nat):Int),.slice (ke a0 bZ i 1) (cT.length-i) (bZ-i),.slice a0 i bZ,I (((min (iL.take i).length (iL.length-i)):Nat):Int),I ((i+(min (iL.take i).length (iL.length-i)):Nat):Int)]
theorem any (W:ao) {x:List Bool} {kC:gp} {kD:Nat} (xc:bY (aE W) [qN 1 hx (b8 kC x kD) x]) (n:Nat) (ah:x=[true]) (ak:n<=100000):Calls Tryz.prog 31 #[b8 kC x kD,I ((n:Nat):Int)] W λe w'=>(∃y:gp×Nat,e= .returned (.slice y.1 n y.2)/\ef (aE W) [qN 1 hx (b8 kC x kD) x] (aE w') [qN 1 hx (b8 kC x kD) x,jt mg 1 hx (.slice y.1 n y.2) (List.replicate n true)])/\cA 0 W w':=by
 refine Jq (eL x kC kD n) body b3 N [aq 0,aq 1] Tryz.func31 λa al=> ?_
 letI:=gn al;have aH:=b6.start W _ xc;have z_:x.length=1:=by rw[ah];rfl
 by_cases aJ:9223372036854775807<((n:Nat):Int)
 ·refine dG hA AV (ay b0 (ay (sX ((aH.red 0 rfl).arr mh) qc) (ay (aZ.Ej U U az az (k':= .u64) az (Ir aj aj) U U) (ay (aZ.Ej U U az az (k':= .u64) az (Ir aj aj) U U) (ay dA cx))))) (ej (Xf U U U U z_ aj) cy) ?_ al
  exfalso;omega
 ·refine dG gJ s4 (ay b0 (ay (sX ((aH.red 0 rfl).arr mh) qc) (ay (aZ.Ej U U az az (k':= .u64) az (Ir aj aj) U U) (ay (aZ.Ej U U az az (k':= .u64) az (Ir aj aj) U U) (ay b0 (ay (aZ.Ej U U az az (k':= .i64) az (wrap64 aj aj) U U) cx)))))) (ej (Xf U U U U z_ aj) cy) ?_ al
  obtain⟨cT,gL⟩:=kB (List.replicate n t_);have fX:cT.length=n:=by rw[gL];exact kX
  refine Ul (n:=n) (zr:=t_) (l':=cT) (bC:=λuz uA=>(eL x kC kD n [] 0 cT uz uA)) gL bA qc NG NH NI NJ rfl mh e1 (jX jv 5) U U (by rfl) aj (by unfold EP;omega) aj (λ_ _ _=>mO) (λ_ _ _=>rfl) ?_;intro o0 a0 bZ o1 oy PV ja w al;have fH:=aH.new (Ic o1 oy PV);replace fH:=fH.Pe;letI:=gn al;refine jG (jH jw) [] [] cx cy ?_ al;obtain⟨PW,kZ⟩:=kB (cT.take 0++x.take (min x.length (cT.length-0))++cT.drop (0+(min x.length (cT.length-0))));have jy:PW.length=cT.length:=by rw[kZ];simp only [List.length_append,List.length_take,List.length_drop];omega
  refine Up (e:=4) (u:=b8 a0 cT bZ) (a:=a0) (c:=bZ) (i:=0) (m:=(min x.length (cT.length-0))) (l:=cT) (ys:=x) (l':=PW) (bC:=(eL x kC kD n [] 0 cT a0 bZ)) kZ rfl w_ az az mh NK nE (jX iY 6) U U (congrArg (λz=>Value.slice a0 z bZ) (show cT.length=cT.length by omega)) rfl ((congrArg (λz=>Value.slice a0 z bZ) (show cT.length=cT.length by omega)).trans (afh _ _ _)) (Ur U U ((fH.red 0 rfl).arr mh) mh) (by apply List.ne_nil_of_length_pos;omega) aj (fH.arr 1 rfl) (λ_=>rfl) (λ_=>mO) ?_;intro qe Eu xd ja w al;have mn:=fH.mG 1 rfl (Et Eu xd);replace mn:=mn.Pe;letI:=gn al;refine jG (jH mj) [] [] cx cy ?_ al;refine Il (gY:=(λ(⟨M,iL,i⟩:Mem×List Bool×Nat)=>aY M (eL x kC kD n iL i cT a0 bZ))) (λ(⟨M,iL,i⟩:Mem×List Bool×Nat)=>b6 0 (aE W) aH.Rw M [qN 1 hx (b8 kC x kD) x,Fu a0 cT.length bZ iL]/\(i<=n/\iL=iN n i/\iL.length=n/\(0<n->0<i))) (λ(⟨M,iL,i⟩:Mem×List Bool×Nat)=>n-i) ⟨qe,PW,(min x.length (cT.length-0))⟩ xb mO (λ_ _ h=>h) (by exact⟨mn,by exact⟨aj,by rw[kZ];subst gL ah;exact aiZ n,aj,aj⟩⟩) ?_;intro⟨M,iL,i⟩ bg ja w al;letI:=gn al;refine H' AW PS ?_;have vI:=bg.1;have amS:=ai2 (vI.arr 1 rfl);have PI:=bg.2.1;have amT:=bg.2.2.2.1;have PX:=bg.2.2.2.2;by_cases nf:((i:Nat):Int)<((iL.length:Nat):Int)
  ·refine dG ih [] (ay (sX ((vI.arr 1 rfl).arr mh) qc) (ay dA (ay (aZ.TC U U U qc IK U U (show i<=cT.length by omega) rfl) (ay (aZ.ad2 U U U qc IK U U (show i<=bZ by omega) rfl) cx)))) cy ?_ al
   obtain⟨PY,ka⟩:=kB (iL.take i++(iL.take i).take (min (iL.take i).length (iL.length-i))++iL.drop (i+(min (iL.take i).length (iL.length-i))));have iW:PY.length=iL.length:=by rw[ka];simp only [List.length_append,List.length_take,List.length_drop];omega
   refine Up (e:=4) (u:=b8 a0 cT bZ) (a:=a0) (c:=bZ) (i:=i) (m:=(min (iL.take i).length (iL.length-i))) (l:=iL) (ys:=(iL.take i)) (l':=PY) (bC:=(eL x kC kD n iL i cT a0 bZ)) ka rfl PT az az mh NK FR (jX jO 11) U U (congrArg (λz=>Value.slice a0 z bZ) (show cT.length=iL.length by omega)) rfl (congrArg (λz=>Value.slice (ke a0 bZ i 1) z (bZ-i)) (show (cT.length-i)=iL.length-i by omega)) (Ur U U (((vI.arr 1 rfl).arr mh).take (show i<=cT.length by omega)) mh) (by apply List.ne_nil_of_length_pos;(simp only [List.length_take];omega)) aj (vI.arr 1 rfl) (λ_=>rfl) (λ_=>mO) ?_;intro pw oj ai3 ja w al;have s6:=vI.mG 1 rfl (Et oj ai3);replace s6:=s6.Pe;letI:=gn al;refine jG (jH nQ) lf [] (ay AI cx) cy ?_ al;exact Jk ⟨pw,PY,i+(min (iL.take i).length (iL.length-i))⟩ AY mO (by exact⟨s6,by have PZ:(iL.take i).length=i:=(by rw[List.length_take];omega);exact⟨by rw[PZ];omega,by rw[ka,bg.2.2.1];exact ai0 PI,aj,aj⟩⟩) (by have PZ:(iL.take i).length=i:=(by rw[List.length_take];omega);show n-(i+min _ _)<n-i;rw[PZ];omega)
  ·refine dG lC [] (ay (sX ((vI.arr 1 rfl).arr mh) qc) (ay b0 cx)) cy ?_ al
   refine Cx [] [] cx cy ?_;exact dX PU λw2 cO=>(by have hX:i=n:=aj;have hL:iL=List.replicate n true:=(by rw[bg.2.2.1,hX,Xe]);rw[<-hL,<-fX];exact⟨(_,_),rfl,((vI.pick [0,1] rfl).done cO)⟩)
end Xg
end AE
namespace AE
def h6 (c:Int):Prop:=0<=c/\c<256
instance (c:Int):Decidable (h6 c):=by unfold h6;infer_instance
def qj:List Int->Int
 |[]=> -1
 |c::r=>if h6 c then (if qj r<0 then -1 else qj r+1) else 0
theorem JL:∀{l:List Int},(∀c∈l,h6 c)->qj l= -1
 |[],_=>rfl
 |c::r,h=>by
  unfold qj;rw[aI (h c (by simp)),JL λd a8=>h d (by simp [a8]),aI ck]
theorem Xh:∀{l:List Int} {i:Nat},i<l.length->(∀c∈l.take i,h6 c)->¬h6 (l.getD i default)->qj l=i
 |[],i,h,_,_=>by simp at h
 |c::r,0,_,_,h=>by
  unfold qj;rw[aG (show ¬h6 c from h)];rfl
 |c::r,i+1,h,h1,ae=>by
  unfold qj;rw[aI (h1 c (by simp)),Xh (l:=r) (i:=i) (by simpa using h) (λd a8=>h1 d (by simp [a8])) ae,aG aj];omega
theorem ai4 {l:List Int} {i:Nat} (h:∀c∈l.take i,h6 c) (af:i<l.length) (h1:0<=l.getD i default) (ae:l.getD i default<256):∀c∈l.take (i+1),h6 c:=by
 have:l.take (i+1)=l.take i++[l.getD i default]:=by
  rw[List.take_add_one,c_,fy af];rfl
 rw[this];intro c ai;rcases List.mem_append.1 ai with ai|ai
 ·exact h c ai
 ·rw[List.mem_singleton.1 ai]
  exact⟨h1,ae⟩
theorem ai5 {l:List Int} {i:Nat} (h:∀c∈l.take i,h6 c) (af:l.length<=i):∀c∈l,h6 c:=by
 rwa [List.take_of_length_le af] at h
def xe:bw:=(0,0,0,0,0,0)
def uD (b:bw) (cells:List Int):Prop:=okB b/\(ig b\/b=xe)/\dv b<=2097152/\dv b=cells.length/\qj cells<0
instance (b:bw) (cells:List Int):Decidable (uD b cells):=by unfold uD;infer_instance
end AE
namespace AE
def FT (r:Nat):Bool:=decide (97<=r)&&decide (r<=122)
def s7 (r:Nat):Bool:= !FT r&& !decide (r=45)
def kT (s:eQ):Prop:=(0<s.length/\s.length<=32)/\¬(((s.getD 0 0).toNat:Nat):Int)=45/\¬(((s.getD ((((s.length:Nat):Int)-1)).toNat 0).toNat:Nat):Int)=45/\Lib.idxFunc s7 true ⟨s.toArray⟩<0
instance (s:eQ):Decidable (kT s):=by unfold kT;infer_instance
abbrev P0:=eQ×Bool×Bool×Bool
def ai6 (x:P0):List J:=[b1 x.1,.bool x.2.1,.bool x.2.2.1,.bool x.2.2.2]
abbrev K.val (x:P0):J:= .agg ⟨ai6 x⟩
def ki (x:cc):P0:=
 if x.2.1=true then (if x.2.2.1=true then ([],false,false,false) else if x.2.2.2.1=true then ([102,97,108,108,105,110,103],true,false,true) else ([115,111,108,105,100],true,false,false))
 else if x.2.2.1=true then (if x.2.2.2.1=true then ([],false,false,false) else ([108,105,113,117,105,100],false,true,false))
 else if x.2.2.2.1=true then ([],false,false,false) else ([103,97,115],false,false,false)
section
variable {x:cc}
theorem ai7 (aJ:¬x.2.1=true) (h1:¬x.2.2.1=true) (ae:¬x.2.2.2.1=true):ki x=([103,97,115],false,false,false):=by unfold ki;rw[aG aJ,aG h1,aG ae]
theorem ai8 (aJ:x.2.1=true) (h1:¬x.2.2.1=true) (ae:¬x.2.2.2.1=true):ki x=([115,111,108,105,100],true,false,false):=by unfold ki;rw[aI aJ,aG h1,aG ae]
theorem ai9 (aJ:x.2.1=true) (h1:¬x.2.2.1=true) (ae:x.2.2.2.1=true):ki x=([102,97,108,108,105,110,103],true,false,true):=by unfold ki;rw[aI aJ,aG h1,aI ae]
theorem ai' (aJ:¬x.2.1=true) (h1:x.2.2.1=true) (ae:¬x.2.2.2.1=true):ki x=([108,105,113,117,105,100],false,true,false):=by unfold ki;rw[aG aJ,aI h1,aG ae]
theorem ai_ (aJ:x.2.1=true) (h1:x.2.2.1=true):ki x=([],false,false,false):=by unfold ki;rw[aI aJ,aI h1]
theorem Xi (aJ:¬x.2.1=true) (ae:x.2.2.2.1=true):ki x=([],false,false,false):=by unfold ki;rw[aG aJ];split<;>first|rfl|rw[aI ae]
end
def fW (x:cc):Prop:=kT x.1/\¬(ki x).1=[]/\1<=x.2.2.2.2.1/\x.2.2.2.2.1<=16/\0<=x.2.2.2.2.2.1/\x.2.2.2.2.2.1<=15/\0<=x.2.2.2.2.2.2.1/\x.2.2.2.2.2.2.1<=15/\0<=x.2.2.2.2.2.2.2/\x.2.2.2.2.2.2.2<=15
instance (x:cc):Decidable (fW x):=by unfold fW;infer_instance
def AZ:cc:=([97,105,114],false,false,false,1,0,0,0)
def xf (l:List cc) (i:Nat):List eQ:=(l.take i).map (·.1)
def vJ (l:List cc) (i:Nat):Prop:=¬fW (l.getD i default)\/(l.getD i default).1∈xf l i
instance (l:List cc) (i:Nat):Decidable (vJ l i):=by unfold vJ;infer_instance
def kU (l:List cc):Int×Int:=
 if 256<l.length then (-1,2) else if l.length=0 then (-1,1) else if ¬l.getD 0 default=AZ then (0,1) else
 match (List.range l.length).find? (λi=>decide (vJ l i)) with
 |some i=>(i,if fW (l.getD i default) then 10 else 1)
 |none=>(0,0)
section
variable {l:List cc}
theorem Xj (h:256<l.length):kU l=(-1,2):=by unfold kU;rw[aI h]
theorem Xk (aJ:¬256<l.length) (h:l.length=0):kU l=(-1,1):=by unfold kU;rw[aG aJ,aI h]
theorem Xl (aJ:¬256<l.length) (h1:¬l.length=0) (h:¬l.getD 0 default=AZ):kU l=(0,1):=by unfold kU;rw[aG aJ,aG h1,aI h]
theorem Xm {p:Nat->Bool} {n i:Nat} (af:i<n) (h:∀j,j<i->p j=false) (hp:p i=true):(List.range n).find? p=some i:=by
 rw[List.find?_eq_some_iff_getElem];refine⟨hp,i,by simpa using af,by simp,λj hj=> ?_⟩;simp [h j hj]
theorem Xn {i:Nat} (aJ:¬256<l.length) (h1:¬l.length=0) (ha:l.getD 0 default=AZ) (af:i<l.length) (h:∀j,j<i->¬vJ l j) (ad:¬fW (l.getD i default)):kU l=((i:Int),1):=by
 unfold kU;rw[aG aJ,aG h1,aG (λh=>h ha),Xm af (λj hj=>fD (h j hj)) (kF (.inl ad))];simp only;rw[aG ad]
theorem Xo {i:Nat} (aJ:¬256<l.length) (h1:¬l.length=0) (ha:l.getD 0 default=AZ) (af:i<l.length) (h:∀j,j<i->¬vJ l j) (ax:fW (l.getD i default)) (ad:(l.getD i default).1∈xf l i):kU l=((i:Int),10):=by
 unfold kU;rw[aG aJ,aG h1,aG (λh=>h ha),Xm af (λj hj=>fD (h j hj)) (kF (.inr ad))];simp only;rw[aI ax]
theorem Xp (aJ:¬256<l.length) (h1:¬l.length=0) (ha:l.getD 0 default=AZ) (h:∀j,j<l.length->¬vJ l j):kU l=(0,0):=by
 unfold kU;rw[aG aJ,aG h1,aG (λh=>h ha),List.find?_eq_none.2 λj hj=>by simpa using h j (by simpa using hj)]
theorem Xq {i:Nat} (ax:fW (l.getD i default)) (ad:¬(l.getD i default).1∈xf l i):¬vJ l i:=λh=>h.elim (λh=>h ax) ad
theorem aja {i:Nat} (af:i<l.length):xf l (i+1)=xf l i++[(l.getD i default).1]:=by
 unfold xf;rw[List.take_add_one,List.map_append,fy af,c_,fy af];rfl
end
theorem P1:a' Tryz.prog (underlying 133)=some (.map 9 4):=az
theorem P2:a' Tryz.prog (underlying 9)=some .string:=az
theorem ajb:a' Tryz.prog (zeroValue 4)=some (.bool false):=az
theorem P3 (b:Bool) (n:eQ):a' Tryz.prog (Instr.checkKey b 10000 9 (b1 n))=some ():=az
end AE
end Go.Proofs.YtepcfjbfkedlpaaGreatDoor
namespace Go.Proofs.YtepcfjbfkedlpaaGreatDoor
open Go Go.Proofs Go.Shelf Go.RowKit Go.Lib
section
def ajc:Go.Shelf.Ren:=⟨λ|15=>126|20=>132|n=>n,λ|9=>9|23=>166|3=>3|4=>4|0=>0|21=>21|n=>n,λ|n=>n⟩
theorem ajd:Go.Proofs.LaysGw.n15 Tryz.prog ajc:={
 mixed:=by kernel_rfl
 f15:=Tryz.func126.trans (congrArg some az)
 f20:=Tryz.func132.trans (congrArg some az)
 t0:=Tryz.underlying0
 a0:=Tryz.isAgg0
 z0:=Tryz.sizeOf0
 v0:=Tryz.zeroValue0
 i0:=by kernel_rfl
 t3:=Tryz.underlying3
 a3:=Tryz.isAgg3
 z3:=Tryz.sizeOf3
 v3:=Tryz.zeroValue3
 i3:=by kernel_rfl
 t4:=Tryz.underlying4
 a4:=Tryz.isAgg4
 z4:=Tryz.sizeOf4
 v4:=Tryz.zeroValue4
 i4:=by kernel_rfl
 t9:=Tryz.underlying9
 a9:=Tryz.isAgg9
 z9:=Tryz.sizeOf9
 v9:=Tryz.zeroValue9
 i9:=by kernel_rfl
 t21:=Tryz.underlying21
 a21:=Tryz.isAgg21
 z21:=Tryz.sizeOf21
 v21:=Tryz.zeroValue21
 i21:=by kernel_rfl
 t23:=Tryz.underlying166
 a23:=Tryz.isAgg166
 z23:=Tryz.sizeOf166
 v23:=Tryz.zeroValue166
 i23:=by kernel_rfl}
open Go.RowKit Go.Lib in
theorem strings_IndexFunc (g:Nat) (G8:Array J) (aje:∀args w,(callFunc g args).run Tryz.prog w= .ok (.enter g args) w) (p:Nat->Bool) (s:ByteArray) (w:ao) (hp:PredAt Tryz.prog g G8 encR p w):
 Calls Tryz.prog 126 #[.string s,.func (.func g) #[] G8] w λe w'=>e= .returned (.int .i64 (Lib.idxFunc p true s))/\Below w.heap.size w w':=Any.strings_IndexFunc ajd g G8 aje p s w hp
namespace AE
theorem ajf (r:Nat) (W:ao):Calls Tryz.prog 125 #[encR r] W λe w'=>e= .returned (.bool (FT r))/\∃q,w'=W.drewN q:=by
 by_cases h1:97<=r<;>by_cases ae:r<=122
 all_goals
  have vm:(97:Int)<=(r:Int)↔97<=r:=by omega
  have z2:(r:Int)<=122↔r<=122:=by omega
  go_enter Tryz.func125,Tryz.ntmps125
  go_wp2
  all_goals first|(exfalso;omega)|(go_ret;exact⟨by simp [FT,h1,ae],0,rfl⟩)
theorem ajg (w:ao) (B off:Nat) (dQ:B<w.heap.size) (ai:w.cell? ⟨B,off,none⟩=some (.func (.func 125) #[] #[])):
  PredAt Tryz.prog 127 #[.pointer (some ⟨B,off,none⟩)] encR s7 w:=λW r ad=>by
 have zp:W.cell? ⟨B,off,none⟩=some (.func (.func 125) #[] #[]):=(ad.cell (p:=⟨B,off,none⟩) dQ).trans ai;have hL:=ajf r W;unfold FnGives;cases h1:FT r<;>by_cases z2:(r:Int)=45
 all_goals
  have ae:r=45↔(r:Int)=45:=by omega
  rw[h1] at hL
  go_enter Tryz.func127,Tryz.ntmps127
  go_wp2_with (go_at_call 125;refine hL.mono ?_;rintro e w' ⟨rfl,q,rfl⟩)
  all_goals first|(go_ret;exact⟨by simp [s7,h1,ae,z2],q,rfl⟩)|omega
theorem Xr (g:FuncId) (u:J):aP (x5 g u)=false:=by unfold x5;simp [aP,ev]
theorem Xs [a6] {x r:J} {s:eQ} (hp:aP x=true) (hr:aP r=true) (ex:aM x=b1 s) (cd:aM r= .int .i64 (Lib.idxFunc s7 true ⟨s.toArray⟩)):
  zP Tryz.prog (126,[x,x5 127 (.func (.func 125) ⟨[]⟩ ⟨[]⟩)],r):=by
 intro w _ us ha
 match us,ha with
 |[b2,cr],⟨h1,ae,_⟩=>
  have e1:b2=b1 s:=by
   rcases h1 with ⟨_,h⟩|⟨g,u,B,off,h,_⟩
   ·rw[h,ex]
   ·rw[h,Xr] at hp;cases hp
  rcases ae with ⟨h,_⟩|⟨g,u,B,off,h,_,e2,dQ,ai⟩
  ·rw[Xr] at h;cases h
  ·unfold x5 at h
   simp only [Value.func.injEq,Fn.func.injEq,Array.mk.injEq,List.cons.injEq,Value.agg.injEq,and_true,true_and] at h;obtain⟨rfl,rfl⟩:=h;subst e1 e2;refine(strings_IndexFunc 127 #[.pointer (some ⟨B,off,none⟩)] (enters_of Tryz.func127 az rfl) s7 ⟨s.toArray⟩ w (ajg w B off dQ ai)).mono λe w' ⟨he,ad⟩=> ?_
   exact⟨_,he,λφ=>by rw[<-cd];exact aD.uZ φ r hr,⟨ad,bL _⟩⟩
 |[],h=>exact h.elim
 |[_],h=>exact h.2.elim
 |_::_::_::_,h=>exact h.2.2.elim
end AE
end
end Go.Proofs.YtepcfjbfkedlpaaGreatDoor
namespace Go.Proofs.YtepcfjbfkedlpaaGreatDoor
open Go Go.Proofs Go.RowKit
namespace AE
namespace P4
noncomputable def body:Code:=(Tryz.f113.body).getD .skip
def N:Nat:=31
noncomputable abbrev eh:=kL Tryz.prog Tryz.f113
def b3:cC:={sl:=gb [(0,0)],ms:=[],A:=start}
def hA:c0:=[(.len #[9] 3 0,1),
 (.bin .gtr 3 1 (I 0),.bool true),
 (.bin .leq 3 1 (I 32),.bool true),
 (.dP 9 0 (I 0),2),
 (.bin .neq 5 2 (.int .u8 45),.bool false)]
theorem bA:eh (at' 31 hA [] body b3)=some (.bool false):=az
def gJ:c0:=[(.len #[9] 3 0,1),
 (.bin .gtr 3 1 (I 0),.bool true),
 (.bin .leq 3 1 (I 32),.bool true),
 (.dP 9 0 (I 0),2),
 (.bin .neq 5 2 (.int .u8 45),.bool true),
 (.bin .sub 3 1 (I 1),3),
 (.dP 9 0 3,4),
 (.bin .neq 5 4 (.int .u8 45),.bool false)]
theorem e1:eh (at' 31 gJ [] body b3)=some (.bool false):=az
def ld:c0:=[(.len #[9] 3 0,1),
 (.bin .gtr 3 1 (I 0),.bool true),
 (.bin .leq 3 1 (I 32),.bool true),
 (.dP 9 0 (I 0),2),
 (.bin .neq 5 2 (.int .u8 45),.bool true),
 (.bin .sub 3 1 (I 1),3),
 (.dP 9 0 3,4),
 (.bin .neq 5 4 (.int .u8 45),.bool true),
 (.bin .lss 3 5 (I 0),.bool true)]
def yQ:fM:=[(126,[0,.func (.func 127) ⟨[]⟩ ⟨[.agg ⟨[.slice none 7 7,.func (.func 125) ⟨[]⟩ ⟨[]⟩]⟩]⟩],5)]
theorem e2:eh (at' 31 ld yQ body b3)=some (.bool true):=az
def ih:c0:=[(.len #[9] 3 0,1),
 (.bin .gtr 3 1 (I 0),.bool true),
 (.bin .leq 3 1 (I 32),.bool true),
 (.dP 9 0 (I 0),2),
 (.bin .neq 5 2 (.int .u8 45),.bool true),
 (.bin .sub 3 1 (I 1),3),
 (.dP 9 0 3,4),
 (.bin .neq 5 4 (.int .u8 45),.bool true),
 (.bin .lss 3 5 (I 0),.bool false)]
def FU:fM:=[(126,[0,.func (.func 127) ⟨[]⟩ ⟨[.agg ⟨[.slice none 7 7,.func (.func 125) ⟨[]⟩ ⟨[]⟩]⟩]⟩],5)]
theorem fI:eh (at' 31 ih FU body b3)=some (.bool false):=az
def lf:c0:=[(.len #[9] 3 0,1),
 (.bin .gtr 3 1 (I 0),.bool true),
 (.bin .leq 3 1 (I 32),.bool false)]
theorem nH:eh (at' 31 lf [] body b3)=some (.bool false):=az
def lC:c0:=[(.len #[9] 3 0,1),
 (.bin .gtr 3 1 (I 0),.bool false)]
theorem yR:eh (at' 31 lC [] body b3)=some (.bool false):=az
@[reducible] noncomputable def eL (s:eQ):List J:=[b1 s,I ((s.length:Nat):Int),.int .u8 (((s.getD 0 0).toNat:Nat):Int),I (((s.length:Nat):Int)-1),.int .u8 (((s.getD ((((s.length:Nat):Int)-1)).toNat 0).toNat:Nat):Int),I (Lib.idxFunc s7 true ⟨s.toArray⟩)]
theorem any (W:ao) (s:eQ):Calls Tryz.prog 113 #[b1 s] W λe w'=>e= .returned (.bool (decide (kT s)))/\cA W.heap.size W w':=by
 refine uv (eL s) body b3 N [aq 0] Tryz.func113 λa al=> ?_
 letI:=gn al;by_cases aJ:0<((s.length:Nat):Int)
 ·by_cases h1:((s.length:Nat):Int)<=32
  ·by_cases ae:(((s.getD 0 0).toNat:Nat):Int)=45
   ·refine dG hA [] (ay (aZ.z6 U U rK U U) (ay dA (ay dA (ay (aZ.yc (l:=s) (j:=0) (show 0<s.length by omega) U U U rK U U U) (ay Fp cx))))) cy ?_ al
    exact dX bA λw2 cO=>(by (rw[fD (λh:kT s=>by have h1:=h.1;have ae:=h.2.1;have ar:=h.2.2.1;have bm:=h.2.2.2;omega)];rfl))
   ·by_cases ar:(((s.getD ((((s.length:Nat):Int)-1)).toNat 0).toNat:Nat):Int)=45
    ·refine dG gJ [] (ay (aZ.z6 U U rK U U) (ay dA (ay dA (ay (aZ.yc (l:=s) (j:=0) (show 0<s.length by omega) U U U rK U U U) (ay Cy (ay AI (ay (aZ.yc (l:=s) (j:=((((s.length:Nat):Int)-1)).toNat) (show ((((s.length:Nat):Int)-1)).toNat<s.length by omega) U U U rK rfl (MF aj) rfl) (ay Fp cx)))))))) cy ?_ al
     exact dX e1 λw2 cO=>(by (rw[fD (λh:kT s=>by have h1:=h.1;have ae:=h.2.1;have ar:=h.2.2.1;have bm:=h.2.2.2;omega)];rfl))
    ·by_cases bm:(Lib.idxFunc s7 true ⟨s.toArray⟩)<0
     ·refine dG ld yQ (ay (aZ.z6 U U rK U U) (ay dA (ay dA (ay (aZ.yc (l:=s) (j:=0) (show 0<s.length by omega) U U U rK U U U) (ay Cy (ay AI (ay (aZ.yc (l:=s) (j:=((((s.length:Nat):Int)-1)).toNat) (show ((((s.length:Nat):Int)-1)).toNat<s.length by omega) U U U rK rfl (MF aj) rfl) (ay Cy (ay dA cx))))))))) (Mq (Xs U U U U) cy) ?_ al
      exact dX e2 λw2 cO=>(by (rw[kF (show kT s from ⟨⟨aj,aj⟩,ct,ct,ct⟩)];rfl))
     ·refine dG ih FU (ay (aZ.z6 U U rK U U) (ay dA (ay dA (ay (aZ.yc (l:=s) (j:=0) (show 0<s.length by omega) U U U rK U U U) (ay Cy (ay AI (ay (aZ.yc (l:=s) (j:=((((s.length:Nat):Int)-1)).toNat) (show ((((s.length:Nat):Int)-1)).toNat<s.length by omega) U U U rK rfl (MF aj) rfl) (ay Cy (ay b0 cx))))))))) (Mq (Xs U U U U) cy) ?_ al
      exact dX fI λw2 cO=>(by (rw[fD (λh:kT s=>by have h1:=h.1;have ae:=h.2.1;have ar:=h.2.2.1;have bm:=h.2.2.2;omega)];rfl))
  ·refine dG lf [] (ay (aZ.z6 U U rK U U) (ay dA (ay b0 cx))) cy ?_ al
   exact dX nH λw2 cO=>(by (rw[fD (λh:kT s=>by have h1:=h.1;have ae:=h.2.1;have ar:=h.2.2.1;have bm:=h.2.2.2;omega)];rfl))
 ·refine dG lC [] (ay (aZ.z6 U U rK U U) (ay b0 cx)) cy ?_ al
  exact dX yR λw2 cO=>(by (rw[fD (λh:kT s=>by have h1:=h.1;have ae:=h.2.1;have ar:=h.2.2.1;have bm:=h.2.2.2;omega)];rfl))
end P4
namespace Xt
noncomputable def body:Code:=(Tryz.f114.body).getD .skip
def N:Nat:=31
noncomputable abbrev eh:=kL Tryz.prog Tryz.f114
def b3:cC:={sl:=gb [(0,.agg ⟨[0,1,2,3,4,5,6,7]⟩)],ms:=[],A:=start}
def hA:c0:=[(.bf 168 1000000,.agg ⟨[b1 [103,97,115],.bool false,.bool false,.bool false,b1 [115,111,108,105,100],.bool true,.bool false,.bool false,b1 [102,97,108,108,105,110,103],.bool true,.bool false,.bool true,b1 [108,105,113,117,105,100],.bool false,.bool true,.bool false]⟩),
 (.bin .eql 4 (.bool false) 1,.bool false),
 (.bin .eql 4 (.bool true) 1,.bool true),
 (.bin .eql 4 (.bool false) 2,.bool false)]
theorem bA:eh (at' 31 hA [] body b3)=some (.agg ⟨[b1 [],.bool false,.bool false,.bool false]⟩):=az
def gJ:c0:=[(.bf 168 1000000,.agg ⟨[b1 [103,97,115],.bool false,.bool false,.bool false,b1 [115,111,108,105,100],.bool true,.bool false,.bool false,b1 [102,97,108,108,105,110,103],.bool true,.bool false,.bool true,b1 [108,105,113,117,105,100],.bool false,.bool true,.bool false]⟩),
 (.bin .eql 4 (.bool false) 1,.bool false),
 (.bin .eql 4 (.bool true) 1,.bool true),
 (.bin .eql 4 (.bool false) 2,.bool true),
 (.bin .eql 4 (.bool false) 3,.bool false),
 (.bin .eql 4 (.bool true) 3,.bool true)]
theorem e1:eh (at' 31 gJ [] body b3)=some (.agg ⟨[b1 [102,97,108,108,105,110,103],.bool true,.bool false,.bool true]⟩):=az
def ld:c0:=[(.bf 168 1000000,.agg ⟨[b1 [103,97,115],.bool false,.bool false,.bool false,b1 [115,111,108,105,100],.bool true,.bool false,.bool false,b1 [102,97,108,108,105,110,103],.bool true,.bool false,.bool true,b1 [108,105,113,117,105,100],.bool false,.bool true,.bool false]⟩),
 (.bin .eql 4 (.bool false) 1,.bool false),
 (.bin .eql 4 (.bool true) 1,.bool true),
 (.bin .eql 4 (.bool false) 2,.bool true),
 (.bin .eql 4 (.bool false) 3,.bool true)]
theorem e2:eh (at' 31 ld [] body b3)=some (.agg ⟨[b1 [115,111,108,105,100],.bool true,.bool false,.bool false]⟩):=az
def ih:c0:=[(.bf 168 1000000,.agg ⟨[b1 [103,97,115],.bool false,.bool false,.bool false,b1 [115,111,108,105,100],.bool true,.bool false,.bool false,b1 [102,97,108,108,105,110,103],.bool true,.bool false,.bool true,b1 [108,105,113,117,105,100],.bool false,.bool true,.bool false]⟩),
 (.bin .eql 4 (.bool false) 1,.bool true),
 (.bin .eql 4 (.bool false) 2,.bool false),
 (.bin .eql 4 (.bool true) 1,.bool false),
 (.bin .eql 4 (.bool true) 2,.bool true),
 (.bin .eql 4 (.bool false) 3,.bool false)]
theorem fI:eh (at' 31 ih [] body b3)=some (.agg ⟨[b1 [],.bool false,.bool false,.bool false]⟩):=az
def lf:c0:=[(.bf 168 1000000,.agg ⟨[b1 [103,97,115],.bool false,.bool false,.bool false,b1 [115,111,108,105,100],.bool true,.bool false,.bool false,b1 [102,97,108,108,105,110,103],.bool true,.bool false,.bool true,b1 [108,105,113,117,105,100],.bool false,.bool true,.bool false]⟩),
 (.bin .eql 4 (.bool false) 1,.bool true),
 (.bin .eql 4 (.bool false) 2,.bool false),
 (.bin .eql 4 (.bool true) 1,.bool false),
 (.bin .eql 4 (.bool true) 2,.bool true),
 (.bin .eql 4 (.bool false) 3,.bool true)]
theorem nH:eh (at' 31 lf [] body b3)=some (.agg ⟨[b1 [108,105,113,117,105,100],.bool false,.bool true,.bool false]⟩):=az
def lC:c0:=[(.bf 168 1000000,.agg ⟨[b1 [103,97,115],.bool false,.bool false,.bool false,b1 [115,111,108,105,100],.bool true,.bool false,.bool false,b1 [102,97,108,108,105,110,103],.bool true,.bool false,.bool true,b1 [108,105,113,117,105,100],.bool false,.bool true,.bool false]⟩),
 (.bin .eql 4 (.bool false) 1,.bool true),
 (.bin .eql 4 (.bool false) 2,.bool true),
 (.bin .eql 4 (.bool false) 3,.bool false),
 (.bin .eql 4 (.bool true) 1,.bool false),
 (.bin .eql 4 (.bool true) 2,.bool false)]
theorem yR:eh (at' 31 lC [] body b3)=some (.agg ⟨[b1 [],.bool false,.bool false,.bool false]⟩):=az
def r5:c0:=[(.bf 168 1000000,.agg ⟨[b1 [103,97,115],.bool false,.bool false,.bool false,b1 [115,111,108,105,100],.bool true,.bool false,.bool false,b1 [102,97,108,108,105,110,103],.bool true,.bool false,.bool true,b1 [108,105,113,117,105,100],.bool false,.bool true,.bool false]⟩),
 (.bin .eql 4 (.bool false) 1,.bool true),
 (.bin .eql 4 (.bool false) 2,.bool true),
 (.bin .eql 4 (.bool false) 3,.bool true)]
theorem w_:eh (at' 31 r5 [] body b3)=some (.agg ⟨[b1 [103,97,115],.bool false,.bool false,.bool false]⟩):=az
@[reducible] noncomputable def eL (x:cc):List J:=[b1 x.1,.bool x.2.1,.bool x.2.2.1,.bool x.2.2.2.1,I x.2.2.2.2.1,I x.2.2.2.2.2.1,I x.2.2.2.2.2.2.1,I x.2.2.2.2.2.2.2]
theorem any (W:ao) (x:cc) (bU:lP (aE W)):Calls Tryz.prog 114 #[M.val x] W λe w'=>e= .returned (K.val (ki x))/\cA W.heap.size W w':=by
 refine uv (eL x) body b3 N [.agg ⟨[aq 0,aq 1,aq 2,aq 3,aq 4,aq 5,aq 6,aq 7]⟩] Tryz.func114 λa al=> ?_
 letI:=gn al;by_cases aJ:x.2.1=true
 ·by_cases h1:x.2.2.1=true
  ·refine dG hA [] (ay (z8 bU (o:=0) (n:=16) U U az az U U U U) (ay (wE U U U U ck aJ) (ay (B0 U U U U U aJ) (ay (wE U U U U ck h1) cx)))) cy ?_ al
   exact dX bA λw2 cO=>(by (rw[ai_ ct ct];rfl))
  ·by_cases ae:x.2.2.2.1=true
   ·refine dG gJ [] (ay (z8 bU (o:=0) (n:=16) U U az az U U U U) (ay (wE U U U U ck aJ) (ay (B0 U U U U U aJ) (ay (tR U U U U ck h1) (ay (wE U U U U ck ae) (ay (B0 U U U U U ae) cx)))))) cy ?_ al
    exact dX e1 λw2 cO=>(by (rw[ai9 ct ct ct];rfl))
   ·refine dG ld [] (ay (z8 bU (o:=0) (n:=16) U U az az U U U U) (ay (wE U U U U ck aJ) (ay (B0 U U U U U aJ) (ay (tR U U U U ck h1) (ay (tR U U U U ck ae) cx))))) cy ?_ al
    exact dX e2 λw2 cO=>(by (rw[ai8 ct ct ct];rfl))
 ·by_cases h1:x.2.2.1=true
  ·by_cases ae:x.2.2.2.1=true
   ·refine dG ih [] (ay (z8 bU (o:=0) (n:=16) U U az az U U U U) (ay (tR U U U U ck aJ) (ay (wE U U U U ck h1) (ay (H5 U U U U U aJ) (ay (B0 U U U U U h1) (ay (wE U U U U ck ae) cx)))))) cy ?_ al
    exact dX fI λw2 cO=>(by (rw[Xi ct ct];rfl))
   ·refine dG lf [] (ay (z8 bU (o:=0) (n:=16) U U az az U U U U) (ay (tR U U U U ck aJ) (ay (wE U U U U ck h1) (ay (H5 U U U U U aJ) (ay (B0 U U U U U h1) (ay (tR U U U U ck ae) cx)))))) cy ?_ al
    exact dX nH λw2 cO=>(by (rw[ai' ct ct ct];rfl))
  ·by_cases ae:x.2.2.2.1=true
   ·refine dG lC [] (ay (z8 bU (o:=0) (n:=16) U U az az U U U U) (ay (tR U U U U ck aJ) (ay (tR U U U U ck h1) (ay (wE U U U U ck ae) (ay (H5 U U U U U aJ) (ay (H5 U U U U U h1) cx)))))) cy ?_ al
    exact dX yR λw2 cO=>(by (rw[Xi ct ct];rfl))
   ·refine dG r5 [] (ay (z8 bU (o:=0) (n:=16) U U az az U U U U) (ay (tR U U U U ck aJ) (ay (tR U U U U ck h1) (ay (tR U U U U ck ae) cx)))) cy ?_ al
    exact dX w_ λw2 cO=>(by (rw[ai7 ct ct ct];rfl))
end Xt
end AE
namespace AE
variable [a6]
theorem kj {x:J} {s:eQ} (hp:ev [x]=true) (bj:e4 [x]=[b1 s]) (h:kT s):oe Tryz.prog (113,[x],.bool true):=
 yd (a:= #[b1 s]) hp rfl bj rfl λw _=>(P4.any w s).mono λe w' gu=>by rw[kF h] at gu;exact gu
theorem A0 {x:J} {s:eQ} (hp:ev [x]=true) (bj:e4 [x]=[b1 s]) (h:¬kT s):oe Tryz.prog (113,[x],.bool false):=
 yd (a:= #[b1 s]) hp rfl bj rfl λw _=>(P4.any w s).mono λe w' gu=>by rw[fD h] at gu;exact gu
theorem kk {x r:J} {m:cc} (hp:ev [x]=true) (hr:aP r=true) (bj:e4 [x]=[M.val m]) (cd:aM r=K.val (ki m)) (bU:lP a6.dL):oe Tryz.prog (114,[x],r):=
 yd (a:= #[M.val m]) hp hr bj cd λw hw=>Xt.any w m (bU.mono hw)
end AE
end Go.Proofs.YtepcfjbfkedlpaaGreatDoor
