/- Parts of the proof that the last text states. -/
import Derived.Test.YtaddiiogopnkpaaGreatE1
set_option linter.unusedSectionVars false
namespace Go.Own
open Go
variable [cE]
section
variable {w w':World}{I:a'}{T:Array Value}{g:aL}{Fs:Nat->a'}
theorem cA.LA (h:cA w I T g Fs) {t:Nat}{x:ab}(J:g t=some x):∃ v,T[t]?=some v/\dx w T ⟨t,[]⟩=some v/\jB w I (dy w T g) x v (Fs t):=by
 obtain ⟨v,hv,aY⟩:=h.rel t x J;exact ⟨v,hv,by simp [dx,hv,walk],aY⟩
theorem cA.app (h:cA w I T g Fs) {z n m:Nat}{p:Place}{bv dH:Value}{e b3:TypeId}{us news:List Value}(jo:dy w T g (.bL z p n 0 []) bv)
  (eH:∀ t bR cr m' cL,g t≠some (.bL bR p cr m' cL)) (A:A8 w w' bv dH e b3 z n m us news):cA w' I T g Fs/\∀ r v,dy w T g r v->dy w' T g r v:=by
 cases iT:bv.ownBlock with
 | none =>
  have same:∀ c,c<w.heap.size->w'.heap[c]?=w.heap[c]?:=λc aa=>A.dK.block c aa (by rw [iT]; simp);exact ⟨h.world (λt c aa=>same c (h.iX t c aa)) (λc aa=>same c (h.lt c aa)) A.dK.size,λr v hr=>h.GF (λ_ _=>rfl) (λt c aa=>same c (h.iX t c aa)) (λ_ _ h=>h) hr⟩
 | some b =>
  have s:EM w w' b (n * z):=by
   refine ⟨λc aa cO=>A.dK.block c aa (by rw [iT]; simpa using Ne.symm cO),?_⟩;obtain ⟨arr,jg,h1,af,aD,bm⟩:=A.sp b iT;exact ⟨arr,jg,e,h1,af,aD,bm⟩
  obtain ⟨t0,s7⟩:=h.EZ jo b iT;have bf:∀ c,I c->c<w.heap.size/\c≠b:=λc aa=>⟨h.lt c aa,λe=>h.bd t0 b s7 (e ▸ aa)⟩;obtain ⟨⟨wM,wN,Jk,rfl⟩,c7⟩:=jo
  -- the home of the block
  have home:∃ N:Place->Prop,(∀ q bR cr cs' mZ,bG g q=some (.own bR cr cs')->dx w T q=some mZ->mZ.ownBlock=some b->N q) /\
    (∀ q,N q->∀ t bR cr m' cL,g t=some (.bL bR q cr m' cL)->t=p.root/\p.path=[]) /\
    (∀ t bR fB cr m' cL,Fs t b->g t=some (.bL bR fB cr m' cL)->t=p.root/\p.path=[]) /\
    (∀ bR fB cr m' cL,p.path=[]->g p.root=some (.bL bR fB cr m' cL)->bR=z/\n=cr+m') /\
    (∀ t x v,Fs t b->g t=some x->T[t]?=some v->R w I (dy w T g) x v (Fs t)->∃ q bR cr cs' hY,x.at q=some (.own bR cr cs')/\walk w v q=some hY/\hY.ownBlock=some b/\cr * bR<=n * z):=by
   rcases c7 with ⟨cs,aq⟩ | ⟨fL,mm,nF,m1,afr,cs,aq,aB,CA⟩
   ·-- the base is a row of a tree
    obtain ⟨qN,qY,gD,hy,mH⟩:=h.part aq (by simp);rw [Jk] at gD;cases gD;have j3:t0=p.root:=h.d_ _ _ _ s7 (mH b (hy.rA b iT));obtain ⟨dU,ix⟩:∃ dU,g p.root=some dU:=by
     unfold bG at aq;cases J:g p.root with
     | none=>rw [J] at aq; cases aq
     | some x=>exact ⟨x,rfl⟩
    have pG:dU.at p.path=some (.own z n cs):=by simpa [bG,ix] using aq
    have lv:∀ bR fB cr m' cL,g p.root≠some (.bL bR fB cr m' cL):=by
     intro bR fB cr m' cL bP;rw [ix] at bP;cases bP;have:=(ab.sV pG).2;simp at this
    obtain ⟨v0,ko,gn⟩:=h.rel _ _ ix;have B3:=gn.gp (λbR fB cr m' cL e=>lv bR fB cr m' cL (by rw [ix,e]));have CN:walk w v0 p.path=some (.slice wM n wN):=by simpa [dx,ko] using Jk
    refine ⟨λq=>q=p,?_,?_,?_,?_,?_⟩
    ·intro q bR cr cs' mZ a8 s_ xg;obtain ⟨RC,Ho,vH,I3,IV⟩:=h.part a8 (by simp);rw [s_] at vH;cases vH;have hr:q.root=p.root:=(h.d_ _ _ _ (IV b (I3.rA b xg)) s7).trans j3;have Cb:dU.at q.path=some (.own bR cr cs'):=by simpa [bG,hr,ix] using a8
     have Kc:walk w v0 q.path=some mZ:=by simpa [dx,hr,ko] using s_
     have:=R.K0 q.path p.path B3 Cb pG Kc CN xg iT;cases q; cases p; simp_all
    ·rintro q rfl t bR cr m' cL bP; exact absurd bP (eH t bR cr m' cL)
    ·intro t bR fB cr m' cL jq bP;have:t=p.root:=(h.d_ _ _ _ jq s7).trans j3;rw [this] at bP;exact absurd bP (lv _ _ _ _ _)
    ·intro bR fB cr m' cL _ bP; exact absurd bP (lv _ _ _ _ _)
    ·intro t x v jq J hv aY;have:t=p.root:=(h.d_ _ _ _ jq s7).trans j3;subst this;rw [ix] at J; cases J;rw [ko] at hv; cases hv;exact ⟨_,_,_,_,_,pG,CN,iT,Nat.le_refl _⟩
   ·-- the base is behind an append itself
    obtain ⟨v0,ko,CL,gn⟩:=h.LA aq;have X7:v0=.slice wM n wN:=by
     have:(⟨p.root,[]⟩:Place)=p:=by cases p; simp_all
     rw [this,Jk] at CL;exact (Option.some.inj CL).symm
    subst X7;obtain ⟨Tr,b9,aeo,abq,aft,gn⟩:=gn.vO;by_cases gM:Tr.ownBlock=some b
    ·obtain ⟨⟨av,M8,O2,rfl⟩,_⟩:=gn.jo;obtain ⟨mZ,Ho,s_,I3,IV⟩:=h.part CA (by simp);rw [O2] at s_;cases s_;have j3:t0=mm.root:=h.d_ _ _ _ s7 (IV b (I3.rA b gM));obtain ⟨dU,ix⟩:∃ dU,g mm.root=some dU:=by
      unfold bG at CA;cases J:g mm.root with
      | none=>rw [J] at CA; cases CA
      | some x=>exact ⟨x,rfl⟩
     have pG:dU.at mm.path=some (.own z nF cs):=by simpa [bG,ix] using CA
     have lv:∀ bR fB cr m' cL,g mm.root≠some (.bL bR fB cr m' cL):=by
      intro bR fB cr m' cL bP;rw [ix] at bP;cases bP;have:=(ab.sV pG).2;simp at this
     obtain ⟨v1,qv,ql⟩:=h.rel _ _ ix;have Wk:=ql.gp (λbR fB cr m' cL e=>lv bR fB cr m' cL (by rw [ix,e]));have CN:walk w v1 mm.path=some (.slice av nF M8):=by simpa [dx,qv] using O2
     refine ⟨λq=>q=mm,?_,?_,?_,?_,?_⟩
     ·intro q bR cr cs' mZ a8 s_ xg;obtain ⟨RC,Sd,vH,I4,IW⟩:=h.part a8 (by simp);rw [s_] at vH;cases vH;have hr:q.root=mm.root:=(h.d_ _ _ _ (IW b (I4.rA b xg)) s7).trans j3;have Cb:dU.at q.path=some (.own bR cr cs'):=by simpa [bG,hr,ix] using a8
      have Kc:walk w v1 q.path=some mZ:=by simpa [dx,hr,qv] using s_
      have:=R.K0 q.path mm.path Wk Cb pG Kc CN xg gM;cases q; cases mm; simp_all
     ·rintro q rfl t bR cr m' cL bP; exact ⟨h.rF _ _ _ _ _ _ _ _ _ _ _ bP aq,fL⟩
     ·intro t bR fB cr m' cL jq bP;have:t=mm.root:=(h.d_ _ _ _ jq s7).trans j3;rw [this] at bP;exact absurd bP (lv _ _ _ _ _)
     ·intro bR fB cr m' cL _ bP;rw [aq] at bP; cases bP; exact ⟨rfl,aB⟩
     ·intro t x v jq J hv aY;have:t=mm.root:=(h.d_ _ _ _ jq s7).trans j3;subst this;rw [ix] at J; cases J;rw [qv] at hv; cases hv;exact ⟨_,_,_,_,_,pG,CN,gM,Nat.mul_le_mul_right _ (by omega)⟩
    ·have mG:Fs p.root b:=(gn.aH b).2 ⟨iT,gM⟩;have j3:t0=p.root:=h.d_ _ _ _ s7 mG;refine ⟨λ_=>False,?_,λ_ h=>h.elim,?_,?_,?_⟩
     ·intro q bR cr cs' mZ a8 s_ xg;obtain ⟨RC,Sd,vH,I4,IW⟩:=h.part a8 (by simp);rw [s_] at vH;cases vH;have hr:q.root=p.root:=h.d_ _ _ _ (IW b (I4.rA b xg)) mG;unfold bG at a8;rw [hr,aq] at a8;have:=(ab.sV a8).2;simp at this
     ·intro t bR fB cr m' cL jq _; exact ⟨h.d_ _ _ _ jq mG,fL⟩
     ·intro bR fB cr m' cL _ bP;rw [aq] at bP; cases bP; exact ⟨rfl,aB⟩
     ·intro t x v jq J hv aY;have:t=p.root:=h.d_ _ _ _ jq mG;subst this;rw [aq] at J; cases J;exact aY.lv.elim
  obtain ⟨N,N4,N5,N6,Wf,Wg⟩:=home
  -- rows of pends
  have pends:∀ t bR fB cr m' cL v zl b1 tQ iL F8,g t=some (.bL bR fB cr m' cL)->T[t]?=some v->Hv w I (dy w T g) bR fB cr m' cL v (Fs t) zl b1 tQ iL F8 ->
    (v.ownBlock=some b->(cr+m') * bR<=n * z)/\(zl.ownBlock=some b->cr * bR<=n * z):=by
   intro t bR fB cr m' cL v zl b1 tQ iL F8 aP hv aY;by_cases ar:t=p.root/\p.path=[]
   ·obtain ⟨rfl,fL⟩:=ar;obtain ⟨rfl,rfl⟩:=Wf _ _ _ _ _ fL aP;exact ⟨λ_=>Nat.le_refl _,λ_=>Nat.mul_le_mul_right _ (by omega)⟩
   ·have vq:zl.ownBlock≠some b:=by
     intro j2;obtain ⟨⟨a2,r3,O3,rfl⟩,XH⟩:=aY.jo;rcases XH with ⟨cs2,af⟩ | ⟨aK,Lg,PO,m3,afs,aei,af,aD,bm⟩
     ·exact ar (N5 fB (N4 fB _ _ _ _ af O3 j2) t _ _ _ _ aP)
     ·obtain ⟨v2,s9,O0,mI⟩:=h.LA af;have zN:(⟨fB.root,[]⟩:Place)=fB:=by cases fB; simp_all
      rw [zN,O3] at O0;cases O0;have OT:fB.root=p.root/\p.path=[]->False:=by
       rintro ⟨hr,fL⟩;have:fB=p:=by cases fB; cases p; simp_all
       exact eH t bR cr m' cL (this ▸ aP)
      obtain ⟨Ts,eP,aep,afF,afu,mI⟩:=mI.vO;by_cases lN:Ts.ownBlock=some b
      ·obtain ⟨⟨a4,acv,X9,rfl⟩,_⟩:=mI.jo;exact OT (N5 Lg (N4 Lg _ _ _ _ bm X9 lN) _ _ _ _ _ af)
      ·exact OT (N6 _ _ _ _ _ _ ((mI.aH b).2 ⟨j2,lN⟩) af)
    refine ⟨λCM=>?_,λj2=>absurd j2 vq⟩;exact absurd (N6 _ _ _ _ _ _ ((aY.aH b).2 ⟨CM,vq⟩) aP) ar
  -- trees
  have aN:=h.iX;have trees:∀ t x v (ρ':ab->Value->Prop),(∀ x v,dy w T g x v->ρ' x v)->g t=some x->T[t]?=some v->R w I (dy w T g) x v (Fs t)->R w' I ρ' x v (Fs t)/\∀ r y,x.at r=some y->walk w' v r=walk w v r:=by
   intro t x v ρ' lU J hv aY;by_cases jq:Fs t b
   ·obtain ⟨q,bR,cr,cs',hY,h1,af,aD,bm⟩:=Wg t x v jq J hv aY;exact aY.spare s bf lU h1 af aD bm
   ·have same:∀ c,Fs t c->w'.heap[c]?=w.heap[c]?:=λc aa=>s.other c (aN t c aa) λe=>jq (e ▸ aa);exact ⟨aY.frame (λc aa=>s.other c (bf c aa).1 (bf c aa).2) (λ_ h=>h) lU same,λr y hr=>R.p1 r aY hr same⟩
  have val:∀ q y,bG g q=some y->dx w' T q=dx w T q:=by
   intro q y a8;unfold bG at a8;cases J:g q.root with
   | none=>rw [J] at a8; cases a8
   | some x =>
    rw [J] at a8;obtain ⟨v,hv,aY⟩:=h.rel _ _ J;cases aY with
    | tree aY=>have:=(trees _ x v _ (λ_ _ h=>h) J hv aY).2 q.path y a8; simp [dx,hv,this]
    | bL aY=>simp [dx,hv,(ab.sV a8).1,walk]
  have slot:∀ {q:Place}{x:ab},q.path=[]->g q.root=some x->dx w' T q=dx w T q:=by
   intro q x a8 J;obtain ⟨v,hv,_⟩:=h.rel _ _ J;simp [dx,a8,walk]
  have refs:∀ r v,dy w T g r v->dy w' T g r v:=by
   rintro r v ⟨h1,af⟩;refine ⟨?_,af⟩;cases r <;> simp only [fh,gA] at h1 af ⊢
   case ptr q k=>obtain ⟨y,ao,_⟩:=af; rw [val q y ao]; exact h1
   case a6 bR q cr =>
    rcases af with ⟨_,_,af,_⟩ | ⟨aK,_,_,_,_,af,_⟩
    ·rw [val q _ af]; exact h1
    ·rw [slot aK af]; exact h1
   case sub bR q lo cr=>obtain ⟨_,_,af,_⟩:=af; rw [val q _ af]; exact h1
   case gj q=>obtain ⟨_,af⟩:=af; rw [val q _ af]; exact h1
   case bL bR q cr m' cL =>
    rcases af with ⟨_,af⟩ | ⟨aK,_,_,_,_,_,af,_⟩
    ·rw [val q _ af]; exact h1
    ·rw [slot aK af]; exact h1
  refine ⟨⟨λt x J=>?_,h.k6,h.d_,h.bd,λc aa=>Nat.lt_of_lt_of_le (h.lt c aa) A.dK.size,h.rF,cE.keep h.hP (λc aa=>s.other c (bf c aa).1 (bf c aa).2) λ_ h=>h⟩,refs⟩;obtain ⟨v,hv,aY⟩:=h.rel t x J;refine ⟨v,hv,?_⟩;cases aY with
  | tree aY=>exact .tree (trees t x v _ refs J hv aY).1
  | @bL bR cr m' fB cL _ zl b1 tQ iL F8 _ aY =>
   obtain ⟨ew,rB⟩:=pends t _ _ _ _ _ v zl b1 tQ iL F8 J hv aY;refine .bL ⟨refs _ _ aY.jo,s.row aY.kE rB,s.row aY.mN ew,aY.ah,aY.h1,λk x u J hu=>?_,aY.aH⟩;exact (aY.hr k x u J hu).frame (λc aa=>s.other c (bf c aa).1 (bf c aa).2) (λ_ h=>h) refs λc aa=>aa.elim
end
def tz (w:World) (I:a') (T:Array Value) (g:aL) (Fs:Nat->a') (x:ab) (v:Value) (w':World):Prop :=
 ∃ F I',cA w' I' T g Fs/\jB w' I' (dy w' T g) x v F/\(∀ t c,F c->¬ Fs t c)/\(∀ c,F c->w.heap.size<=c/\¬ I' c)/\(∀ c,I c->I' c)/\(∀ c,I' c->I c\/w.heap.size<=c)/\Fr w w' (λc=>∃ t,Fs t c)/\(∀ z p n m new,x=.bL z p n m new->∀ t bR cr m' cL,g t≠some (.bL bR p cr m' cL))
inductive Src (g:aL):ab->Nat->Nat->List ab->Prop
 | bd {z m:Nat}{cs:List ab}:Src g (.bd z m cs) z m cs
 | aQ {z:Nat}:Src g .aQ z 0 []
 | a6 {z m N:Nat}{q:Place}{cs:List ab}(a8:bG g q=some (.own z N cs)) (hm:m<=N):Src g (.a6 z q m) z m ((cs.take (m * z)).mapIdx λi x=>fW 0 (q.push i) x)
 | sub {z lo m N:Nat}{q:Place}{cs:List ab}(a8:bG g q=some (.own z N cs)) (hm:lo+m<=N):Src g (.sub z q lo m) z m (((cs.drop (lo * z)).take (m * z)).mapIdx λi x=>fW 0 (q.push (lo * z+i)) x)
def h4 (P:Program) (t e:TypeId) (z b:Nat):Bool :=
 match P.underlying t,P.info? e with
 | some (.slice b1),some i=>b1 == e&&i.size == z&&i.bytes == b&&z != 0&&(match i.zero with | some v=>v.cells.size == z | none=>false)
 | _,_=>false
section
variable {P:Program}{w:World}{I:a'}{T:Array Value}{g:aL}{Fs:Nat->a'}
theorem EV {t e:TypeId}{z b:Nat}(h:h4 P t e z b=true):∃ i cW,P.underlying t=some (.slice e)/\P.info? e=some i/\i.size=z/\i.bytes=b/\0<z/\i.zero=some cW/\cW.cells.size=z:=by
 unfold h4 at h;cases hu:P.underlying t with
 | none=>simp [hu] at h
 | some d =>
  cases hi:P.info? e with
  | none=>cases d <;> simp [hu,hi] at h
  | some i =>
   cases d <;> simp [hu,hi] at h;obtain ⟨⟨⟨⟨rfl,h1⟩,af⟩,aD⟩,bm⟩:=h;cases aX:i.zero with
   | none=>simp [aX] at bm
   | some cW=>simp [aX] at bm; exact ⟨i,cW,rfl,rfl,h1,af,by omega,aX,bm⟩
theorem Src.sound (h:cA w I T g Fs) {y:ab}{v:Value}{z m:Nat}{cells:List ab}(aw:Src g y z m cells) (aY:R w I (dy w T g) y v cj) :
  ∃ (a:Option Addr) (c:Nat) (news:List Value),v=.slice a m c/\news.length=m * z/\(0<m->0<z->a.isSome=true)/\(∀ ad,a=some ad->∀ (j:Nat) (u:Value),news[j]?=some u->w.cell? (ad.add j)=some u)/\Cells w I (dy w T g) cells news:=by
 have P4:∀ {q:Place}{N:Nat}{cs:List ab}(lo:Nat) {a:Option Addr}{cap:Nat},bG g q=some (.own z N cs)->dx w T q=some (.slice a N cap)->lo+m<=N ->
   ∃ news:List Value,news.length=m * z/\(∀ ad,a=some ad->∀ (j:Nat) (u:Value),news[j]?=some u->w.cell? ⟨ad.block,lo * z+j,none⟩=some u)/\Cells w I (dy w T g) (((cs.drop (lo * z)).take (m * z)).mapIdx λi x=>fW 0 (q.push (lo * z+i)) x) news/\(0<m->0<z->∃ b,a=some ⟨b,0,none⟩):=by
  intro q N cs lo a cap a8 hv hm;obtain ⟨dH,cu,ih,ds,_⟩:=h.part a8 (by simp);rw [hv] at ih;cases ih;obtain ⟨b',nq,h9,_,hlen,o8,_⟩:=ds.oa;cases h9;have aeP:lo * z+m * z<=cs.length:=by rw [hlen,<- Nat.add_mul]; exact Nat.mul_le_mul_right _ hm
  have cell:∀ j,j<m * z->∃ b gq k',a=some ⟨b,0,none⟩/\w.cell? ⟨b,lo * z+j,none⟩=some gq/\gq.oneCell'=true/\cs[lo * z+j]?=some k'/\R w I (dy w T g) (fW 0 (q.push (lo * z+j)) k') gq cj:=by
   intro j ag;have e8:cs[lo * z+j]?=some cs[lo * z+j]:=List.getElem?_eq_getElem (by omega);obtain ⟨b,gq,fx,mJ,nZ,hh,bH,ki⟩:=ds.node (.inl rfl) e8;refine ⟨b,gq,_,?_,mJ,hh,e8,GD 0 (by rw [tL,a8]; simp [ab.kids]) (by rw [yB,hv]; exact nZ) ki⟩;cases a with
   | none=>simp [addrOf] at fx
   | some ad=>simp only [addrOf] at fx; rw [Option.some.inj fx]
  have sf:∃ news:List Value,news.length=m * z/\∀ j,j<m * z->∃ b gq k',news[j]?=some gq/\a=some ⟨b,0,none⟩/\w.cell? ⟨b,lo * z+j,none⟩=some gq/\gq.oneCell'=true/\cs[lo * z+j]?=some k'/\R w I (dy w T g) (fW 0 (q.push (lo * z+j)) k') gq cj:=by
   refine ⟨(List.range (m * z)).map λj=>(w.cell? ⟨(a.map (·.block)).getD 0,lo * z+j,none⟩).getD undef,by simp,λj ag=>?_⟩;obtain ⟨b,gq,k',h1,af,aD,bm,b7⟩:=cell j ag;refine ⟨b,gq,k',?_,h1,af,aD,bm,b7⟩;rw [List.getElem?_map,List.getElem?_range ag,h1];simp [af]
  obtain ⟨news,ah,aB⟩:=sf;refine ⟨news,ah,λad fx j u ag=>?_,⟨?_,λj u ag=>?_,λj x u J ag=>?_⟩,λJM CV=>?_⟩
  ·obtain ⟨b,gq,k',h1,af,aD,_⟩:=aB j (by rw [<- ah]; exact (List.getElem?_eq_some_iff.1 ag).1);rw [h1] at ag; cases ag;rw [fx] at af; cases af;exact aD
  ·simp; omega
  ·obtain ⟨b,gq,k',h1,af,aD,bm,_⟩:=aB j (by rw [<- ah]; exact (List.getElem?_eq_some_iff.1 ag).1);rw [h1] at ag; cases ag; exact bm
  ·obtain ⟨b,gq,k',h1,af,aD,bm,b7,dp⟩:=aB j (by rw [<- ah]; exact (List.getElem?_eq_some_iff.1 ag).1);rw [h1] at ag; cases ag;rw [List.getElem?_mapIdx,List.getElem?_take] at J
   split at J
   ·rw [List.getElem?_drop,b7] at J;simp only [Option.map_some,Option.some.injEq] at J;rw [<- J]; exact dp
   ·cases J
  ·obtain ⟨b,_,_,h1,_⟩:=cell 0 (Nat.mul_pos JM CV);exact ⟨b,h1⟩
 cases aw with
 | bd =>
  obtain ⟨a,cap,rfl,_,hlen,hm⟩:=aY.zV;by_cases aK:cells≠[]\/0<m
  ·obtain ⟨ad,us,rfl,bf,iV,hh,aa,hr⟩:=hm aK;refine ⟨_,cap,(List.range cells.length).map us,rfl,by simp [hlen],by simp,λMv fx j u ag=>?_,⟨by simp,λj u ag=>?_,λj x u J ag=>?_⟩⟩
   ·cases fx;rw [List.getElem?_map] at ag;by_cases ez:j<cells.length
    ·rw [List.getElem?_range ez] at ag;simp only [Option.map_some,Option.some.injEq] at ag;obtain ⟨b,o,sp⟩:=ad;simp only at iV;subst iV;rw [add_eq,<- ag];exact aa j _ (List.getElem?_eq_getElem ez)
    ·rw [List.getElem?_eq_none (by simp; omega)] at ag; cases ag
   ·rw [List.getElem?_map] at ag;by_cases ez:j<cells.length
    ·rw [List.getElem?_range ez] at ag;simp only [Option.map_some,Option.some.injEq] at ag;rw [<- ag];exact hh j _ (List.getElem?_eq_getElem ez)
    ·rw [List.getElem?_eq_none (by simp; omega)] at ag; cases ag
   ·rw [List.getElem?_map] at ag;have ez:j<cells.length:=(List.getElem?_eq_some_iff.1 J).1;rw [List.getElem?_range ez] at ag;simp only [Option.map_some,Option.some.injEq] at ag;rw [<- ag];exact hr j x J
  ·have JM:m=0:=by omega
   have Ce:cells=[]:=Classical.byContradiction λe=>aK (.inl e);subst JM Ce;exact ⟨a,cap,[],rfl,by simp,by simp,by simp,by simp [Cells]⟩
 | aQ =>
  rw [aY.ru];exact ⟨none,0,[],rfl,by simp,by simp,by simp,by simp [Cells]⟩
 | @a6 _ _ N q cs a8 hm =>
  obtain ⟨⟨a,kx,cap,h1,rfl,aD⟩,bm⟩:=aY.n2;obtain ⟨dH,cu,ih,ds,_⟩:=h.part a8 (by simp);obtain ⟨b',nq,h9,_⟩:=ds.oa;rw [h1] at ih;cases ih;cases h9;obtain ⟨news,ah,aa,eS,aI⟩:=P4 0 a8 h1 (by omega);simp only [Nat.zero_mul,List.drop_zero,Nat.zero_add] at eS aa;refine ⟨a,cap,news,rfl,ah,λaK Fc=>by obtain ⟨b,rfl⟩:=aI aK Fc; rfl,λad fx j u ag=>?_,eS⟩;have xm:=aa ad fx j u ag;by_cases aK:0<m/\0<z
  ·obtain ⟨b,au⟩:=aI aK.1 aK.2;rw [fx] at au; cases au;rw [add_eq]; simpa using xm
  ·have:m * z=0:=by
    rcases Nat.eq_zero_or_pos m with h | h
    ·simp [h]
    ·rcases Nat.eq_zero_or_pos z with aJ | aJ
     ·simp [aJ]
     ·exact absurd ⟨h,aJ⟩ aK
   have:=(List.getElem?_eq_some_iff.1 ag).1;omega
 | @sub _ lo _ N q cs a8 hm =>
  obtain ⟨⟨a,kx,cap,b',nq,h1,rfl,_,aD,b7⟩,bm⟩:=aY.zW;obtain ⟨dH,cu,ih,ds,_⟩:=h.part a8 (by simp);obtain ⟨a2,r3,h9,_⟩:=ds.oa;rw [h1] at ih;cases ih;cases h9;obtain ⟨news,ah,aa,eS,aI⟩:=P4 lo a8 h1 hm;refine ⟨b',nq,news,rfl,ah,λaK _=>by obtain ⟨ad,_,rfl⟩:=b7 aK; rfl,λad fx j u ag=>?_,eS⟩;have aN:=(List.getElem?_eq_some_iff.1 ag).1;have aK:0<m:=(Nat.eq_zero_or_pos m).elim (λh=>by rw [h] at ah; omega) id

  have aX:0<z:=(Nat.eq_zero_or_pos z).elim (λh=>by rw [h] at ah; omega) id

  obtain ⟨Mv,dp,kC⟩:=b7 aK;obtain ⟨b,au⟩:=aI aK aX;rw [dp] at au; cases au;rw [fx] at kC; cases kC;have xm:=aa _ dp j u ag;rw [add_eq]; simpa using xm
end
inductive Bj (P:Program) (g:aL):Op->TypeId->ab->Prop
 | grow {s x:Operand}{t e ty:TypeId}{z b n m:Nat}{p:Place}{y:ab}{cells:List ab}(aw:bs g s=some (.a6 z p n)) (c7:gA g (.bL z p n 0 [])) (eH:∀ t bR cr m' cL,g t≠some (.bL bR p cr m' cL))
   (J:bs g x=some y) (oJ:Src g y z m cells) (ar:h4 P t e z b=true) (o3:n+m<=4611686018427387904) (au:(n+m) * b<=140737488355328) :
   Bj P g (.call { callee:=.builtin .append,args:=#[s,x],argTypes:=#[t,t] }) ty (.bL z p n m cells)
 | nil {s x:Operand}{t e ty:TypeId}{z b m:Nat}{y:ab}{cells:List ab}(aw:bs g s=some .aQ)
   (J:bs g x=some y) (oJ:Src g y z m cells) (ar:h4 P t e z b=true) (o3:m<=4611686018427387904) (au:m * b<=140737488355328) :
   Bj P g (.call { callee:=.builtin .append,args:=#[s,x],argTypes:=#[t,t] }) ty (.own z m cells)
inductive bT (P:Program) (g:aL):Op->TypeId->ab->Prop
 | ew {op:Op}{ty:TypeId}{x:ab}(h:df P g op ty x):bT P g op ty x
 | rB {op:Op}{ty:TypeId}{x:ab}(h:oq P g op ty x):bT P g op ty x
 | Ak {op:Op}{ty:TypeId}{x:ab}(h:u2 P g op ty x):bT P g op ty x
 | lX {op:Op}{ty:TypeId}{x:ab}(h:Bj P g op ty x):bT P g op ty x
section
variable {P:Program}{w:World}{I:a'}{T:Array Value}{g:aL}{Fs:Nat->a'}
theorem Cells.frame {w':World}{cells:List ab}{news:List Value}(aa:Cells w I (dy w T g) cells news) (bf:∀ c,I c->w'.heap[c]?=w.heap[c]?) (hr:∀ r v,dy w T g r v->dy w' T g r v):Cells w' I (dy w' T g) cells news :=
 ⟨aa.1,aa.2.1,λk x u J hu=>(aa.2.2 k x u J hu).frame bf (λ_ h=>h) hr λ_ h=>h.elim⟩
theorem Bj.sound (h:cA w I T g Fs) {a:Act}(aI:a.tmps=T) {o:Oper}{kO:ab}(aq:Bj P g o.op o.type kO) :
  ∃ v w',(execOp a.eval o).run P w=.ok (.value v) w'/\tz w I T g Fs kO v w':=by
 obtain ⟨dst,op,ty,pos,after,guard⟩:=o;simp only at aq;cases aq with
 | @grow s x t e _ z b n m p y cells aw c7 eH J oJ ar o3 au =>
  obtain ⟨i,cW,hu,hi,rfl,rfl,aK,aX,lT⟩:=EV ar;obtain ⟨⟨wM,N,wN,h1,af,aD⟩,bm⟩:=(j9 h aw aI).n2;obtain ⟨yr,wm,news,rm,ah,xw,xx,eS⟩:=oJ.sound h (j9 h J aI)
  -- the row of the base
  have rl:N=n/\∃ b1 us,w.ownsRow 0 b1 i.size (.slice wM n wN) n us:=by
   rcases c7 with ⟨cs,aq⟩ | ⟨fL,q,gJ,m0,new,cs,aq,rfl,_⟩
   ·obtain ⟨dH,cu,ih,ds,_⟩:=h.part aq (by simp);rw [h1] at ih;cases ih;obtain ⟨b',nq,h9,_⟩:=ds.oa;cases h9;cases ds with
    | own aW=>exact ⟨rfl,_,_,aW⟩
    | ref J=>simp [ab.isRef] at J
   ·obtain ⟨v0,ko,CL,gn⟩:=h.LA aq;have a8:(⟨p.root,[]⟩:Place)=p:=by cases p; simp_all
    rw [a8,h1] at CL;cases CL;obtain ⟨bv,b9,b3,us,afv,gn⟩:=gn.vO;have bp:N=gJ+m0:=by
     obtain ⟨_,bP⟩:=gn.mN;rcases bP with ⟨bP,aB⟩ | ⟨g,cap,cur,bP,_⟩
     ·cases bP; omega
     ·cases bP; rfl
    subst bp;exact ⟨rfl,_,_,gn.mN⟩
  obtain ⟨rfl,b1,us,kE⟩:=rl;have jo:dy w T g (.bL i.size p N 0 []) (.slice wM N wN):=⟨⟨wM,wN,h1,rfl⟩,c7⟩;obtain ⟨dH,w',b3,hj,A⟩:=GK (P:=P) (w:=w) t ty e b1 i cW hu hi aX lT aK kE (a:=yr) (c:=wm) (m:=m) (news:=news) (λhm=>xw hm aK) ah xx (λu hu=>by
   obtain ⟨k,hk,rfl⟩:=List.mem_iff_getElem.1 hu;exact eS.2.1 k _ (List.getElem?_eq_getElem hk)) (by unfold maxLen; omega) au
  obtain ⟨bh,hrefs⟩:=h.app jo eH A;refine ⟨dH,w',by simp [execOp,resolve,invoke,builtin,af,rm,hj],(λc=>dH.ownBlock=some c/\(Value.slice wM N wN).ownBlock≠some c),I,bh,?_,?_,?_,λ_ h=>h,λ_ h=>.inl h,?_,?_⟩
  ·have bf:∀ c,I c->w'.heap[c]?=w.heap[c]?:=by
    intro c aa;refine A.dK.block c (h.lt c aa) λau=>?_;obtain ⟨t,ar⟩:=h.EZ jo c au;exact h.bd t c ar aa
   have lP:=eS.frame bf hrefs;exact .bL ⟨hrefs _ _ jo,A.mU,A.new,lP.1,lP.2.1,lP.2.2,λc=>Iff.rfl⟩
  ·rintro t c ⟨kl,qq⟩ aT;rcases A.Bv c kl with h | aJ
   ·exact qq h
   ·have:=h.iX t c aT; omega
  ·rintro c ⟨kl,qq⟩;rcases A.Bv c kl with aJ | aJ
   ·exact absurd aJ qq
   ·exact ⟨aJ,λhi=>by have:=h.lt c hi; omega⟩
  ·exact A.dK.mono λc _ aa=>h.EZ jo c aa
  ·intro bR K7 cr m' cL he;cases he;exact eH
 | @nil s x t e _ z b m y cells aw J oJ ar o3 au =>
  obtain ⟨i,cW,hu,hi,rfl,rfl,aK,aX,lT⟩:=EV ar;have af:=(j9 h aw aI).ru;obtain ⟨yr,wm,news,rm,ah,xw,xx,eS⟩:=oJ.sound h (j9 h J aI);obtain ⟨dH,w',b3,hj,A⟩:=GK (P:=P) (w:=w) t ty e e i cW hu hi aX lT aK (World.ownsRow_nil w 0 e i.size) (a:=yr) (c:=wm) (m:=m) (news:=news) (λhm=>xw hm aK) ah xx (λu hu=>by
   obtain ⟨k,hk,rfl⟩:=List.mem_iff_getElem.1 hu;exact eS.2.1 k _ (List.getElem?_eq_getElem hk)) (by unfold maxLen; omega) (by simpa using au)
  have same:∀ c,c<w.heap.size->w'.heap[c]?=w.heap[c]?:=λc aa=>A.dK.block c aa (by simp [Value.ownBlock]);have se:=A.new;simp only [Nat.zero_add,List.nil_append] at se;have lP:=eS.frame (λc aa=>same c (h.lt c aa)) λr v hr=>h.GF (λ_ _=>rfl) (λt c aa=>same c (h.iX t c aa)) (λ_ _ h=>h) hr;have hblk:∀ c,dH.ownBlock=some c->w.heap.size<=c:=λc aa=>(A.Bv c aa).elim (λh=>by simp [Value.ownBlock] at h) id;refine ⟨dH,w',by simp [execOp,resolve,invoke,builtin,af,rm,hj],(λc=>dH.ownBlock=some c),I,h.world (λt c aa=>same c (h.iX t c aa)) (λc aa=>same c (h.lt c aa)) A.dK.size,?_,?_,λc aa=>⟨hblk c aa,λhi=>by have:=h.lt c hi; have:=hblk c aa; omega⟩,λ_ h=>h,λ_ h=>.inl h,?_,?_⟩
  ·exact .tree (.own (Fs:=λ_=>cj) se lP.1 lP.2.1 lP.2.2 (λ_ _ _ _ _ h=>h.elim) (λ_ _ _ h=>h.elim) λc=>⟨.inl,λh=>h.elim id λ⟨_,_,h⟩=>h.elim⟩)
  ·intro t c aa aT; have:=hblk c aa; have:=h.iX t c aT; omega
  ·exact A.dK.mono λc _ aa=>by simp [Value.ownBlock] at aa
  ·intro bR K7 cr m' cL he; cases he
theorem bT.sound (h:cA w I T g Fs) {a:Act}(aI:a.tmps=T) {o:Oper}{kO:ab}(aq:bT P g o.op o.type kO) :
  ∃ v w',(execOp a.eval o).run P w=.ok (.value v) w'/\tz w I T g Fs kO v w':=by
 have De:∀ {v:Value}{F:a'},R w I (dy w T g) kO v F->∀ z p n m new,kO=.bL z p n m new->∀ t bR cr m' cL,g t≠some (.bL bR p cr m' cL):=by
  rintro v F aY z p n m new rfl;exact aY.lv.elim
 cases aq with
 | ew aq =>
  obtain ⟨v,hr,aY⟩:=aq.sound h aI;exact ⟨v,w,hr,cj,I,h,.tree aY,λ_ _ h=>h.elim,λ_ h=>h.elim,λ_ h=>h,λ_ h=>.inl h,Fr.refl _ _,De aY⟩
 | Ak aq =>
  obtain ⟨v,hr,aY⟩:=aq.sound h aI;exact ⟨v,w,hr,cj,I,h,.tree aY,λ_ _ h=>h.elim,λ_ h=>h.elim,λ_ h=>h,λ_ h=>.inl h,Fr.refl _ _,De aY⟩
 | rB aq =>
  obtain ⟨v,sA,hr,aY⟩:=aq.sound h aI;refine ⟨v,_,hr,_,I,h.alloc sA,.tree aY,λt c aa aT=>?_,λc aa=>⟨by rw [aa]; exact Nat.le_refl _,λhi=>by have:=h.lt c hi; omega⟩,λ_ h=>h,λ_ h=>.inl h,Fr.alloc w sA _ (by
   obtain ⟨o,h1,af⟩:=aY.ZQ w.heap.size rfl;rw [q7] at h1;cases h1;exact af),?_⟩
  ·have:=h.iX t c aT; omega
  ·rintro z p n m new rfl; exact aY.lv.elim
 | lX aq=>exact aq.sound h aI
end
inductive cC:ab->Prop
 | lit {v:Value}:cC (.lit v)
 | aQ:cC .aQ
 | dead:cC .dead
 | self {k:Nat × Nat}:cC (.self k)
 | bd {z n:Nat}{cs:List ab}(h:∀ x∈cs,cC x):cC (.bd z n cs)
 | own {z n:Nat}{cs:List ab}(h:∀ x∈cs,cC x):cC (.own z n cs)
 | obj {cs:List ab}(h:∀ x∈cs,cC x):cC (.obj cs)
 | agg {cs:List ab}(h:∀ x∈cs,cC x):cC (.agg cs)
 | bS {cs:List ab}(h:∀ x∈cs,cC x):cC (.bS cs)
 | cw {cs:List ab}(h:∀ x∈cs,cC x):cC (.cw cs)
 | cD {fn:Fn}{a b:List ab}(h1:∀ x∈a,cC x) (af:∀ x∈b,cC x):cC (.cD fn a b)
 | mp {p:Array MapEntry->Nat->Prop}:cC (.mp p)
 | hS {t:Nat}{us:List Value}:cC (.hS t us)
 | imp {p:Array MapEntry->Nat->Prop}:cC (.imp p)
inductive jV:ab->Prop
 | lit {v:Value}:jV (.lit v)
 | aQ:jV .aQ
 | dead:jV .dead
 | self {k:Nat × Nat}:jV (.self k)
 | own {z n:Nat}{cs:List ab}(h:∀ x∈cs,jV x):jV (.own z n cs)
 | obj {cs:List ab}(h:∀ x∈cs,jV x):jV (.obj cs)
 | agg {cs:List ab}(h:∀ x∈cs,jV x):jV (.agg cs)
 | bS {cs:List ab}(h:∀ x∈cs,jV x):jV (.bS cs)
 | mp {p:Array MapEntry->Nat->Prop}:jV (.mp p)
 | hS {t:Nat}{us:List Value}:jV (.hS t us)
 | gG {z:Nat}:jV (.bd z 0 [])
theorem jV.bk {x:ab}(h:jV x):cC x:=by
 induction h with
 | lit=>exact .lit
 | aQ=>exact .aQ
 | dead=>exact .dead
 | self=>exact .self
 | own _ aM=>exact .own aM
 | obj _ aM=>exact .obj aM
 | agg _ aM=>exact .agg aM
 | bS _ aM=>exact .bS aM
 | mp=>exact .mp
 | hS=>exact .hS
 | gG=>exact .bd (by simp)
inductive Rows (g:aL):Place->Nat->Nat->List ab->Prop
 | own {p:Place}{z n:Nat}{cs:List ab}(aq:bG g p=some (.own z n cs)):Rows g p z n cs
 | bL {t z n m:Nat}{q:Place}{new cs:List ab}(ar:g t=some (.bL z q n m new)) (a8:Rows g q z n cs):Rows g ⟨t,[]⟩ z (n+m) (cs++new)
theorem Rows.mono {g g':aL}(h:∀ {p:Place}{y:ab},bG g p=some y->bG g' p=some y) {p:Place}{z n:Nat}{cs:List ab}(hr:Rows g p z n cs) (af:∀ t x,g t=some x->g' t=some x):Rows g' p z n cs:=by
 induction hr with
 | own aq=>exact .own (h aq)
 | bL ar _ aM=>exact .bL (af _ _ ar) aM
inductive View (g:aL):ab->ab->Prop
 | self {x:ab}(h:cC x) (J:∀ z n cs,x≠.own z n cs) (aW:∀ cs,x≠.obj cs) (aI:∀ cs,x≠.agg cs) (ar:∀ cs,x≠.bS cs) (hm:(∀ p,x≠.mp p)/\∀ t us,x≠.hS t us):View g x x
 | mp {p:Array MapEntry->Nat->Prop}:View g (.mp p) (.imp p)
 | gj {p:Place}{q:Array MapEntry->Nat->Prop}(aq:bG g p=some (.mp q)):View g (.gj p) (.imp q)
 | qE {z:Nat}:View g .aQ (.bd z 0 [])
 | agg {cs cs':List ab}(ah:cs'.length=cs.length) (h:∀ (k:Nat) (x y:ab),cs[k]?=some x->cs'[k]?=some y->View g x y):View g (.agg cs) (.agg cs')
 | own {z n:Nat}{cs cs':List ab}(ah:cs'.length=cs.length) (h:∀ (k:Nat) (x y:ab),cs[k]?=some x->cs'[k]?=some y->View g x y):View g (.own z n cs) (.bd z n cs')
 | obj {cs cs':List ab}(ah:cs'.length=cs.length) (h:∀ (k:Nat) (x y:ab),cs[k]?=some x->cs'[k]?=some y->View g x y):View g (.obj cs) (.cw cs')
 | a6 {z n N:Nat}{p:Place}{cs cs':List ab}(aq:bG g p=some (.own z N cs)) (aB:n<=N) (ah:cs'.length=(cs.take (n * z)).length) (h:∀ (k:Nat) (x y:ab),(cs.take (n * z))[k]?=some x->cs'[k]?=some y->View g x y):View g (.a6 z p n) (.bd z n cs')
 | sub {z lo n N:Nat}{p:Place}{cs cs':List ab}(aq:bG g p=some (.own z N cs)) (aB:lo+n<=N) (ah:cs'.length=((cs.drop (lo * z)).take (n * z)).length) (h:∀ (k:Nat) (x y:ab),((cs.drop (lo * z)).take (n * z))[k]?=some x->cs'[k]?=some y->View g x y):View g (.sub z p lo n) (.bd z n cs')
 | ptr {p:Place}{k z n:Nat}{y:ab}{cs cs':List ab}(aq:bG g p=some y) (ao:y=.own z n cs\/y=.obj cs) (hk:k<cs.length) (ah:cs'.length=(cs.drop k).length) (h:∀ (j:Nat) (x y:ab),(cs.drop k)[j]?=some x->cs'[j]?=some y->View g x y):View g (.ptr p k) (.cw cs')
 | cD {fn:Fn}{cs cs':List ab}(ah:cs'.length=cs.length) (h:∀ (k:Nat) (x y:ab),cs[k]?=some x->cs'[k]?=some y->View g x y):View g (.cD fn [] cs) (.cD fn [] cs')
 | rows {z n:Nat}{p:Place}{cs cs':List ab}(aq:Rows g p z n cs) (ah:cs'.length=cs.length) (h:∀ (k:Nat) (x y:ab),cs[k]?=some x->cs'[k]?=some y->View g x y):View g (.a6 z p n) (.bd z n cs')
section
variable {P:Program}{w:World}{I:a'}{T:Array Value}{g:aL}{Fs:Nat->a'}
theorem R.bk {ρ ρ':ab->Value->Prop}{x:ab}{v:Value}{F:a'}(h:R w I ρ x v F):cC x->R w I ρ' x v F:=by
 induction h with
 | lit h aH=>exact λ_=>.lit h aH
 | aQ aH=>exact λ_=>.aQ aH
 | dead aH=>exact λ_=>.dead aH
 | mq aH=>exact λ_=>.mq aH
 | @ref x _ _ J h aH=>intro aB; cases aB <;> simp [ab.isRef] at J
 | gG aH=>exact λ_=>.gG aH
 | bd aH lO bf aw ah h1 aa hr aM=>exact λaB=>.bd aH lO bf aw ah h1 aa λk x J=>aM k x J (by cases aB with | bd h=>exact h x (List.mem_of_getElem? J))
 | cw aH bf aw h1 aa hr aM=>exact λaB=>.cw aH bf aw h1 aa λk x J=>aM k x J (by cases aB with | cw h=>exact h x (List.mem_of_getElem? J))
 | own aW ah h1 hr aO au aH aM=>exact λaB=>.own aW ah h1 (λk x u J hu=>aM k x u J hu (by cases aB with | own h=>exact h x (List.mem_of_getElem? J))) aO au aH
 | obj aW ah h1 hr aO au aH aw aM=>exact λaB=>.obj aW ah h1 (λk x u J hu=>aM k x u J hu (by cases aB with | obj h=>exact h x (List.mem_of_getElem? J))) aO au aH aw
 | agg ah h1 hr aO aH aM=>exact λaB=>.agg ah h1 (λk x u J hu=>aM k x u J hu (by cases aB with | agg h=>exact h x (List.mem_of_getElem? J))) aO aH
 | bS ah hr aO aH aM=>exact λaB=>.bS ah (λk x u J hu=>aM k x u J hu (by cases aB with | bS h=>exact h x (List.mem_of_getElem? J))) aO aH
 | mp aW aq aH=>exact λ_=>.mp aW aq aH
 | hS aW h1 aH=>exact λ_=>.hS aW h1 aH
 | imp aH bf aW aq=>exact λ_=>.imp aH bf aW aq
 | cD aH h1 af iU hz gh fQ=>exact λaB=>.cD aH h1 af (λk x u J hu=>gh k x u J hu (by cases aB with | cD h _=>exact h x (List.mem_of_getElem? J))) (λk x u J hu=>fQ k x u J hu (by cases aB with | cD _ h=>exact h x (List.mem_of_getElem? J)))
theorem R.n9 {ρ:ab->Value->Prop}{I':a'}{x:ab}{v:Value}{F:a'}(h:R w I ρ x v F) (bf:∀ c,I c->I' c):R w I' ρ x v F :=
 h.frame (λ_ _=>rfl) bf (λ_ _ h=>h) λ_ _=>rfl
theorem R.lW {ρ ρ':ab->Value->Prop}{I':a'}{x:ab}{v:Value}{F:a'}(h:R w I ρ x v F):jV x->R w I' ρ' x v F:=by
 induction h with
 | lit h aH=>exact λ_=>.lit h aH
 | aQ aH=>exact λ_=>.aQ aH
 | dead aH=>exact λ_=>.dead aH
 | mq aH=>exact λ_=>.mq aH
 | @ref x _ _ J h aH=>intro aB; cases aB <;> simp [ab.isRef] at J
 | gG aH=>exact λ_=>.gG aH
 | bd aH=>intro aB; cases aB; exact .gG aH
 | cw=>intro aB; cases aB
 | own aW ah h1 hr aO au aH aM=>exact λaB=>.own aW ah h1 (λk x u J hu=>aM k x u J hu (by cases aB with | own h=>exact h x (List.mem_of_getElem? J))) aO au aH
 | obj aW ah h1 hr aO au aH aw aM=>exact λaB=>.obj aW ah h1 (λk x u J hu=>aM k x u J hu (by cases aB with | obj h=>exact h x (List.mem_of_getElem? J))) aO au aH aw
 | agg ah h1 hr aO aH aM=>exact λaB=>.agg ah h1 (λk x u J hu=>aM k x u J hu (by cases aB with | agg h=>exact h x (List.mem_of_getElem? J))) aO aH
 | bS ah hr aO aH aM=>exact λaB=>.bS ah (λk x u J hu=>aM k x u J hu (by cases aB with | bS h=>exact h x (List.mem_of_getElem? J))) aO aH
 | cD=>intro aB; cases aB
 | mp aW aq aH=>exact λ_=>.mp aW aq aH
 | hS aW h1 aH=>exact λ_=>.hS aW h1 aH
 | imp=>intro aB; cases aB
theorem R.Aj {ρ:ab->Value->Prop}{z n:Nat}{cs:List ab}{v:Value}{F:a'}(h:R w I ρ (.own z n cs) v F):∃ (a:Option Addr) (cap:Nat) (us:Nat->Value) (bH:Nat->a'),v=.slice a n cap/\n<=cap/\cs.length=n * z /\
  (∀ ad,a=some ad->∃ b,ad=⟨b,0,none⟩/\F b)/\(∀ (k:Nat) (x:ab),cs[k]?=some x->∃ b,a=some ⟨b,0,none⟩/\w.cell? ⟨b,k,none⟩=some (us k)/\(us k).oneCell'=true/\R w I ρ x (us k) (bH k)/\∀ c,bH k c->F c):=by
 have aK:=h;cases h with
 | ref J=>simp [ab.isRef] at J
 | @own _ _ _ _ e us Fs _ aW ah h1 hr aO au aH =>
  obtain ⟨a,cap,rfl,aB,hlen,o8,sj⟩:=aK.oa;refine ⟨a,cap,λk=>us.getD k undef,Fs,rfl,aB,hlen,λad fx=>?_,λk x hk=>?_⟩
  ·obtain ⟨OL,OM⟩:=o8 ad fx;obtain ⟨b,o,sp⟩:=ad;simp only at OL OM;subst OL OM;exact ⟨b,rfl,(aH b).2 (.inl (by rw [fx]; rfl))⟩
  ·have aN:k<cs.length:=(List.getElem?_eq_some_iff.1 hk).1;have hu:us[k]?=some us[k]:=List.getElem?_eq_getElem (ah ▸ aN);obtain ⟨b,u,fx,mJ,nZ,hh,_⟩:=aK.node (.inl rfl) hk;have:a=some ⟨b,0,none⟩:=by
    cases a with
    | none=>simp [addrOf] at fx
    | some ad=>simp only [addrOf] at fx; rw [Option.some.inj fx]
   grind [pf]
theorem R.Gb {ρ:ab->Value->Prop}{y:ab}{v:Value}{F:a'}{z n:Nat}{cs:List ab}(h:R w I ρ y v F) (ao:y=.own z n cs\/y=.obj cs) {ad:Addr}(aI:addrOf v=some ad):F ad.block:=by
 rcases ao with rfl | rfl
 ·obtain ⟨a,cap,rfl,_⟩:=h.oa;refine h.rA _ ?_;cases a with
  | none=>simp [addrOf] at aI
  | some a=>simp only [addrOf,Option.some.injEq] at aI; subst aI; rfl
 ·cases h with
  | ref J=>simp [ab.isRef] at J
  | obj aW ah h1 hr aO au aH=>simp only [addrOf,Option.some.injEq] at aI; subst aI; exact (aH _).2 (.inl rfl)
theorem Zs {w:World}{e b1:TypeId}{z n:Nat}{v:Value}{us iL:List Value}(h:w.ownsRow 0 e z v n us) (aJ:w.ownsRow 0 b1 z v n iL):us=iL:=by
 obtain ⟨h1,af⟩:=h;obtain ⟨aD,bm⟩:=aJ;rcases af with ⟨rfl,rfl⟩ | ⟨b,cap,cur,rfl,_,bP,_,_,_,ar⟩
 ·grind
 grind
theorem Rows.sound {ρ:ab->Value->Prop}(H1:∀ t z q n m new,g t=some (.bL z q n m new)->∃ v,T[t]?=some v/\jB w I ρ (.bL z q n m new) v (Fs t))
  (Sg:∀ p z n cs,bG g p=some (.own z n cs)->∃ v cu,dx w T p=some v/\R w I ρ (.own z n cs) v cu/\∀ c,cu c->Fs p.root c) (Bd:∀ z p n v,ρ (.bL z p n 0 []) v->dx w T p=some v) {p:Place}{z n:Nat}{cs:List ab}(h:Rows g p z n cs) :
  ∃ v e us,dx w T p=some v/\w.ownsRow 0 e z v n us/\us.length=cs.length/\(∀ (k:Nat) (u:Value),us[k]?=some u->u.oneCell'=true)/\(∀ c,v.ownBlock=some c->∃ t,Fs t c) /\
   (∀ (k:Nat) (x:ab) (u:Value),cs[k]?=some x->us[k]?=some u->∃ bH,R w I ρ x u bH/\∀ c,bH c->∃ t,Fs t c):=by
 induction h with
 | @own p z n cs aq =>
  obtain ⟨v,cu,hv,aY,aH⟩:=Sg p z n cs aq;cases aY with
  | ref J=>simp [ab.isRef] at J
  | @own _ _ _ _ e us bH _ aW ah h1 hr aO au ma =>
   grind
 | @bL t z n m q new cs ar _ aM =>
  obtain ⟨v,hv,aY⟩:=H1 t z q n m new ar;obtain ⟨v0,e,us,ko,aW,ah,h1,au,hr⟩:=aM;cases aY with
  | tree aY=>exact aY.lv.elim
  | @bL _ _ _ _ _ _ bv b9 b3 abq news _ aY =>
   have ft:=Bd _ _ _ _ aY.jo;rw [ko] at ft;cases ft;have:=Zs aW aY.kE;subst this;refine ⟨v,b3,us++news,by simp [dx,hv,walk],aY.mN,by rw [List.length_append,List.length_append,ah,aY.ah],λk u hu=>?_,λc aa=>?_,λk x u J hu=>?_⟩
   ·by_cases hk:k<us.length
    ·grind
    ·rw [List.getElem?_append_right (by omega)] at hu; exact aY.h1 _ u hu
   ·by_cases qp:v0.ownBlock=some c
    ·grind
    ·exact ⟨t,(aY.aH c).2 ⟨aa,qp⟩⟩
   ·by_cases hk:k<us.length
    ·grind
    ·rw [List.getElem?_append_right (by omega)] at J;rw [List.getElem?_append_right (by omega),ah] at hu;exact ⟨_,aY.hr _ x u J hu,λc aa=>aa.elim⟩
theorem QH {ρ':ab->Value->Prop}{e:TypeId}{z n N cap:Nat}{a:Option Addr}{us:List Value}{cs cs':List ab}(aW:w.ownsRow 0 e z (.slice a N cap) n us) (hlen:us.length=cs.length) (h1:∀ (k:Nat) (u:Value),us[k]?=some u->u.oneCell'=true) (au:∀ c,(Value.slice a N cap).ownBlock=some c->∃ t,Fs t c) (ah:cs'.length=cs.length)
  (hr:∀ (k:Nat) (x y:ab) (u:Value),cs[k]?=some x->cs'[k]?=some y->us[k]?=some u->R w (λc=>I c\/∃ t,Fs t c) ρ' y u cj):R w (λc=>I c\/∃ t,Fs t c) ρ' (.bd z n cs') (.slice a n cap) cj:=by
 obtain ⟨OG,aW⟩:=aW;rcases aW with ⟨ft,aK⟩ | ⟨b,r3,cur,b9,_,bP,Fv,aa,aw,ar⟩
 ·cases ft;subst aK;have lP:cs'=[]:=List.eq_nil_of_length_eq_zero (by rw [ah,<- hlen,OG]; simp);subst lP;exact .gG λ_ h=>h
 ·cases b9;refine .bd (us:=λk=>us.getD k undef) (λ_ h=>h) Fv (.inr (au b rfl)) rfl (by rw [ah,<- hlen,OG]) (λk y ao=>?_) (λk y ao=>?_) λk y ao=>?_
  all_goals
   have hk:k<us.length:=by rw [hlen,<- ah]; exact (List.getElem?_eq_some_iff.1 ao).1
   have hu:us[k]?=some us[k]:=List.getElem?_eq_getElem hk;have aP:us.getD k undef=us[k]:=by simp [List.getD,hu]
  ·grind
  ·rw [aP];have zS:∀ u,us[k]?=some u->w.cell? ⟨b,k,none⟩=some u:=λu zS=>by
    rw [<- ar,List.getElem?_take] at zS
    split at zS
    ·simpa [World.cell?,bP] using zS
    grind
   grind
  grind
theorem View.sound (h:cA w I T g Fs) {x x':ab}(hv:View g x x'):∀ {v:Value}{F:a'},R w I (dy w T g) x v F->(∀ c,F c->∃ t,Fs t c)->∀ ρ',R w (λc=>I c\/∃ t,Fs t c) ρ' x' v cj:=by
 induction hv with
 | qE =>
  intro v F aY aH ρ';have:=aY.ru;subst this;exact .gG λ_ h=>h
 | mp =>
  intro v F aY aH ρ';cases aY with
  | ref J=>simp [ab.isRef] at J
  | mp aW aq au=>exact .imp (λ_ h=>h) (.inr (aH _ ((au _).2 rfl))) aW aq
 | gj aq =>
  intro v F aY aH ρ';cases aY with
  | ref _ hr _ =>
   obtain ⟨⟨b,au,rfl⟩,_⟩:=hr;obtain ⟨dH,cu,ih,ds,c_⟩:=h.part aq (by simp);rw [au] at ih;cases ih;cases ds with
   | ref J=>simp [ab.isRef] at J
   | mp aW aq au=>exact .imp (λ_ h=>h) (.inr ⟨_,c_ _ ((au _).2 rfl)⟩) aW aq
 | self aB h1 af aD bm b7 =>
  intro v F aY aH ρ';refine ((aY.bk aB).n9 λc aa=>.inl aa).empty ?_;cases aY with
  | mp=>exact absurd rfl (b7.1 _)
  | hS=>exact absurd rfl (b7.2 _ _)
  | lit _ aH | aQ aH | dead aH | mq aH | ref _ _ aH | gG aH | bd aH | cw aH | cD aH | imp aH=>exact aH
  | own=>exact absurd rfl (h1 _ _ _)
  | obj=>exact absurd rfl (af _)
  | agg=>exact absurd rfl (aD _)
  | bS=>exact absurd rfl (bm _)
 | @agg cs cs' ah _ aM =>
  intro v F aY aH ρ';cases aY with
  | ref J=>simp [ab.isRef] at J
  | @agg _ vs bH _ hL h1 hr aO ma =>
   refine .agg (Fs:=λ_=>cj) (by rw [ah,hL]) h1 (λk y u ao hu=>?_) (λ_ _ _ _ _ h=>h.elim) (λc=>⟨λh=>h.elim,λ⟨_,_,h⟩=>h⟩);have hk:k<cs.length:=by rw [<- ah]; exact (List.getElem?_eq_some_iff.1 ao).1
   have J:=List.getElem?_eq_getElem hk;exact aM k _ y J ao (hr k _ u J hu) (λc aa=>aH c ((ma c).2 ⟨k,hk,aa⟩)) ρ'
 | @cD fn cs cs' ah _ aM =>
  intro v F aY aH ρ';cases aY with
  | ref J=>simp [ab.isRef] at J
  | @cD _ _ _ v1 v2 _ mG h1 af iU hz =>
   refine .cD (λ_ h=>h) h1 (by rw [ah,af]) (λk x u J=>by simp at J) (λk y u ao hu=>?_);have hk:k<cs.length:=by rw [<- ah]; exact (List.getElem?_eq_some_iff.1 ao).1
   have J:=List.getElem?_eq_getElem hk;exact aM k _ y J ao (hz k _ u J hu) (λc aa=>aa.elim) ρ'
 | @own z n cs cs' ah _ aM =>
  intro v F aY aH ρ';obtain ⟨a,cap,us,bH,rfl,aB,hlen,aI,aa⟩:=aY.Aj;cases a with
  | none =>
   have eS:cs=[]:=by
    cases cs with
    | nil=>rfl
    | cons c cs=>obtain ⟨b,au,_⟩:=aa 0 c rfl; cases au
   subst eS;have lP:cs'=[]:=List.eq_nil_of_length_eq_zero (by simpa using ah);subst lP;have mf:n=0:=by
    cases aY with
    | ref J=>simp [ab.isRef] at J
    | own aW =>
     obtain ⟨_,bP⟩:=aW;rcases bP with ⟨bP,aK⟩ | ⟨b,c2,cur,bP,_⟩
     ·exact aK
     ·cases bP
   subst mf;exact .gG λ_ h=>h
  | some ad =>
   obtain ⟨b,rfl,r9⟩:=aI ad rfl;refine .bd (us:=us) (λ_ h=>h) aB (.inr (aH b r9)) rfl (by rw [ah,hlen]) (λk y ao=>?_) (λk y ao=>?_) λk y ao=>?_
   all_goals
    have hk:k<cs.length:=by rw [<- ah]; exact (List.getElem?_eq_some_iff.1 ao).1
    have J:=List.getElem?_eq_getElem hk;obtain ⟨dR,j2,h1,af,aD,bm⟩:=aa k _ J;cases j2
   ·exact af
   ·simpa using h1
   ·exact aM k _ y J ao aD (λc aa=>aH c (bm c aa)) ρ'
 | @obj cs cs' ah _ aM =>
  intro v F aY aH ρ';cases aY with
  | ref J=>simp [ab.isRef] at J
  | @obj _ b e arr bH _ aW hL h1 hr aO au ma =>
   refine .cw (us:=λk=>arr.getD k undef) (λ_ h=>h) (.inr (aH b ((ma b).2 (.inl rfl)))) rfl (λk y ao=>?_) (λk y ao=>?_) λk y ao=>?_
   all_goals
    have hk:k<cs.length:=by rw [<- ah]; exact (List.getElem?_eq_some_iff.1 ao).1
    have J:=List.getElem?_eq_getElem hk;have hu:arr[k]?=some arr[k]:=Array.getElem?_eq_getElem (hL ▸ hk)
   ·simpa [hu] using h1 k _ hu
   ·simp [World.cell?,aW,hu]
   ·simpa [hu] using aM k _ y J ao (hr k _ _ J hu) (λc aa=>aH c ((ma c).2 (.inr ⟨k,hk,aa⟩))) ρ'
 | @a6 z n N p cs cs' aq aB ah _ aM =>
  intro v F aY aH ρ';obtain ⟨⟨a,kx,cap,h1,rfl,aD⟩,_⟩:=aY.n2;obtain ⟨qN,qY,gD,hy,mH⟩:=h.part aq (by simp);rw [h1] at gD;cases gD;obtain ⟨a2,r3,us,bH,h9,lO,hlen,aI,aa⟩:=hy.Aj;cases h9;have hle:n * z<=N * z:=Nat.mul_le_mul_right _ aB;have cell:∀ k,k<cs'.length->∃ x b,(cs.take (n * z))[k]?=some x/\a=some ⟨b,0,none⟩/\w.cell? ⟨b,k,none⟩=some (us k)/\(us k).oneCell'=true/\R w I (dy w T g) x (us k) (bH k)/\∀ c,bH k c->qY c:=by
   intro k hk;rw [ah,List.length_take] at hk;have J:cs[k]?=some cs[k]:=List.getElem?_eq_getElem (by omega);obtain ⟨b,r⟩:=aa k _ J;exact ⟨_,b,by rw [List.getElem?_take,if_pos (by omega)]; exact J,r⟩
  cases a with
  | none =>
   have lP:cs'=[]:=by
    cases cs' with
    | nil=>rfl
    | cons c l=>obtain ⟨_,b,_,au,_⟩:=cell 0 (by simp); cases au
   subst lP;obtain ⟨_,_,h9,_,_,_,sj⟩:=hy.oa;cases h9;have mf:n=0:=by
    rcases Nat.eq_zero_or_pos n with aK | aK
    ·exact aK
    ·have:=sj (by omega); simp at this
   subst mf;exact .gG λ_ h=>h
  | some ad =>
   obtain ⟨b,rfl,r9⟩:=aI ad rfl;refine .bd (us:=us) (λ_ h=>h) (by omega) (.inr ⟨_,mH b r9⟩) rfl (by rw [ah,List.length_take,hlen]; omega) (λk y ao=>?_) (λk y ao=>?_) λk y ao=>?_
   all_goals
    obtain ⟨x,dR,J,j2,bm,b7,dp,kC⟩:=cell k (List.getElem?_eq_some_iff.1 ao).1;cases j2
   ·exact b7
   ·simpa using bm
   ·exact aM k x y J ao dp (λc aa=>⟨_,mH c (kC c aa)⟩) ρ'
 | @sub z lo n N p cs cs' aq aB ah _ aM =>
  intro v F aY aH ρ';obtain ⟨⟨a,kx,cap,b',nq,h1,rfl,JT,aD,b7⟩,_⟩:=aY.zW;obtain ⟨qN,qY,gD,hy,mH⟩:=h.part aq (by simp);rw [h1] at gD;cases gD;obtain ⟨a2,r3,us,bH,h9,lO,hlen,aI,aa⟩:=hy.Aj;cases h9;have hle:lo * z+n * z<=N * z:=by rw [<- Nat.add_mul]; exact Nat.mul_le_mul_right _ aB
  have hL:cs'.length=n * z:=by rw [ah,List.length_take,List.length_drop,hlen]; omega
  have cell:∀ k,k<cs'.length->∃ x b,((cs.drop (lo * z)).take (n * z))[k]?=some x/\a=some ⟨b,0,none⟩/\w.cell? ⟨b,lo * z+k,none⟩=some (us (lo * z+k))/\(us (lo * z+k)).oneCell'=true/\R w I (dy w T g) x (us (lo * z+k)) (bH (lo * z+k))/\∀ c,bH (lo * z+k) c->qY c:=by
   intro k hk;have J:cs[lo * z+k]?=some cs[lo * z+k]:=List.getElem?_eq_getElem (by omega);obtain ⟨b,r⟩:=aa _ _ J;exact ⟨_,b,by rw [List.getElem?_take,if_pos (by omega),List.getElem?_drop]; exact J,r⟩
  by_cases mf:n=0
  ·subst mf;have lP:cs'=[]:=List.eq_nil_of_length_eq_zero (by simpa using hL);subst lP;exact .gG λ_ h=>h
  ·obtain ⟨ad,rfl,rfl⟩:=b7 (by omega);obtain ⟨b,rfl,r9⟩:=aI ad rfl;refine .bd (us:=λk=>us (lo * z+k)) (λ_ h=>h) JT (.inr ⟨_,mH b r9⟩) rfl hL (λk y ao=>?_) (λk y ao=>?_) λk y ao=>?_
   all_goals
    obtain ⟨x,dR,J,j2,bm,IQ,dp,kC⟩:=cell k (List.getElem?_eq_some_iff.1 ao).1;cases j2
   ·exact IQ
   ·simpa using bm
   ·exact aM k x y J ao dp (λc aa=>⟨_,mH c (kC c aa)⟩) ρ'
 | @ptr p k z n y cs cs' aq ao hk ah _ aM =>
  intro v F aY aH ρ';obtain ⟨⟨u,ad,h1,af,rfl⟩,_⟩:=aY.n3;obtain ⟨qN,qY,gD,hy,mH⟩:=h.part aq (by rcases ao with rfl | rfl <;> simp);rw [h1] at gD;cases gD;have cell:∀ j,j<cs'.length->∃ gq k' wD,w.cell? ⟨ad.block,k+j,none⟩=some gq/\gq.oneCell'=true/\(cs.drop k)[j]?=some k'/\R w I (dy w T g) k' gq wD/\(∀ c,wD c->∃ t,Fs t c):=by
   intro j ag;rw [ah,List.length_drop] at ag;have e8:cs[k+j]?=some cs[k+j]:=List.getElem?_eq_getElem (by omega);obtain ⟨b,gq,fx,mJ,nZ,hh,_⟩:=hy.node ao e8;rw [af] at fx;cases fx;have fD:bG g (p.push (k+j))=some cs[k+j]:=by rw [tL,aq]; rcases ao with rfl | rfl <;> simp [ab.kids]
   by_cases gN:∃ bR fB cr m' cL,cs[k+j]=.bL bR fB cr m' cL
   ·obtain ⟨bR,fB,cr,m',cL,gN⟩:=gN;obtain ⟨b,abt,_,_,Cg,_,bH,ki⟩:=hy.node ao e8;rw [gN] at ki;exact ki.lv.elim
   ·obtain ⟨po,Hn,sl,I1,ma⟩:=h.part fD (λbR fB cr m' cL e=>gN ⟨_,_,_,_,_,e⟩);rw [yB,h1] at sl;simp only [Option.bind_some] at sl;rw [nZ] at sl;cases sl;exact ⟨gq,_,Hn,mJ,hh,by rw [List.getElem?_drop]; exact e8,I1,λc aa=>⟨_,ma c aa⟩⟩
  obtain ⟨b,gq,fx,_⟩:=hy.node ao (List.getElem?_eq_getElem hk);rw [af] at fx;cases fx;have hblk:∃ t,Fs t b:=⟨_,mH b (hy.Gb ao af)⟩;refine .cw (us:=λj=>(w.cell? ⟨b,k+j,none⟩).getD undef) (λ_ h=>h) (.inr hblk) rfl (λj iM ta=>?_) (λj iM ta=>?_) λj iM ta=>?_
  all_goals
   obtain ⟨gq,k',wD,c1,c2,kz,c4,jD⟩:=cell j (List.getElem?_eq_some_iff.1 ta).1
  ·simpa [c1] using c2
  ·simp [c1]
  ·simpa [c1] using aM j k' iM kz ta c4 jD ρ'
 | @rows z n p cs cs' aq ah _ aM =>
  intro v F aY aH ρ';obtain ⟨a,kx,cap,h1,rfl,aD⟩:=aY.n2.1;obtain ⟨v0,e,us,ko,aW,hlen,jl,au,hr⟩:=Rows.sound (w:=w) (I:=I) (T:=T) (Fs:=Fs) (λt z q n m new ar=>h.rel t _ ar) (λp z n cs aq=>h.part aq (by simp)) (λz p n v hv=>by obtain ⟨⟨a,cap,h1,rfl⟩,_⟩:=hv; exact h1) aq;rw [h1] at ko;cases ko;refine QH aW hlen jl au ah λk x y u J ao hu=>?_;obtain ⟨bH,ki,ey⟩:=hr k x u J hu;exact aM k x y J ao ki ey ρ'
end
def sT (args:List ab):aL:=λt=>args[t]?
def kH (outs:List (Option ab)) (res:ab):aL:=λt=>if t=outs.length then some res else (outs[t]?).join
structure kS (w:World) (I U:a') (w':World) (I' EN:a'):Prop where
 dK:Fr w w' U
 more:∀ c,I c->I' c
 new:∀ c,I' c->I c\/U c\/w.heap.size<=c
 own:∀ c,EN c->U c\/w.heap.size<=c
def bO (P:Program) (f:FuncId) (args:List ab) (outs:List (Option ab)) (res:ab):Prop :=
 outs.length=args.length/\∀ (w:World) (I:a') (vs:List Value) (Fs:Nat->a'),vs.length=args.length->cA w I vs.toArray (sT args) Fs ->
  Calls P f vs.toArray w λe w'=>∃ v I' bV,e=.returned v/\cA w' I' (vs++[v]).toArray (kH outs res) bV/\kS w I (λc=>∃ t,Fs t c) w' I' (λc=>∃ t,bV t c)
def hx (P:Program) (f:FuncId):Bool :=
 match P.funcs[f]? with
 | some fn => fn.name != "runtime.NumGoroutine" && fn.body.isSome
 | none=>false
inductive cd (P:Program) (g:aL):Op->ab->Prop
 | plain {c:Operand}{xs:Array Operand}{fM:Array TypeId}{f:FuncId}{first caps ys:List ab}{res:ab}(aa:bs g c=some (.cD (.func f) first caps)) (J:hc g xs.toList=some ys) (aT:hx P f=true)
   (aB:∀ y∈first++ys++caps,cC y) (ha:bO P f (first++ys++caps) ((first++ys++caps).map λ_=>none) res) (hr:cC res):cd P g (.call { callee:=.value c,args:=xs,argTypes:=fM }) res
 | FZ {c:Operand}{xs:Array Operand}{fM:Array TypeId}{f:FuncId}{first caps ys args:List ab}{res:ab}(aa:bs g c=some (.cD (.func f) first caps)) (J:hc g xs.toList=some ys) (aT:hx P f=true)
   (ah:args.length=(first++ys++caps).length) (hv:∀ (k:Nat) (x y:ab),(first++ys++caps)[k]?=some x->args[k]?=some y->View g x y) (ha:bO P f args (args.map λ_=>none) res) (hr:jV res) :
   cd P g (.call { callee:=.value c,args:=xs,argTypes:=fM }) res
 | cl {x:Operand}{fM:Array TypeId}{f:FuncId}{y:ab}{z n:Nat}{cells:List ab}(J:bs g x=some y) (oJ:Src g y z n cells) (aX:0<z) (aT:hx P f=true) (mK:∀ c∈cells,cC c) (xe:n<=1000000000000)
   (aa:∀ (w:World) (ad:Addr) (n c:Nat) (news:List Value),news.length=n * z->n<=1000000000000->(∀ j u,news[j]?=some u->w.cell? (ad.add j)=some u)->(∀ u∈news,u.oneCell'=true) ->
    Calls P f #[.slice (some ad) n c] w λb1 w'=>∃ dH t,b1=.returned dH/\w'.ownsRow 0 t z dH n news/\(∀ c,dH.ownBlock=some c->w.heap.size<=c)/\Fr w w' λ_=>False)
   (aB:∀ (w:World) (n c:Nat),Calls P f #[.slice none n c] w λb1 w'=>b1=.returned (.slice none 0 0)/\w'=w):cd P g (.call { callee:=.value (.func f),args:=#[x],argTypes:=fM }) (.own z n cells)
section
variable {P:Program}{w:World}{I:a'}{T:Array Value}{g:aL}{Fs:Nat->a'}
theorem zp {f:FuncId}(h:hx P f=true) (args:Array Value):(callFunc f args).run P w=.ok (.enter f args) w:=by
 unfold hx at h;cases aT:P.funcs[f]? with
 | none=>simp [aT] at h
 | some fn =>
  simp [aT] at h;obtain ⟨h1,af⟩:=h;cases au:fn.body with
  | none=>simp [au] at af
  | some c=>simp [callFunc,aT,h1,au]
theorem H8 (h:cA w I T g Fs) {a:Act}(aI:a.tmps=T) {c:Operand}{xs:Array Operand}{f:FuncId}{first caps ys:List ab}(aa:bs g c=some (.cD (.func f) first caps)) (J:hc g xs.toList=some ys) :
  ∃ v1 v2:Array Value,a.eval c=.func (.func f) v1 v2/\(first++ys++caps).length=(v1++xs.map a.eval++v2).toList.length /\
   ∀ (k:Nat) (x:ab) (u:Value),(first++ys++caps)[k]?=some x->(v1++xs.map a.eval++v2).toList[k]?=some u->R w I (dy w T g) x u cj:=by
 have zy:=j9 h aa aI;obtain ⟨ah,hr⟩:=Ah h aI J;generalize vr:a.eval c=afG at zy;cases zy with
 | ref J=>simp [ab.isRef] at J
 | @cD _ _ _ v1 v2 _ _ h1 af iU hz =>
  have hlen:xs.size=ys.length:=by rw [<- Array.length_toList,ah]
  refine ⟨v1,v2,rfl,by simp [h1,af,hlen],λk x u qA pP=>?_⟩;simp only [Array.toList_append,Array.toList_map] at pP;by_cases gv:k<first.length
  ·rw [List.append_assoc,List.getElem?_append_left gv] at qA;rw [List.append_assoc,List.getElem?_append_left (by simp; omega)] at pP;exact iU k x u qA (by simpa using pP)
  ·rw [List.append_assoc,List.getElem?_append_right (by omega)] at qA;rw [List.append_assoc,List.getElem?_append_right (by simp; omega)] at pP;simp only [Array.length_toList,<- h1] at pP;by_cases fy:k - first.length<ys.length
   ·rw [List.getElem?_append_left fy] at qA;rw [List.getElem?_append_left (by simp; omega),List.getElem?_map] at pP;cases Kj:xs.toList[k - first.length]? with
    | none=>rw [Kj] at pP; cases pP
    | some o=>rw [Kj] at pP; cases pP; exact hr _ x o qA Kj
   ·rw [List.getElem?_append_right (by omega)] at qA;rw [List.getElem?_append_right (by simp; omega)] at pP;simp only [List.length_map,Array.length_toList] at pP;rw [hlen] at pP;exact hz _ x u qA (by simpa using pP)
theorem cA.args {I':a'}(h:cA w I T g Fs) (oE:∀ c,I c->I' c) (bf:∀ c,I' c->I c\/∃ t,Fs t c) {args:List ab}{vs:List Value}(ah:args.length=vs.length)
  (hr:∀ (ρ':ab->Value->Prop) (k:Nat) (x:ab) (u:Value),args[k]?=some x->vs[k]?=some u->R w I' ρ' x u cj):cA w I' vs.toArray (sT args) (λ_=>cj):=by
 refine ⟨λt x J=>?_,λ_ _ _ h=>h,λ_ _ _ h=>h.elim,λ_ _ h=>h.elim,λc aa=>?_,λt t' z p n m new bR cr m' cL h1 af=>?_,cE.keep h.hP (λ_ _=>rfl) oE⟩
 ·have ar:t<args.length:=(List.getElem?_eq_some_iff.1 J).1;have hu:vs[t]?=some vs[t]:=List.getElem?_eq_getElem (ah ▸ ar);exact ⟨vs[t],by rw [List.getElem?_toArray]; exact hu,.tree (hr _ t x _ J hu)⟩
 ·rcases bf c aa with aJ | ⟨t,aJ⟩
  ·exact h.lt c aJ
  ·exact h.iX t c aJ
 ·have ar:t<args.length:=(List.getElem?_eq_some_iff.1 h1).1;exact (hr (λ_ _=>False) t _ _ h1 (List.getElem?_eq_getElem (ah ▸ ar))).lv.elim
theorem cd.sound (h:cA w I T g Fs) {a:Act}(aI:a.tmps=T) {o:Oper}{kO:ab}(aq:cd P g o.op kO) {K:Act->World->Prop}{Q:Exit->Act->World->Prop}
  (cZ:∀ v w',tz w I T g Fs kO v w'->K (a.put o.dst v) w'):o.wp P a w K Q:=by
 obtain ⟨dst,op,ty,pos,after,guard⟩:=o;simp only at aq cZ;have De:cC kO->∀ z p n m new,kO=.bL z p n m new->∀ t bR cr m' cL,g t≠some (.bL bR p cr m' cL):=by
  rintro aB z p n m new rfl;cases aB
 have last:∀ {args:List ab}{res:ab}{v:Value}{vs:List Value}{w':World}{I':a'}{bV:Nat->a'},vs.length=args.length->cA w' I' (vs++[v]).toArray (kH (args.map λ_=>none) res) bV->jB w' I' (dy w' (vs++[v]).toArray (kH (args.map λ_=>none) res)) res v (bV args.length)/\∀ t,t≠args.length->∀ c,¬ bV t c:=by
  intro args res v vs w' I' bV ah bh;constructor
  ·obtain ⟨u,hu,aY⟩:=bh.rel args.length res (by simp [kH]);have:u=v:=by
    rw [<- ah] at hu;simpa using hu.symm
   subst this; exact aY
  ·intro t ar c aa;refine bh.k6 t ?_ c aa;have rn:t≠(args.map λ_=>(none:Option ab)).length:=by simpa using ar
   simp only [kH,if_neg rn,List.getElem?_map];cases args[t]? <;> rfl
 cases aq with
 | @cl x fM f y z n cells J oJ aX aT mK xe aa aB =>
  obtain ⟨yr,wm,news,rm,ah,xw,xx,eS⟩:=oJ.sound h (j9 h J aI);have hj:∀ dst ty pos after guard,(execOp a.eval ⟨dst,.call { callee:=.value (.func f),args:=#[x],argTypes:=fM },ty,pos,after,guard⟩).run P w=.ok (.enter f #[a.eval x]) w:=by
   intro dst ty pos after guard;simp [execOp,resolve,Deferred.ofValue,Act.eval,invoke,zp aT]
  have fin:∀ (w':World) (v:Value) (t:TypeId),w'.ownsRow 0 t z v n news->(∀ c,v.ownBlock=some c->w.heap.size<=c)->Fr w w' (λ_=>False)->tz w I T g Fs (.own z n cells) v w':=by
   intro w' v t aW au kn;have CE:∀ c,c<w.heap.size->w'.heap[c]?=w.heap[c]?:=λc aa=>kn.block c aa λh=>h;have B6:=h.world (w':=w') (λt c aa=>CE c (h.iX t c aa)) (λc aa=>CE c (h.lt c aa)) kn.size;refine ⟨λc=>v.ownBlock=some c,I,B6,.tree (.own (Fs:=λ_=>cj) aW eS.1 eS.2.1 (λk x u J hu=>?_) (λ_ _ _ _ _ h=>h.elim) (λ_ _ _ h=>h.elim) (λc=>⟨.inl,λh=>h.elim id λ⟨_,_,h⟩=>h.elim⟩)),λt c aa aT=>?_,λc aa=>⟨au c aa,λhi=>?_⟩,λ_ h=>h,λ_ h=>.inl h,kn.mono λ_ _ h=>h.elim,λbR K7 cr m' cL he=>by cases he⟩
   ·exact (((eS.2.2 k x u J hu).bk (mK x (List.mem_of_getElem? J))).frame (λc aa=>CE c (h.lt c aa)) (λ_ h=>h) λ_ _ h=>h) λc aa=>aa.elim
   ·have:=au c aa; have:=h.iX t c aT; omega
   ·have:=au c aa; have:=h.lt c hi; omega
  unfold Oper.wp Oper.upon;simp only [hj];rw [rm];cases yr with
  | none =>
   refine (aB w _ wm).mono ?_;rintro b1 w' ⟨rfl,rfl⟩;have aK:n=0:=by
    by_cases pO:0<n
    ·have:=xw pO aX; cases this
    ·omega
   exact cZ _ _ (fin w' _ 0 ⟨ah,.inl ⟨rfl,aK⟩⟩ (λc aa=>by cases aa) (Fr.refl _ _))
  | some ad =>
   refine (aa w ad _ wm news ah xe (λj u ag=>xx ad rfl j u ag) λu hu=>by
    obtain ⟨j,ag⟩:=List.getElem?_of_mem hu;exact eS.2.1 j u ag).mono ?_
   rintro b1 w' ⟨dH,t,rfl,mg,au,kn⟩;exact cZ _ _ (fin w' dH t mg au kn)
 | @plain c xs fM f first caps ys _ aa J aT aB ha hr =>
  obtain ⟨v1,v2,vr,ah,qm⟩:=H8 h aI aa J;have hj:(execOp a.eval { dst:=dst,op:=.call { callee:=.value c,args:=xs,argTypes:=fM },type:=ty,pos:=pos,after:=after,guard:=guard }).run P w=.ok (.enter f (v1++xs.map a.eval++v2)) w:=by
   simp [execOp,resolve,Deferred.ofValue,vr,invoke,zp aT]
  have bh:=h.args (I':=I) (λ_ h=>h) (λc aa=>.inl aa) ah λρ' k x u J hu=>(qm k x u J hu).bk (aB x (List.mem_of_getElem? J));have pI:=ha.2 w I (v1++xs.map a.eval++v2).toList _ ah.symm bh;unfold Oper.wp Oper.upon;simp only [hj];rw [Array.toArray_toList] at pI;refine Calls.mono pI ?_;rintro e w' ⟨v,I',bV,rfl,dM,bU⟩;obtain ⟨zP,eH⟩:=last ah.symm dM;have kn:Fr w w' (λ_=>False):=bU.dK.mono λb _ ⟨_,au⟩=>au;refine cZ v w' ⟨bV (first++ys++caps).length,I',?_,?_,?_,?_,bU.more,?_,kn.mono λ_ _ h=>h.elim,De hr⟩
  ·have:=h.world (w':=w') (λt c aa=>kn.block c (h.iX t c aa) (λh=>h)) (λc aa=>kn.block c (h.lt c aa) λh=>h) kn.size;refine ⟨λt x J=>?_,this.k6,this.d_,λt c aa hi=>?_,dM.lt,this.rF,dM.hP⟩
   ·obtain ⟨v,hv,aY⟩:=this.rel t x J;exact ⟨v,hv,aY.frame (λ_ _=>rfl) bU.more (λ_ _ h=>h) (λ_ _ _ _ _ _ _=>rfl) λ_ _=>rfl⟩
   ·rcases bU.new c hi with aJ | ⟨_,aJ⟩ | aJ
    ·exact h.bd t c aa aJ
    ·exact aJ
    ·have:=h.iX t c aa; omega
  ·exact .tree ((zP.gp (by rintro z p n m new rfl; cases hr)).bk hr)
  ·intro t c aa vu;rcases bU.own c ⟨_,aa⟩ with ⟨_,aJ⟩ | aJ
   ·exact aJ
   ·have:=h.iX t c vu; omega
  ·intro c aa;rcases bU.own c ⟨_,aa⟩ with ⟨_,aJ⟩ | aJ
   ·exact aJ.elim
   ·exact ⟨aJ,dM.bd _ c aa⟩
  ·intro c aa;rcases bU.new c aa with aJ | ⟨_,aJ⟩ | aJ
   ·exact .inl aJ
   ·exact aJ.elim
   ·exact .inr aJ
 | @FZ c xs fM f first caps ys args _ aa J aT ug hv ha hr =>
  obtain ⟨v1,v2,vr,ah,qm⟩:=H8 h aI aa J;have hj:(execOp a.eval { dst:=dst,op:=.call { callee:=.value c,args:=xs,argTypes:=fM },type:=ty,pos:=pos,after:=after,guard:=guard }).run P w=.ok (.enter f (v1++xs.map a.eval++v2)) w:=by
   simp [execOp,resolve,Deferred.ofValue,vr,invoke,zp aT]
  have hL:args.length=(v1++xs.map a.eval++v2).toList.length:=by rw [ug,ah]
  have bh:=h.args (I':=λc=>I c\/∃ t,Fs t c) (λ_ h=>.inl h) (λc aa=>aa) hL λρ' k x u J hu=>by
   have hk:k<(first++ys++caps).length:=by rw [<- ug]; exact (List.getElem?_eq_some_iff.1 J).1
   have ix:=List.getElem?_eq_getElem hk;exact (hv k _ x ix J).sound h (qm k _ u ix hu) (λ_ h=>h.elim) ρ'
  have pI:=ha.2 w _ (v1++xs.map a.eval++v2).toList _ hL.symm bh;unfold Oper.wp Oper.upon;simp only [hj];rw [Array.toArray_toList] at pI;refine Calls.mono pI ?_;rintro e w' ⟨v,I',bV,rfl,dM,bU⟩;obtain ⟨zP,eH⟩:=last hL.symm dM;have kn:Fr w w' (λ_=>False):=bU.dK.mono λb _ ⟨_,au⟩=>au;refine cZ v w' ⟨bV args.length,I,?_,?_,?_,?_,λ_ h=>h,λ_ h=>.inl h,kn.mono λ_ _ h=>h.elim,De hr.bk⟩
  ·exact h.world (w':=w') (λt c aa=>kn.block c (h.iX t c aa) (λh=>h)) (λc aa=>kn.block c (h.lt c aa) λh=>h) kn.size
  ·exact .tree ((zP.gp (by rintro z p n m new rfl; cases hr)).lW hr)
  ·intro t c aa vu;rcases bU.own c ⟨_,aa⟩ with ⟨_,aJ⟩ | aJ
   ·exact aJ
   ·have:=h.iX t c vu; omega
  ·intro c aa;rcases bU.own c ⟨_,aa⟩ with ⟨_,aJ⟩ | aJ
   ·exact aJ.elim
   ·exact ⟨aJ,λhi=>by have:=h.lt c hi; omega⟩
end
structure jC (w:World) (I:a') (T:Array Value) (g:aL) (Fs:Nat->a'):Prop where
 rel:∀ t x,g t=some x->∃ v,T[t]?=some v/\jB w I (fh w T) x v (Fs t)
 k6:∀ t,g t=none->∀ c,¬ Fs t c
 d_:∀ t t' c,Fs t c->Fs t' c->t=t'
 bd:∀ t c,Fs t c->¬ I c
 lt:∀ c,I c->c<w.heap.size
 hP:cE.q w I
def cn (g:aL) (p:Place) (y:ab):aL:=λt=>if t=p.root then (g t).map λx=>x.setAt p.path y else g t
inductive cS (g:aL):ab->Prop
 | bk {x:ab}(h:cC x):cS g x
 | ref {x:ab}(J:x.isRef=true) (h:gA g x):cS g x
 | own {z n:Nat}{cs:List ab}(h:∀ x∈cs,cS g x):cS g (.own z n cs)
 | obj {cs:List ab}(h:∀ x∈cs,cS g x):cS g (.obj cs)
 | agg {cs:List ab}(h:∀ x∈cs,cS g x):cS g (.agg cs)
 | bS {cs:List ab}(h:∀ x∈cs,cS g x):cS g (.bS cs)
 | cD {fn:Fn}{a b:List ab}(h1:∀ x∈a,cS g x) (af:∀ x∈b,cS g x):cS g (.cD fn a b)
 | bL {z n m:Nat}{p:Place}{new:List ab}(aq:gA g (.bL z p n 0 [])) (h:∀ x∈new,cS g x):cS g (.bL z p n m new)
section
variable {w:World}{I:a'}{T:Array Value}{g:aL}{Fs:Nat->a'}
theorem R.bY {x:ab}{v:Value}{F:a'}(h:R w I (fh w T) x v F):cS g x->R w I (dy w T g) x v F:=by
 induction h with
 | lit h aH=>exact λ_=>.lit h aH
 | aQ aH=>exact λ_=>.aQ aH
 | dead aH=>exact λ_=>.dead aH
 | mq aH=>exact λ_=>.mq aH
 | @ref x _ _ J h aH =>
  intro hk;refine .ref J ⟨h,?_⟩ aH;cases hk with
  | ref _ h=>exact h
  | bk h=>cases h <;> simp [ab.isRef] at J
  | _=>simp [ab.isRef] at J
 | gG aH=>exact λ_=>.gG aH
 | mp aW aq aH=>exact λ_=>.mp aW aq aH
 | hS aW h1 aH=>exact λ_=>.hS aW h1 aH
 | imp aH bf aW aq=>exact λ_=>.imp aH bf aW aq
 | bd aH lO bf aw ah h1 aa hr aM =>
  intro hk;cases hk with
  | ref J=>simp [ab.isRef] at J
  | bk h=>cases h with | bd h=>exact .bd aH lO bf aw ah h1 aa λk x J=>aM k x J (.bk (h x (List.mem_of_getElem? J)))
 | cw aH bf aw h1 aa hr aM =>
  intro hk;cases hk with
  | ref J=>simp [ab.isRef] at J
  | bk h=>cases h with | cw h=>exact .cw aH bf aw h1 aa λk x J=>aM k x J (.bk (h x (List.mem_of_getElem? J)))
 | own aW ah h1 hr aO au aH aM =>
  intro hk;refine .own aW ah h1 (λk x u J hu=>aM k x u J hu ?_) aO au aH;cases hk with
  | ref J=>simp [ab.isRef] at J
  | bk h=>cases h with | own h=>exact .bk (h x (List.mem_of_getElem? J))
  | own h=>exact h x (List.mem_of_getElem? J)
 | obj aW ah h1 hr aO au aH aw aM =>
  intro hk;refine .obj aW ah h1 (λk x u J hu=>aM k x u J hu ?_) aO au aH aw;cases hk with
  | ref J=>simp [ab.isRef] at J
  | bk h=>cases h with | obj h=>exact .bk (h x (List.mem_of_getElem? J))
  | obj h=>exact h x (List.mem_of_getElem? J)
 | agg ah h1 hr aO aH aM =>
  intro hk;refine .agg ah h1 (λk x u J hu=>aM k x u J hu ?_) aO aH;cases hk with
  | ref J=>simp [ab.isRef] at J
  | bk h=>cases h with | agg h=>exact .bk (h x (List.mem_of_getElem? J))
  | agg h=>exact h x (List.mem_of_getElem? J)
 | bS ah hr aO aH aM =>
  intro hk;refine .bS ah (λk x u J hu=>aM k x u J hu ?_) aO aH;cases hk with
  | ref J=>simp [ab.isRef] at J
  | bk h=>cases h with | bS h=>exact .bk (h x (List.mem_of_getElem? J))
  | bS h=>exact h x (List.mem_of_getElem? J)
 | @cD fn first caps v1 v2 F aH h1 af iU hz gh fQ =>
  intro hk;have:(∀ x∈first,cS g x)/\∀ x∈caps,cS g x:=by
   cases hk with
   | ref J=>simp [ab.isRef] at J
   | bk h=>cases h with | cD h1 af=>exact ⟨λx J=>.bk (h1 x J),λx J=>.bk (af x J)⟩
   | cD h1 af=>exact ⟨h1,af⟩
  exact .cD aH h1 af (λk x u J hu=>gh k x u J hu (this.1 x (List.mem_of_getElem? J))) (λk x u J hu=>fQ k x u J hu (this.2 x (List.mem_of_getElem? J)))
theorem jB.bY {x:ab}{v:Value}{F:a'}(h:jB w I (fh w T) x v F) (hk:cS g x):jB w I (dy w T g) x v F:=by
 cases h with
 | tree h=>exact .tree (h.bY hk)
 | bL h =>
  cases hk with
  | bk h=>cases h
  | ref J=>simp [ab.isRef] at J
  | bL aq aB=>exact .bL ⟨⟨h.jo,aq⟩,h.kE,h.mN,h.ah,h.h1,λk x u J hu=>(h.hr k x u J hu).bY (aB x (List.mem_of_getElem? J)),h.aH⟩
theorem cA.mX (h:cA w I T g Fs):jC w I T g Fs :=
  ⟨λt x J=>by
    obtain ⟨v,hv,aY⟩:=h.rel t x J;refine ⟨v,hv,?_⟩;cases aY with
    | tree aY=>exact .tree (aY.frame (λ_ _=>rfl) (λ_ h=>h) (λ_ _ h=>h.1) λ_ _=>rfl)
    | bL aY=>exact .bL ⟨aY.jo.1,aY.kE,aY.mN,aY.ah,aY.h1,λk x u J hu=>(aY.hr k x u J hu).frame (λ_ _=>rfl) (λ_ h=>h) (λ_ _ h=>h.1) λ_ _=>rfl,aY.aH⟩,
   h.k6,h.d_,h.bd,h.lt,h.hP⟩
theorem jC.abk (h:jC w I T g Fs) {g':aL}(aP:∀ t x,g' t=some x->g t=some x) (hk:∀ t x,g' t=some x->cS g' x)
  (aq:∀ t t' z p n m new bR cr m' cL,g' t=some (.bL z p n m new)->g' t'=some (.bL bR p cr m' cL)->t=t'):cA w I T g' (λt c=>g' t≠none/\Fs t c):=by
 refine ⟨λt x J=>?_,λt ar c aa=>aa.1 ar,λt t' c aa ep=>h.d_ t t' c aa.2 ep.2,λt c aa=>h.bd t c aa.2,h.lt,aq,h.hP⟩;obtain ⟨v,hv,aY⟩:=h.rel t x (aP t x J);have:Fs t=λc=>g' t≠none/\Fs t c:=by
  funext c;exact propext ⟨λaa=>⟨by rw [J]; simp,aa⟩,λaa=>aa.2⟩
 refine ⟨v,hv,?_⟩;rw [<- this];exact aY.bY (hk t x J)
theorem jC.part (h:jC w I T g Fs) {p:Place}{y:ab}(aq:bG g p=some y) (ao:∀ z q n m new,y≠.bL z q n m new):∃ v cu,dx w T p=some v/\R w I (fh w T) y v cu/\(∀ c,cu c->Fs p.root c) /\
  ∀ (y':ab) (jd:a'),R w I (fh w T) y' v jd->(∀ c,jd c->Fs p.root c->cu c)->(∀ c,jd c->¬ I c)->(∀ t c,t≠p.root->jd c->¬ Fs t c)->(∀ j,y'=.self j->y=.self j) ->
   ∃ bV,jC w I T (cn g p y') bV/\(∀ c,bV p.root c↔(Fs p.root c/\¬ cu c)\/jd c)/\∀ t,t≠p.root->bV t=Fs t:=by
 unfold bG at aq;cases J:g p.root with
 | none=>rw [J] at aq; cases aq
 | some x =>
  rw [J] at aq;obtain ⟨v,hv,aY⟩:=h.rel _ _ J;replace aY:=aY.gp (by
   rintro z q n m new rfl;exact ao _ _ _ _ _ (ab.sV aq).2)
  obtain ⟨hY,cu,hw,ds,c_,e5,kr⟩:=R.focus p.path aY aq;refine ⟨hY,cu,by simp [dx,hv,hw],ds,c_,λy' jd h6 nw bf ON ln=>?_⟩;obtain ⟨cQ,B4,oD⟩:=kr w I (fh w T) y' jd ⟨λ_ _=>rfl,λ_ _ _=>rfl,λ_ h=>h,λ_ _ h=>h⟩ h6 nw ln;refine ⟨λt=>if t=p.root then cQ else Fs t,⟨λt x' e8=>?_,λt ar c=>?_,λt t' c aa ep=>?_,λt c aa=>?_,h.lt,h.hP⟩,λc=>by simp [oD c],λt ar=>by simp [ar]⟩
  ·by_cases hM:t=p.root
   ·subst hM;have Ye:x.setAt p.path y'=x':=by simpa [cn,J] using e8
    subst Ye;exact ⟨v,hv,.tree (by simpa using B4)⟩
   ·simp only [cn,if_neg hM] at e8;simpa [hM] using h.rel t x' e8
  ·by_cases hM:t=p.root
   ·subst hM; simp [cn,J] at ar
   ·simp only [cn,if_neg hM] at ar; simpa [hM] using h.k6 t ar c
  ·by_cases h1:t=p.root <;> by_cases af:t'=p.root <;> simp only [h1,af,if_true,if_false] at aa ep
   ·rw [h1,af]
   ·rcases (oD c).1 aa with ⟨aD,_⟩ | aD
    ·rw [h1]; exact h.d_ _ _ _ aD ep
    ·exact absurd ep (ON t' c af aD)
   ·rcases (oD c).1 ep with ⟨aD,_⟩ | aD
    ·rw [af]; exact h.d_ _ _ _ aa aD
    ·exact absurd aa (ON t c h1 aD)
   ·exact h.d_ _ _ _ aa ep
  ·by_cases h1:t=p.root <;> simp only [h1,if_true,if_false] at aa
   ·rcases (oD c).1 aa with ⟨aD,_⟩ | aD
    ·exact h.bd _ c aD
    ·exact bf c aD
   ·exact h.bd t c aa
end
inductive Take:aL->List ab->List ab->aL->Prop
 | bk {g:aL}{xs:List ab}(h:∀ x∈xs,cC x):Take g xs xs g
 | cons {g g':aL}{x:ab}{xs xs':List ab}(h:cC x) (ar:Take g xs xs' g'):Take g (x::xs) (x::xs') g'
 | a6 {g g1 g':aL}{z n N:Nat}{p:Place}{cs cs' xs xs':List ab}(aq:bG g p=some (.own z N cs)) (aB:n<=N) (h1:Take (cn g p .dead) (cs.take (n * z)) cs' g1) (af:Take g1 xs xs' g') :
   Take g (.a6 z p n::xs) (.own z n cs'::xs') g'
 | bL {g g1 g':aL}{z n m t:Nat}{q:Place}{cs new cs' xs xs':List ab}(ar:g t=some (.bL z q n m new)) (aq:bG g q=some (.own z n cs)) (a8:q.root≠t) (h1:Take (cn (cn g ⟨t,[]⟩ .dead) q .dead) (cs++new) cs' g1) (af:Take g1 xs xs' g') :
   Take g (.a6 z ⟨t,[]⟩ (n+m)::xs) (.own z (n+m) cs'::xs') g'
 | Al {g g1 g':aL}{z n m t n_ m2 t2:Nat}{q:Place}{cs new Ab cs' xs xs':List ab}(ar:g t=some (.bL z ⟨t2,[]⟩ n m new)) (OX:g t2=some (.bL z q n_ m2 Ab)) (aB:n=n_+m2) (aq:bG g q=some (.own z n_ cs)) (a8:q.root≠t) (rk:q.root≠t2) (X4:t≠t2)
   (h1:Take (cn (cn (cn g ⟨t,[]⟩ .dead) ⟨t2,[]⟩ .dead) q .dead) (cs++Ab++new) cs' g1) (af:Take g1 xs xs' g') :
   Take g (.a6 z ⟨t,[]⟩ (n+m)::xs) (.own z (n+m) cs'::xs') g'
 | obj {g g1 g':aL}{p:Place}{cs cs' xs xs':List ab}(aq:bG g p=some (.obj cs)) (h1:Take (cn g p .dead) cs cs' g1) (af:Take g1 xs xs' g'):Take g (.ptr p 0::xs) (.obj cs'::xs') g'
 | mp {g g1 g':aL}{p:Place}{q:Array MapEntry->Nat->Prop}{xs xs':List ab}(aq:bG g p=some (.mp q)) (h1:Take (cn g p .dead) [] [] g1) (af:Take g1 xs xs' g'):Take g (.gj p::xs) (.mp q::xs') g'
 | agg {g g1 g':aL}{cs cs' xs xs':List ab}(h1:Take g cs cs' g1) (af:Take g1 xs xs' g'):Take g (.agg cs::xs) (.agg cs'::xs') g'
 | bS {g g1 g':aL}{cs cs' xs xs':List ab}(h1:Take g cs cs' g1) (af:Take g1 xs xs' g'):Take g (.bS cs::xs) (.bS cs'::xs') g'
structure Hand (w:World) (I:a') (ρ:ab->Value->Prop) (Fs:Nat->a') (xs:List ab) (vs:List Value) (di:Nat->a'):Prop where
 len:xs.length=vs.length
 rel:∀ (k:Nat) (x:ab) (u:Value),xs[k]?=some x->vs[k]?=some u->R w I ρ x u (di k)
 d_:∀ (j k c:Nat),j<xs.length->k<xs.length->di j c->di k c->j=k
 off:∀ (k t c:Nat),k<xs.length->di k c->¬ Fs t c
 bd:∀ (k c:Nat),k<xs.length->di k c->¬ I c
def lA (Fs:Nat->a') (n:Nat) (di:Nat->a'):a':=λc=>(∃ t,Fs t c)\/∃ k,k<n/\di k c
section
variable {w:World}{I:a'}{T:Array Value}
theorem Take.length {g g':aL}{xs xs':List ab}(h:Take g xs xs' g'):xs'.length=xs.length:=by
 induction h with
 | bk=>rfl
 | cons _ _ aM=>simp [aM]
 | a6 _ _ _ _ _ aM=>simp [aM]
 | bL _ _ _ _ _ _ aM=>simp [aM]
 | Al _ _ _ _ _ _ _ _ _ _ aM=>simp [aM]
 | obj _ _ _ _ aM=>simp [aM]
 | mp _ _ _ _ aM=>simp [aM]
 | agg _ _ _ aM=>simp [aM]
 | bS _ _ _ aM=>simp [aM]
theorem Take.self {g g':aL}{xs xs':List ab}(h:Take g xs xs' g'):∀ (k:Nat) (j:Nat × Nat),xs'[k]?=some (.self j)->xs[k]?=some (.self j):=by
 have step:∀ {x x':ab}{xs xs':List ab},(∀ j,x'=.self j->x=.self j)->(∀ (k:Nat) (j:Nat × Nat),xs'[k]?=some (.self j)->xs[k]?=some (.self j))->∀ (k:Nat) (j:Nat × Nat),(x'::xs')[k]?=some (.self j)->(x::xs)[k]?=some (.self j):=by
  intro x x' xs xs' h1 af k j h;cases k with
  | zero=>simp only [List.getElem?_cons_zero,Option.some.injEq] at h ⊢; exact h1 j h
  | succ k=>exact af k j h
 induction h with
 | bk=>exact λ_ _ h=>h
 | cons _ _ aM=>exact step (λ_ h=>h) aM
 | a6 _ _ _ _ _ aM=>exact step (λ_ h=>by cases h) aM
 | bL _ _ _ _ _ _ aM=>exact step (λ_ h=>by cases h) aM
 | Al _ _ _ _ _ _ _ _ _ _ aM=>exact step (λ_ h=>by cases h) aM
 | obj _ _ _ _ aM=>exact step (λ_ h=>by cases h) aM
 | mp _ _ _ _ aM=>exact step (λ_ h=>by cases h) aM
 | agg _ _ _ aM=>exact step (λ_ h=>by cases h) aM
 | bS _ _ _ aM=>exact step (λ_ h=>by cases h) aM
theorem Take.Dj {g g':aL}{xs xs':List ab}(h:Take g xs xs' g') (aW:∀ x∈xs,sR x):∀ x∈xs',sR x:=by
 induction h with
 | bk=>exact aW
 | cons _ _ aM =>
  intro x J;rcases List.mem_cons.1 J with rfl | J
  ·exact aW _ (by simp)
  ·exact aM (λx h=>aW x (by simp [h])) x J
 | a6 _ _ _ _ _ aM | bL _ _ _ _ _ _ aM | Al _ _ _ _ _ _ _ _ _ _ aM | obj _ _ _ _ aM | mp _ _ _ _ aM | bS _ _ _ aM =>
  intro x J;rcases List.mem_cons.1 J with rfl | J
  ·intro cs e; cases e
  ·exact aM (λx h=>aW x (by simp [h])) x J
 | agg h1 _ _ aM =>
  intro x J;rcases List.mem_cons.1 J with rfl | J
  ·intro cs e;cases e;exact λk j hk=>aW _ (List.mem_cons_self ..) _ rfl k j (h1.self k j hk)
  ·exact aM (λx h=>aW x (by simp [h])) x J
theorem Hand.cons {ρ:ab->Value->Prop}{Fs:Nat->a'}{x:ab}{v:Value}{F:a'}{xs:List ab}{vs:List Value}{di:Nat->a'}(h:Hand w I ρ Fs xs vs di) (J:R w I ρ x v F)
  (aO:∀ k c,k<xs.length->F c->¬ di k c) (aW:∀ t c,F c->¬ Fs t c) (hi:∀ c,F c->¬ I c):Hand w I ρ Fs (x::xs) (v::vs) (λk=>match k with | 0=>F | k+1=>di k):=by
 refine ⟨by simp [h.len],λk y u ao hu=>?_,λj k c ag hk h1 af=>?_,λk t c hk aa=>?_,λk c hk aa=>?_⟩
 ·cases k with
  | zero=>simp at ao hu; subst ao hu; exact J
  | succ k=>simp at ao hu; exact h.rel k y u ao hu
 ·cases j <;> cases k
  ·rfl
  ·exact absurd af (aO _ c (by simpa using hk) h1)
  ·exact absurd h1 (aO _ c (by simpa using ag) af)
  ·rw [h.d_ _ _ c (by simpa using ag) (by simpa using hk) h1 af]
 ·cases k with
  | zero=>exact aW t c aa
  | succ k=>exact h.off k t c (by simpa using hk) aa
 ·cases k with
  | zero=>exact hi c aa
  | succ k=>exact h.bd k c (by simpa using hk) aa
theorem Hand.tail {ρ:ab->Value->Prop}{Fs:Nat->a'}{x:ab}{v:Value}{xs:List ab}{vs:List Value}{di:Nat->a'}(h:Hand w I ρ Fs (x::xs) (v::vs) di):Hand w I ρ Fs xs vs (λk=>di (k+1)) :=
  ⟨by simpa using h.len,λk y u ao hu=>h.rel (k+1) y u ao hu,λj k c ag hk h1 af=>by have:=h.d_ (j+1) (k+1) c (by simpa using ag) (by simpa using hk) h1 af; omega,
   λk t c hk aa=>h.off (k+1) t c (by simpa using hk) aa,λk c hk aa=>h.bd (k+1) c (by simpa using hk) aa⟩
theorem sz {x:ab}{xs:List ab}(h:cC x) (aM:∀ y∈xs,cC y):∀ y∈x::xs,cC y:=by
 intro y ao;rcases List.mem_cons.1 ao with rfl | ao
 ·exact h
 ·exact aM y ao
theorem Take.Ad {g g':aL}{xs xs':List ab}(h:Take g xs xs' g'):∀ x∈xs',cC x:=by
 induction h with
 | bk h=>exact h
 | cons h _ aM=>exact sz h aM
 | a6 _ _ _ _ gh fQ=>exact sz (.own gh) fQ
 | bL _ _ _ _ _ gh fQ=>exact sz (.own gh) fQ
 | Al _ _ _ _ _ _ _ _ _ gh fQ=>exact sz (.own gh) fQ
 | obj _ _ _ gh fQ=>exact sz (.obj gh) fQ
 | mp _ _ _ _ fQ=>exact sz .mp fQ
 | agg _ _ gh fQ=>exact sz (.agg gh) fQ
 | bS _ _ gh fQ=>exact sz (.bS gh) fQ
def Hx (w:World) (I:a') (T:Array Value) (g:aL) (xs xs':List ab) (g':aL):Prop :=
 ∀ {Fs:Nat->a'}{vs:List Value}{di:Nat->a'},jC w I T g Fs->Hand w I (fh w T) Fs xs vs di ->
  ∃ bV jy,jC w I T g' bV/\Hand w I (fh w T) bV xs' vs jy/\∀ c,lA bV xs'.length jy c->lA Fs xs.length di c
theorem K6 {w:World}{e b1:TypeId}{z n:Nat}{v:Value}{us iL:List Value}(h:w.ownsRow 0 e z v n us) (aJ:w.ownsRow 0 b1 z v n iL):us=iL:=by
 obtain ⟨h1,af⟩:=h;obtain ⟨jl,IN⟩:=aJ;rcases af with ⟨rfl,rfl⟩ | ⟨b,cap,cur,rfl,_,aP,_,_,_,ar⟩
 ·simp at h1 jl; rw [h1,jl]
 ·rcases IN with ⟨bP,_⟩ | ⟨dR,nq,aej,bP,_,Ov,_,_,_,rn⟩
  ·cases bP
  ·cases bP;rw [aP] at Ov;cases Ov;rw [<- ar,<- rn]
theorem Take.node {g1 g2 g':aL}{Fs fo:Nat->a'}{B H0:a'}{cs cs' xs xs':List ab}{us vs:List Value}{bH di:Nat->a'}{X:ab}{v0:Value}
  (bh:jC w I T g1 fo) (hH:Hand w I (fh w T) fo cs us bH) (eV:∀ c,B c->(∃ t,Fs t c)/\(∀ t,¬ fo t c)/\(∀ k,k<cs.length->¬ bH k c)/\¬ I c)
  (hA:∀ c,lA fo cs.length bH c->(∃ t,Fs t c)\/H0 c) (cU:Hand w I (fh w T) Fs xs vs di) (re:∀ c,H0 c->(∀ t,¬ Fs t c)/\∀ k,k<xs.length->¬ di k c)
  (gh:Hx w I T g1 cs cs' g2) (fQ:Hx w I T g2 xs xs' g')
  (build:∀ jy:Nat->a',(∀ (k:Nat) (x:ab) (u:Value),cs'[k]?=some x->us[k]?=some u->R w I (fh w T) x u (jy k))->(∀ (j k c:Nat),j<cs'.length->k<cs'.length->jy j c->jy k c->j=k) ->
   (∀ k c,k<cs'.length->jy k c->¬ B c)->R w I (fh w T) X v0 (λc=>B c\/∃ k,k<cs'.length/\jy k c)) :
  ∃ bV jy,jC w I T g' bV/\Hand w I (fh w T) bV (X::xs') (v0::vs) jy/\∀ c,lA bV (X::xs').length jy c->(∃ t,Fs t c)\/H0 c\/∃ k,k<xs.length/\di k c:=by
 obtain ⟨jc,H1,h7,Fj,B'⟩:=gh bh hH;have Zi:∀ k t c,k<xs.length->di k c->¬ jc t c:=by
  intro k t c hk aa aT;rcases hA c (B' c (.inl ⟨t,aT⟩)) with ⟨t',h⟩ | h
  ·exact cU.off k t' c hk aa h
  ·exact (re c h).2 k hk aa
 obtain ⟨yS,Bd,B6,Wa,N'⟩:=fQ h7 (⟨cU.len,cU.rel,cU.d_,Zi,cU.bd⟩:Hand w I (fh w T) jc xs vs di);have V0:∀ k c,k<cs'.length->H1 k c->¬ B c:=by
  intro k c hk aa au;obtain ⟨_,h1,af,_⟩:=eV c au;rcases B' c (.inr ⟨k,hk,aa⟩) with ⟨t,h⟩ | ⟨j,ag,h⟩
  ·exact h1 t h
  ·exact af j ag h
 have eg:=build H1 Fj.rel Fj.d_ V0
 -- the node's blocks: apart from all else
 have key:∀ c,(B c\/∃ k,k<cs'.length/\H1 k c)->(∀ t,¬ jc t c)/\(∀ k,k<xs.length->¬ di k c)/\¬ I c/\((∃ t,Fs t c)\/H0 c):=by
  rintro c (au | ⟨k,hk,aa⟩)
  ·obtain ⟨⟨t0,aK⟩,h1,af,aD⟩:=eV c au;refine ⟨λt aT=>?_,λk hk aa=>cU.off k t0 c hk aa aK,aD,.inl ⟨t0,aK⟩⟩;rcases B' c (.inl ⟨t,aT⟩) with ⟨t',h⟩ | ⟨j,ag,h⟩
   ·exact h1 t' h
   ·exact af j ag h
  ·have aw:=hA c (B' c (.inr ⟨k,hk,aa⟩));refine ⟨λt aT=>Fj.off k t c hk aa aT,λj ag xj=>?_,Fj.bd k c hk aa,aw⟩;rcases aw with ⟨t,h⟩ | h
   ·exact cU.off j t c ag xj h
   ·exact (re c h).2 j ag xj
 have fin:∀ c,(B c\/∃ k,k<cs'.length/\H1 k c)->(∀ t,¬ yS t c)/\∀ k,k<xs'.length->¬ Bd k c:=by
  intro c aa;obtain ⟨h1,af,_,_⟩:=key c aa;have none:¬ lA yS xs'.length Bd c:=by
   intro h;rcases N' c h with ⟨t,h⟩ | ⟨k,hk,h⟩
   ·exact h1 t h
   ·exact af k hk h
  exact ⟨λt h=>none (.inl ⟨t,h⟩),λk hk h=>none (.inr ⟨k,hk,h⟩)⟩
 refine ⟨yS,_,B6,Wa.cons eg (λk c hk aa=>(fin c aa).2 k hk) (λt c aa=>(fin c aa).1 t) (λc aa=>(key c aa).2.2.1),?_⟩;have back:∀ c,lA yS xs'.length Bd c->(∃ t,Fs t c)\/H0 c\/∃ k,k<xs.length/\di k c:=by
  intro c h;rcases N' c h with ⟨t,h⟩ | h
  ·rcases hA c (B' c (.inl ⟨t,h⟩)) with h | h
   ·exact .inl h
   ·exact .inr (.inl h)
  ·exact .inr (.inr h)
 rintro c (h | ⟨k,hk,aa⟩)
 ·exact back c (.inl h)
 ·cases k with
  | zero =>
   rcases (key c aa).2.2.2 with h | h
   ·exact .inl h
   ·exact .inr (.inl h)
  | succ k=>exact back c (.inr ⟨k,by simpa using hk,aa⟩)
end
section
variable {w:World}{I:a'}{T:Array Value}
theorem jC.kill {g:aL}{Fs:Nat->a'}(h:jC w I T g Fs) (t:Nat):∃ bV,jC w I T (cn g ⟨t,[]⟩ .dead) bV/\(∀ c,¬ bV t c)/\∀ s,s≠t->bV s=Fs s:=by
 refine ⟨λs=>if s=t then cj else Fs s,⟨λs x J=>?_,λs aw c=>?_,λs cy c aa ep=>?_,λs c aa=>?_,h.lt,h.hP⟩,λc=>by simp,λs aw=>by simp [aw]⟩
 ·by_cases bU:s=t
  ·subst bU;simp only [cn,if_pos] at J;cases aP:g s with
   | none=>rw [aP] at J; cases J
   | some y =>
    rw [aP] at J;have:x=.dead:=by simpa [ab.setAt] using J.symm
    subst this;obtain ⟨v,hv,_⟩:=h.rel s y aP;exact ⟨v,hv,.tree (.dead (by simp))⟩
  ·simp only [cn,if_neg bU] at J; simpa [bU] using h.rel s x J
 ·by_cases bU:s=t
  ·simp [bU]
  ·simp only [cn,if_neg bU] at aw; simpa [bU] using h.k6 s aw c
 ·by_cases h1:s=t <;> by_cases af:cy=t <;> simp [h1,af,cj] at aa ep;exact h.d_ _ _ _ aa ep
 ·by_cases h1:s=t <;> simp [h1,cj] at aa;exact h.bd _ _ aa
theorem R.vt {ρ:ab->Value->Prop}{Fs:Nat->a'}{x:ab}{v:Value}{xs:List ab}{vs:List Value}{di:Nat->a'}(h:Hand w I ρ Fs (x::xs) (v::vs) di):∀ c,di 0 c->(∀ t,¬ Fs t c)/\∀ k,k<xs.length->¬ di (k+1) c:=by
 intro c aa;refine ⟨λt=>h.off 0 t c (by simp) aa,λk hk ig=>?_⟩;have:=h.d_ 0 (k+1) c (by simp) (by simpa using hk) aa ig;omega
theorem lA.head {Fs:Nat->a'}{x:ab}{xs:List ab}{di:Nat->a'}{c:Nat}(h:(∃ t,Fs t c)\/di 0 c\/∃ k,k<xs.length/\di (k+1) c):lA Fs (x::xs).length di c:=by
 rcases h with h | h | ⟨k,hk,h⟩
 ·exact .inl h
 ·exact .inr ⟨0,by simp,h⟩
 ·exact .inr ⟨k+1,by simpa using hk,h⟩
theorem GQ {g:aL}{p:Place}{y:ab}{q:Place}(h:q.root≠p.root):bG (cn g p y) q=bG g q:=by
 grind [bG,cn]
theorem wo {g:aL}{p:Place}{y:ab}{t:Nat}(h:t≠p.root):cn g p y t=g t:=by
 grind [cn]
theorem Qf {a:Option Addr}{n cap cr nq:Nat}:(Value.slice a n cap).ownBlock=(Value.slice a cr nq).ownBlock:=by cases a <;> rfl
theorem Zt {e:TypeId}{z n N:Nat}{a:Option Addr}{cap:Nat}{us:List Value}(h:w.ownsRow 0 e z (.slice a N cap) N us) (aB:n<=N):w.ownsRow 0 e z (.slice a n cap) n (us.take (n * z)):=by
 have hle:n * z<=N * z:=Nat.mul_le_mul_right _ aB;obtain ⟨hu,bP⟩:=h;refine ⟨by rw [List.length_take,hu]; omega,?_⟩
 grind
theorem Take.sound {g g':aL}{xs xs':List ab}(h:Take g xs xs' g'):Hx w I T g xs xs' g':=by
 induction h with
 | bk h=>exact λ{Fs vs di} bh hH=>⟨Fs,di,bh,hH,λ_ h=>h⟩
 | @cons g g' x xs xs' J _ aM =>
  intro Fs vs di bh hH;cases vs with
  | nil=>have:=hH.len; simp at this
  | cons v vs =>
   obtain ⟨bV,jy,dM,V',hg⟩:=aM bh hH.tail;have aK:=R.vt hH;have off:∀ c,di 0 c->¬ lA bV xs'.length jy c:=by
    intro c aa au;rcases hg c au with ⟨t,h⟩ | ⟨k,hk,h⟩
    ·exact (aK c aa).1 t h
    ·exact (aK c aa).2 k hk h
   refine ⟨bV,_,dM,V'.cons (hH.rel 0 x v rfl rfl) (λk c hk aa h=>off c aa (.inr ⟨k,hk,h⟩)) (λt c aa h=>off c aa (.inl ⟨t,h⟩)) (λc aa=>hH.bd 0 c (by simp) aa),?_⟩;rintro c (h | ⟨k,hk,h⟩)
   ·rcases hg c (.inl h) with h | ⟨j,ag,h⟩
    ·exact .inl h
    ·exact .inr ⟨j+1,by simpa using ag,h⟩
   ·cases k with
    | zero=>exact .inr ⟨0,by simp,h⟩
    | succ k =>
     rcases hg c (.inr ⟨k,by simpa using hk,h⟩) with h | ⟨j,ag,h⟩
     ·exact .inl h
     ·exact .inr ⟨j+1,by simpa using ag,h⟩
 | @a6 g g1 g' z n N p cs cs' xs xs' aq aB t1 _ gh fQ =>
  intro Fs vs di bh hH;cases vs with
  | nil=>have:=hH.len; simp at this
  | cons v vs =>
   obtain ⟨qN,cu,gD,hy,c_,kr⟩:=bh.part aq (by simp);obtain ⟨a,kx,cap,h1,rfl,aD⟩:=(hH.rel 0 _ v rfl rfl).n2;rw [h1] at gD;cases gD;obtain ⟨a2,r3,h9,_⟩:=hy.oa;cases h9;obtain ⟨fo,iS,iU,hz⟩:=kr .dead cj (.dead λ_ h=>h) (λ_ h=>h.elim) (λ_ h=>h.elim) (λ_ _ _ h=>h.elim) (λ_ h=>by cases h);have lM:∀ t c,fo t c->Fs t c/\¬ cu c:=by
    intro t c aa;by_cases ar:t=p.root
    ·subst ar;rcases (iU c).1 aa with h | h
     ·exact h
     ·exact h.elim
    ·rw [hz t ar] at aa;exact ⟨aa,λec=>ar (bh.d_ _ _ _ aa (c_ c ec))⟩
   cases hy with
   | ref J=>simp [ab.isRef] at J
   | @own _ _ _ _ e us bH _ aW ah jl hr aO au aH =>
    have FC:∀ k,k<(cs.take (n * z)).length->k<cs.length:=λk hk=>by rw [List.length_take] at hk; omega
    have ey:∀ k c,k<(cs.take (n * z)).length->bH k c->cu c:=λk c hk aa=>(aH c).2 (.inr ⟨k,FC k hk,aa⟩);have iw:Hand w I (fh w T) fo (cs.take (n * z)) (us.take (n * z)) bH:=by
     refine ⟨by simp [ah],λk x u J hu=>?_,λj k c ag hk=>aO j k c (FC j ag) (FC k hk),λk t c hk aa aT=>(lM t c aT).2 (ey k c hk aa),λk c hk aa=>bh.bd _ c (c_ c (ey k c hk aa))⟩;rw [List.getElem?_take] at J hu
     split at J
     ·rename_i dq; rw [if_pos dq] at hu; exact hr k x u J hu
     ·cases J
    have rl:=Zt aW aB;obtain ⟨bV,jy,av,a2,a3⟩:=Take.node (g1:=cn g p .dead) (Fs:=Fs) (B:=λc=>(Value.slice a n cap).ownBlock=some c) (H0:=di 0) (X:=.own z n cs') (v0:=.slice a n cap) iS iw
     (λc aa=>by
      have ec:cu c:=(aH c).2 (.inl (by rw [<- aa]; exact Qf));exact ⟨⟨_,c_ c ec⟩,λt aT=>(lM t c aT).2 ec,λk hk ig=>au k c (FC k hk) ig (by rw [<- aa]; exact Qf),bh.bd _ c (c_ c ec)⟩)
     (λc aa=>by
      rcases aa with ⟨t,h⟩ | ⟨k,hk,h⟩
      ·exact .inl ⟨t,(lM t c h).1⟩
      ·exact .inl ⟨_,c_ c (ey k c hk h)⟩)
     hH.tail (R.vt hH) gh fQ (λyU gR iu lG=>by
      refine .own rl (by rw [t1.length]; simp [ah]) (λk u hu=>?_) gR iu (λk c hk aa h=>lG k c hk aa h) λc=>Iff.rfl;rw [List.getElem?_take] at hu
      split at hu
      ·exact jl k u hu
      ·cases hu)
    exact ⟨bV,jy,av,a2,λc aa=>lA.head (a3 c aa)⟩
 | @bL g g1 g' z n m t q cs new cs' xs xs' ar aq a8 t1 _ gh fQ =>
  intro Fs vs di bh hH;cases vs with
  | nil=>have:=hH.len; simp at this
  | cons v vs =>
   obtain ⟨a,kx,cap,h1,rfl,aD⟩:=(hH.rel 0 _ v rfl rfl).n2;obtain ⟨v0,ko,gn⟩:=bh.rel t _ ar;simp only [dx,ko,walk,Option.some.injEq] at h1;subst h1;obtain ⟨bv,e,b3,us,news,gn⟩:=gn.vO;have bp:kx=n+m:=by
    obtain ⟨_,bP⟩:=gn.mN;rcases bP with ⟨bP,aK⟩ | ⟨_,_,_,bP,_⟩
    ·cases bP; omega
    ·cases bP; rfl
   subst bp;obtain ⟨Se,I8,gv,fy⟩:=bh.kill t;have JX:bG (cn g ⟨t,[]⟩ .dead) q=some (.own z n cs):=by rw [GQ (by simpa using a8)]; exact aq
   obtain ⟨qN,cu,gD,hy,c_,kr⟩:=I8.part JX (by simp);obtain ⟨b',nq,bm,rfl⟩:=gn.jo;rw [bm] at gD;cases gD;obtain ⟨fo,iS,iU,hz⟩:=kr .dead cj (.dead λ_ h=>h) (λ_ h=>h.elim) (λ_ h=>h.elim) (λ_ _ _ h=>h.elim) (λ_ h=>by cases h);have qj:∀ c,cu c->Fs q.root c:=λc aa=>by have:=c_ c aa; rwa [fy _ a8] at this
   have lM:∀ s c,fo s c->Fs s c/\¬ cu c/\s≠t:=by
    intro s c aa;have bU:s≠t:=by
     rintro rfl;by_cases vE:s=q.root
     ·exact a8 vE.symm
     ·rw [hz s vE] at aa; exact gv c aa
    by_cases aw:s=q.root
    ·subst aw;rcases (iU c).1 aa with h | h
     ·exact ⟨by have:=h.1; rwa [fy _ a8] at this,h.2,bU⟩
     ·exact h.elim
    ·rw [hz s aw,fy s bU] at aa;exact ⟨aa,λec=>aw (bh.d_ _ _ _ aa (qj c ec)),bU⟩
   cases hy with
   | ref J=>simp [ab.isRef] at J
   | @own _ _ _ _ b1 iL bH _ aW ah jl hr aO au aH =>
    have:=K6 aW gn.kE;subst this;have ey:∀ k c,k<cs.length->bH k c->cu c:=λk c hk aa=>(aH c).2 (.inr ⟨k,hk,aa⟩);have iw:Hand w I (fh w T) fo (cs++new) (iL++news) (λk=>if k<cs.length then bH k else cj):=by
     refine ⟨by simp [ah,gn.ah],λk x u J hu=>?_,λj k c ag hk aa ep=>?_,λk s c hk aa aT=>?_,λk c hk aa=>?_⟩
     ·by_cases dq:k<cs.length
      ·rw [List.getElem?_append_left dq] at J;rw [List.getElem?_append_left (by omega)] at hu;simpa [dq] using hr k x u J hu
      ·rw [List.getElem?_append_right (by omega)] at J;rw [List.getElem?_append_right (by omega),<- ah] at hu;simpa [dq] using gn.hr _ x u J hu
     ·by_cases ez:j<cs.length <;> by_cases dq:k<cs.length <;> simp [ez,dq,cj] at aa ep;exact aO j k c ez dq aa ep
     ·by_cases dq:k<cs.length <;> simp [dq,cj] at aa;exact (lM s c aT).2.1 (ey k c dq aa)
     ·by_cases dq:k<cs.length <;> simp [dq,cj] at aa;exact bh.bd _ c (qj c (ey k c dq aa))
    obtain ⟨bV,jy,av,a2,a3⟩:=Take.node (g1:=cn (cn g ⟨t,[]⟩ .dead) q .dead) (Fs:=Fs) (B:=λc=>(Value.slice a (n+m) cap).ownBlock=some c) (H0:=di 0) (X:=.own z (n+m) cs') (v0:=.slice a (n+m) cap) iS iw
     (λc aa=>by
      by_cases qp:(Value.slice b' n nq).ownBlock=some c
      ·have ec:cu c:=(aH c).2 (.inl qp);refine ⟨⟨_,qj c ec⟩,λs aT=>(lM s c aT).2.1 ec,λk hk ig=>?_,bh.bd _ c (qj c ec)⟩;by_cases dq:k<cs.length <;> simp [dq,cj] at ig;exact au k c dq ig qp
      ·have FD:Fs t c:=(gn.aH c).2 ⟨aa,qp⟩;refine ⟨⟨_,FD⟩,λs aT=>(lM s c aT).2.2 (bh.d_ _ _ _ (lM s c aT).1 FD),λk hk ig=>?_,bh.bd _ c FD⟩;by_cases dq:k<cs.length <;> simp [dq,cj] at ig;exact a8 (bh.d_ _ _ _ (qj c (ey k c dq ig)) FD))
     (λc aa=>by
      rcases aa with ⟨s,h⟩ | ⟨k,hk,h⟩
      ·exact .inl ⟨s,(lM s c h).1⟩
      ·by_cases dq:k<cs.length <;> simp [dq,cj] at h;exact .inl ⟨_,qj c (ey k c dq h)⟩)
     hH.tail (R.vt hH) gh fQ (λyU gR iu lG=>by
      refine .own gn.mN (by rw [t1.length]; simp [ah,gn.ah]) (λk u hu=>?_) gR iu (λk c hk aa h=>lG k c hk aa h) λc=>Iff.rfl;by_cases dq:k<iL.length
      ·rw [List.getElem?_append_left dq] at hu; exact jl k u hu
      ·rw [List.getElem?_append_right (by omega)] at hu; exact gn.h1 _ u hu)
    exact ⟨bV,jy,av,a2,λc aa=>lA.head (a3 c aa)⟩
 | @Al g g1 g' z n m t n_ m2 t2 q cs new Ab cs' xs xs' ar OX aB aq a8 rk X4 t1 _ gh fQ =>
  subst aB;intro Fs vs di bh hH;cases vs with
  | nil=>have:=hH.len; simp at this
  | cons v vs =>
   obtain ⟨a,kx,cap,h1,rfl,aD⟩:=(hH.rel 0 _ v rfl rfl).n2;obtain ⟨v0,ko,gn⟩:=bh.rel t _ ar;simp only [dx,ko,walk,Option.some.injEq] at h1;subst h1;obtain ⟨bv,e,b3,us,news,gn⟩:=gn.vO;have bp:kx=n_+m2+m:=by
    obtain ⟨_,bP⟩:=gn.mN;rcases bP with ⟨bP,aK⟩ | ⟨_,_,_,bP,_⟩
    ·cases bP; omega
    ·cases bP; rfl
   subst bp;obtain ⟨v2,s9,mI⟩:=bh.rel t2 _ OX;obtain ⟨MT,b1,tQ,abr,KY,mI⟩:=mI.vO;have jo:bv=v2:=by
    obtain ⟨av,M8,b7,rfl⟩:=gn.jo;simp only [dx,s9,walk,Option.some.injEq] at b7;exact b7.symm
   subst jo;have ny:us=abr++KY:=K6 gn.kE mI.mN;subst ny;obtain ⟨ack,Wt,Xt,JC⟩:=bh.kill t;obtain ⟨Se,I8,gv,fy⟩:=Wt.kill t2;have JX:bG (cn (cn g ⟨t,[]⟩ .dead) ⟨t2,[]⟩ .dead) q=some (.own z n_ cs):=by rw [GQ (by simpa using rk),GQ (by simpa using a8)]; exact aq
   obtain ⟨qN,cu,gD,hy,c_,kr⟩:=I8.part JX (by simp);obtain ⟨b',nq,bm,rfl⟩:=mI.jo;rw [bm] at gD;cases gD;obtain ⟨fo,iS,iU,hz⟩:=kr .dead cj (.dead λ_ h=>h) (λ_ h=>h.elim) (λ_ h=>h.elim) (λ_ _ _ h=>h.elim) (λ_ h=>by cases h);have qj:∀ c,cu c->Fs q.root c:=λc aa=>by have:=c_ c aa; rwa [fy _ rk,JC _ a8] at this
   have lM:∀ s c,fo s c->Fs s c/\¬ cu c/\s≠t/\s≠t2:=by
    intro s c aa;have n1:s≠t2:=by
     rintro rfl;by_cases vE:s=q.root
     ·exact rk vE.symm
     ·rw [hz s vE] at aa; exact gv c aa
    have bU:s≠t:=by
     rintro rfl;by_cases vE:s=q.root
     ·exact a8 vE.symm
     ·rw [hz s vE,fy s n1] at aa; exact Xt c aa
    by_cases aw:s=q.root
    ·subst aw;rcases (iU c).1 aa with h | h
     ·exact ⟨by have:=h.1; rwa [fy _ rk,JC _ a8] at this,h.2,bU,n1⟩
     ·exact h.elim
    ·rw [hz s aw,fy s n1,JC s bU] at aa;exact ⟨aa,λec=>aw (bh.d_ _ _ _ aa (qj c ec)),bU,n1⟩
   cases hy with
   | ref J=>simp [ab.isRef] at J
   | @own _ _ _ _ eP iL bH _ aW ah jl hr aO au aH =>
    have:=K6 aW mI.kE;subst this;have ey:∀ k c,k<cs.length->bH k c->cu c:=λk c hk aa=>(aH c).2 (.inr ⟨k,hk,aa⟩);have iw:Hand w I (fh w T) fo (cs++Ab++new) (iL++KY++news) (λk=>if k<cs.length then bH k else cj):=by
     have fV:=mI.ah;have C6:=gn.ah;refine ⟨by simp [ah,fV,C6],λk x u J hu=>?_,λj k c ag hk aa ep=>?_,λk s c hk aa aT=>?_,λk c hk aa=>?_⟩
     ·rw [List.append_assoc] at J hu;by_cases dq:k<cs.length
      ·rw [List.getElem?_append_left dq] at J;rw [List.getElem?_append_left (by omega)] at hu;simpa [dq] using hr k x u J hu
      ·rw [List.getElem?_append_right (by omega)] at J;rw [List.getElem?_append_right (by omega),<- ah] at hu;simp only [dq,if_false];by_cases JJ:k - cs.length<Ab.length
       ·rw [List.getElem?_append_left JJ] at J;rw [List.getElem?_append_left (by omega)] at hu;exact mI.hr _ x u J hu
       ·rw [List.getElem?_append_right (by omega)] at J;rw [List.getElem?_append_right (by omega),<- fV] at hu;exact gn.hr _ x u J hu
     ·by_cases ez:j<cs.length <;> by_cases dq:k<cs.length <;> simp [ez,dq,cj] at aa ep;exact aO j k c ez dq aa ep
     ·by_cases dq:k<cs.length <;> simp [dq,cj] at aa;exact (lM s c aT).2.1 (ey k c dq aa)
     ·by_cases dq:k<cs.length <;> simp [dq,cj] at aa;exact bh.bd _ c (qj c (ey k c dq aa))
    have Q':∀ s c,Fs s c->s=t\/s=t2->(∃ s,Fs s c)/\(∀ s,¬ fo s c)/\(∀ k,k<(cs++Ab++new).length->¬ (if k<cs.length then bH k else cj) c)/\¬ I c:=by
     intro s c aa aw;refine ⟨⟨_,aa⟩,λcy aT=>?_,λk hk ig=>?_,bh.bd _ c aa⟩
     ·obtain ⟨f1,_,f2,f3⟩:=lM cy c aT;have:=bh.d_ _ _ _ f1 aa;rcases aw with rfl | rfl
      ·exact f2 this
      ·exact f3 this
     ·by_cases dq:k<cs.length <;> simp [dq,cj] at ig;have:=bh.d_ _ _ _ (qj c (ey k c dq ig)) aa;rcases aw with rfl | rfl
      ·exact a8 this
      ·exact rk this
    obtain ⟨bV,jy,av,a2,a3⟩:=Take.node (g1:=cn (cn (cn g ⟨t,[]⟩ .dead) ⟨t2,[]⟩ .dead) q .dead) (Fs:=Fs) (B:=λc=>(Value.slice a (n_+m2+m) cap).ownBlock=some c) (H0:=di 0) (X:=.own z (n_+m2+m) cs') (v0:=.slice a (n_+m2+m) cap) iS iw
     (λc aa=>by
      by_cases qp:bv.ownBlock=some c
      ·by_cases Jh:(Value.slice b' n_ nq).ownBlock=some c
       ·have ec:cu c:=(aH c).2 (.inl Jh);refine ⟨⟨_,qj c ec⟩,λs aT=>(lM s c aT).2.1 ec,λk hk ig=>?_,bh.bd _ c (qj c ec)⟩;by_cases dq:k<cs.length <;> simp [dq,cj] at ig;exact au k c dq ig Jh
       ·exact Q' t2 c ((mI.aH c).2 ⟨qp,Jh⟩) (.inr rfl)
      ·exact Q' t c ((gn.aH c).2 ⟨aa,qp⟩) (.inl rfl))
     (λc aa=>by
      rcases aa with ⟨s,h⟩ | ⟨k,hk,h⟩
      ·exact .inl ⟨s,(lM s c h).1⟩
      ·by_cases dq:k<cs.length <;> simp [dq,cj] at h;exact .inl ⟨_,qj c (ey k c dq h)⟩)
     hH.tail (R.vt hH) gh fQ (λyU gR iu lG=>by
      refine .own gn.mN (by rw [t1.length]; simp [ah,mI.ah,gn.ah]) (λk u hu=>?_) gR iu (λk c hk aa h=>lG k c hk aa h) λc=>Iff.rfl;rw [List.append_assoc] at hu;by_cases dq:k<iL.length
      ·rw [List.getElem?_append_left dq] at hu; exact jl k u hu
      ·rw [List.getElem?_append_right (by omega)] at hu;by_cases JJ:k - iL.length<KY.length
       ·rw [List.getElem?_append_left JJ] at hu; exact mI.h1 _ u hu
       ·rw [List.getElem?_append_right (by omega)] at hu; exact gn.h1 _ u hu)
    exact ⟨bV,jy,av,a2,λc aa=>lA.head (a3 c aa)⟩
 | @obj g g1 g' p cs cs' xs xs' aq t1 _ gh fQ =>
  intro Fs vs di bh hH;cases vs with
  | nil=>have:=hH.len; simp at this
  | cons v vs =>
   obtain ⟨qN,cu,gD,hy,c_,kr⟩:=bh.part aq (by simp);obtain ⟨u,ad,h1,af,rfl⟩:=(hH.rel 0 _ v rfl rfl).n3;rw [h1] at gD;cases gD;obtain ⟨fo,iS,iU,hz⟩:=kr .dead cj (.dead λ_ h=>h) (λ_ h=>h.elim) (λ_ h=>h.elim) (λ_ _ _ h=>h.elim) (λ_ h=>by cases h);have lM:∀ t c,fo t c->Fs t c/\¬ cu c:=by
    intro t c aa;by_cases ar:t=p.root
    ·subst ar;rcases (iU c).1 aa with h | h
     ·exact h
     ·exact h.elim
    ·rw [hz t ar] at aa;exact ⟨aa,λec=>ar (bh.d_ _ _ _ aa (c_ c ec))⟩
   cases hy with
   | ref J=>simp [ab.isRef] at J
   | @obj _ b e arr bH _ aW ah jl hr aO au aH aw =>
    simp only [addrOf,Option.some.injEq] at af;subst af;have ey:∀ k c,k<cs.length->bH k c->cu c:=λk c hk aa=>(aH c).2 (.inr ⟨k,hk,aa⟩);have iw:Hand w I (fh w T) fo cs arr.toList bH :=
     ⟨by simp [ah],λk x u J hu=>hr k x u J (by simpa using hu),aO,λk t c hk aa aT=>(lM t c aT).2 (ey k c hk aa),λk c hk aa=>bh.bd _ c (c_ c (ey k c hk aa))⟩
    obtain ⟨bV,jy,av,a2,a3⟩:=Take.node (g1:=cn g p .dead) (Fs:=Fs) (B:=λc=>c=b) (H0:=di 0) (X:=.obj cs') (v0:=.pointer (some ⟨b,0,none⟩)) iS iw
     (λc aa=>by
      subst aa;have ec:cu c:=(aH c).2 (.inl rfl);exact ⟨⟨_,c_ c ec⟩,λt aT=>(lM t c aT).2 ec,λk hk ig=>au k hk ig,bh.bd _ c (c_ c ec)⟩)
     (λc aa=>by
      rcases aa with ⟨t,h⟩ | ⟨k,hk,h⟩
      ·exact .inl ⟨t,(lM t c h).1⟩
      ·exact .inl ⟨_,c_ c (ey k c hk h)⟩)
     hH.tail (R.vt hH) gh fQ (λyU gR iu lG=>by
      refine .obj aW (by rw [t1.length,ah]) jl (λk x u J hu=>gR k x u J (by simpa using hu)) iu (λk hk h=>lG k b hk h rfl) (λc=>Iff.rfl) λk j u hk=>aw k j u (t1.self k j hk))
    exact ⟨bV,jy,av,a2,λc aa=>lA.head (a3 c aa)⟩
 | @mp g g1 g' p q xs xs' aq t1 _ gh fQ =>
  intro Fs vs di bh hH;cases vs with
  | nil=>have:=hH.len; simp at this
  | cons v vs =>
   obtain ⟨qN,cu,gD,hy,c_,kr⟩:=bh.part aq (by simp);have hm:=hH.rel 0 _ v rfl rfl;cases hm with
   | ref _ hm _ =>
   obtain ⟨HM,h1,rfl⟩:=hm;rw [h1] at gD;cases gD;obtain ⟨fo,iS,iU,hz⟩:=kr .dead cj (.dead λ_ h=>h) (λ_ h=>h.elim) (λ_ h=>h.elim) (λ_ _ _ h=>h.elim) (λ_ h=>by cases h);have lM:∀ t c,fo t c->Fs t c/\¬ cu c:=by
    intro t c aa;by_cases ar:t=p.root
    ·subst ar;rcases (iU c).1 aa with h | h
     ·exact h
     ·exact h.elim
    ·rw [hz t ar] at aa;exact ⟨aa,λec=>ar (bh.d_ _ _ _ aa (c_ c ec))⟩
   cases hy with
   | ref J=>simp [ab.isRef] at J
   | @mp _ b es clock _ aW a8 aH =>
    have iw:Hand w I (fh w T) fo [] [] (λ_=>cj) :=
     ⟨rfl,λk x u J=>by simp at J,λ_ _ _ _ _ h=>h.elim,λ_ _ _ _ h=>h.elim,λ_ _ _ h=>h.elim⟩
    obtain ⟨bV,jy,av,a2,a3⟩:=Take.node (g1:=cn g p .dead) (Fs:=Fs) (B:=λc=>c=b) (H0:=di 0) (X:=.mp q) (v0:=.map (some b)) iS iw
     (λc aa=>by
      subst aa;have ec:cu c:=(aH c).2 rfl;exact ⟨⟨_,c_ c ec⟩,λt aT=>(lM t c aT).2 ec,λk hk _=>by simp at hk,bh.bd _ c (c_ c ec)⟩)
     (λc aa=>by
      rcases aa with ⟨t,h⟩ | ⟨k,hk,h⟩
      ·exact .inl ⟨t,(lM t c h).1⟩
      ·exact h.elim)
     hH.tail (R.vt hH) gh fQ (λyU gR iu lG=>by
      refine .mp aW a8 λc=>⟨λh=>h.elim id λ⟨_,hk,_⟩=>by simp at hk,.inl⟩)
    exact ⟨bV,jy,av,a2,λc aa=>lA.head (a3 c aa)⟩
 | @agg g g1 g' cs cs' xs xs' t1 _ gh fQ =>
  intro Fs vs di bh hH;cases vs with
  | nil=>have:=hH.len; simp at this
  | cons v vs =>
   have J:=hH.rel 0 _ v rfl rfl;have aK:=R.vt hH;cases J with
   | ref J=>simp [ab.isRef] at J
   | @agg _ us bH _ ah jl hr aO aH =>
    have ey:∀ k c,k<cs.length->bH k c->di 0 c:=λk c hk aa=>(aH c).2 ⟨k,hk,aa⟩;obtain ⟨bV,jy,av,a2,a3⟩:=Take.node (g1:=g) (Fs:=Fs) (B:=cj) (H0:=di 0) (X:=.agg cs') (v0:=.agg us) bh
     (⟨by simp [ah],λk x u J hu=>hr k x u J (by simpa using hu),aO,λk t c hk aa=>(aK c (ey k c hk aa)).1 t,λk c hk aa=>hH.bd 0 c (by simp) (ey k c hk aa)⟩:Hand w I (fh w T) Fs cs us.toList bH)
     (λc aa=>aa.elim)
     (λc aa=>by
      rcases aa with h | ⟨k,hk,h⟩
      ·exact .inl h
      ·exact .inr (ey k c hk h))
     hH.tail aK gh fQ (λyU gR iu lG=>by
      refine .agg (by rw [t1.length,ah]) jl (λk x u J hu=>gR k x u J (by simpa using hu)) iu λc=>⟨λh=>h.elim (λh=>h.elim) id,.inr⟩)
    exact ⟨bV,jy,av,a2,λc aa=>lA.head (a3 c aa)⟩
 | @bS g g1 g' cs cs' xs xs' t1 _ gh fQ =>
  intro Fs vs di bh hH;cases vs with
  | nil=>have:=hH.len; simp at this
  | cons v vs =>
   have J:=hH.rel 0 _ v rfl rfl;have aK:=R.vt hH;cases J with
   | ref J=>simp [ab.isRef] at J
   | @bS _ us bH _ ah hr aO aH =>
    have ey:∀ k c,k<cs.length->bH k c->di 0 c:=λk c hk aa=>(aH c).2 ⟨k,hk,aa⟩;obtain ⟨bV,jy,av,a2,a3⟩:=Take.node (g1:=g) (Fs:=Fs) (B:=cj) (H0:=di 0) (X:=.bS cs') (v0:=.tuple us) bh
     (⟨by simp [ah],λk x u J hu=>hr k x u J (by simpa using hu),aO,λk t c hk aa=>(aK c (ey k c hk aa)).1 t,λk c hk aa=>hH.bd 0 c (by simp) (ey k c hk aa)⟩:Hand w I (fh w T) Fs cs us.toList bH)
     (λc aa=>aa.elim)
     (λc aa=>by
      rcases aa with h | ⟨k,hk,h⟩
      ·exact .inl h
      ·exact .inr (ey k c hk h))
     hH.tail aK gh fQ (λyU gR iu lG=>by
      refine .bS (by rw [t1.length,ah]) (λk x u J hu=>gR k x u J (by simpa using hu)) iu λc=>⟨λh=>h.elim (λh=>h.elim) id,.inr⟩)
    exact ⟨bV,jy,av,a2,λc aa=>lA.head (a3 c aa)⟩
end
inductive jA (nb:ab->Prop):ab->Prop
 | bk {x:ab}(h:cC x):jA nb x
 | ref {x:ab}(J:x.isRef=true) (h:nb x):jA nb x
 | own {z n:Nat}{cs:List ab}(h:∀ x∈cs,jA nb x):jA nb (.own z n cs)
 | obj {cs:List ab}(h:∀ x∈cs,jA nb x):jA nb (.obj cs)
 | agg {cs:List ab}(h:∀ x∈cs,jA nb x):jA nb (.agg cs)
 | bS {cs:List ab}(h:∀ x∈cs,jA nb x):jA nb (.bS cs)
 | cD {fn:Fn}{a b:List ab}(h1:∀ x∈a,jA nb x) (af:∀ x∈b,jA nb x):jA nb (.cD fn a b)
def AY:ab->Option Place
 | .ptr p _=>some p
 | .a6 _ p _=>some p
 | .sub _ p _ _=>some p
 | .bL _ p _ _ _=>some p
 | .gj p=>some p
 | _=>none
def Clear (p:Place) (k m:Nat) (r:ab):Prop:=∀ q,AY r=some q->q.root=p.root->∀ j c',q.path=p.path++j::c'->j<k\/k+m<=j
def eX {α:Type}(l:List α) (k:Nat) (c:List α):List α:=l.take k++c++l.drop (k+c.length)
theorem rN {α:Type}{l:List α}{k:Nat}{c:List α}(h:k+c.length<=l.length):(eX l k c).length=l.length:=by
 simp [eX]; omega
theorem rM {α:Type}{l:List α}{k:Nat}{c:List α}(h:k+c.length<=l.length) (j:Nat):(eX l k c)[j]?=if k<=j/\j<k+c.length then c[j - k]? else l[j]?:=by
 unfold eX;rw [List.append_assoc];by_cases h1:j<k
 ·rw [List.getElem?_append_left (by simp; omega),List.getElem?_take,if_pos h1,if_neg (by omega)]
 ·rw [List.getElem?_append_right (by simp; omega)];have:(l.take k).length=k:=by simp; omega
  rw [this];by_cases af:j<k+c.length
  ·rw [List.getElem?_append_left (by omega),if_pos ⟨by omega,af⟩]
  ·rw [List.getElem?_append_right (by omega),List.getElem?_drop,if_neg (by omega)];congr 1; omega
theorem aaY {α:Type}{l:List α}{k:Nat}{c:List α}{m:Nat}(h:k+c.length<=m) (hm:m<=l.length):(eX l k c).take m=eX (l.take m) k c:=by
 have h1:k+c.length<=(l.take m).length:=by rw [List.length_take]; omega
 apply List.ext_getElem?;intro j;rw [List.getElem?_take,rM h1,rM (l:=l) (by omega),List.getElem?_take];by_cases ag:j<m
 ·rw [if_pos ag,if_pos ag]
 ·rw [if_neg ag,if_neg ag,if_neg (by omega)]
def ab.eX (x:ab) (k:Nat) (c:List ab):ab :=
 match x with
 | .own z n cs=>.own z n (Own.eX cs k c)
 | .obj cs=>.obj (Own.eX cs k c)
 | x=>x
section
variable {w:World}{I:a'}{T:Array Value}{g:aL}{Fs:Nat->a'}
theorem R.wi {ρ:ab->Value->Prop}{nb:ab->Prop}{x:ab}{v:Value}{F:a'}(h:R w I ρ x v F):jA nb x->R w I (λr u=>ρ r u/\nb r) x v F:=by
 induction h with
 | lit h aH=>exact λ_=>.lit h aH
 | aQ aH=>exact λ_=>.aQ aH
 | dead aH=>exact λ_=>.dead aH
 | mq aH=>exact λ_=>.mq aH
 | @ref x _ _ J h aH =>
  intro hk;refine .ref J ⟨h,?_⟩ aH;cases hk with
  | ref _ h=>exact h
  | bk h=>cases h <;> simp [ab.isRef] at J
  | _=>simp [ab.isRef] at J
 | gG aH=>exact λ_=>.gG aH
 | mp aW aq aH=>exact λ_=>.mp aW aq aH
 | hS aW h1 aH=>exact λ_=>.hS aW h1 aH
 | imp aH bf aW aq=>exact λ_=>.imp aH bf aW aq
 | bd aH lO bf aw ah h1 aa hr aM =>
  intro hk;cases hk with
  | ref J=>simp [ab.isRef] at J
  | bk h=>cases h with | bd h=>exact .bd aH lO bf aw ah h1 aa λk x J=>aM k x J (.bk (h x (List.mem_of_getElem? J)))
 | cw aH bf aw h1 aa hr aM =>
  intro hk;cases hk with
  | ref J=>simp [ab.isRef] at J
  | bk h=>cases h with | cw h=>exact .cw aH bf aw h1 aa λk x J=>aM k x J (.bk (h x (List.mem_of_getElem? J)))
 | own aW ah h1 hr aO au aH aM =>
  intro hk;refine .own aW ah h1 (λk x u J hu=>aM k x u J hu ?_) aO au aH;cases hk with
  | ref J=>simp [ab.isRef] at J
  | bk h=>cases h with | own h=>exact .bk (h x (List.mem_of_getElem? J))
  | own h=>exact h x (List.mem_of_getElem? J)
 | obj aW ah h1 hr aO au aH aw aM =>
  intro hk;refine .obj aW ah h1 (λk x u J hu=>aM k x u J hu ?_) aO au aH aw;cases hk with
  | ref J=>simp [ab.isRef] at J
  | bk h=>cases h with | obj h=>exact .bk (h x (List.mem_of_getElem? J))
  | obj h=>exact h x (List.mem_of_getElem? J)
 | agg ah h1 hr aO aH aM =>
  intro hk;refine .agg ah h1 (λk x u J hu=>aM k x u J hu ?_) aO aH;cases hk with
  | ref J=>simp [ab.isRef] at J
  | bk h=>cases h with | agg h=>exact .bk (h x (List.mem_of_getElem? J))
  | agg h=>exact h x (List.mem_of_getElem? J)
 | bS ah hr aO aH aM =>
  intro hk;refine .bS ah (λk x u J hu=>aM k x u J hu ?_) aO aH;cases hk with
  | ref J=>simp [ab.isRef] at J
  | bk h=>cases h with | bS h=>exact .bk (h x (List.mem_of_getElem? J))
  | bS h=>exact h x (List.mem_of_getElem? J)
 | @cD fn first caps v1 v2 F aH h1 af iU hz gh fQ =>
  intro hk;have:(∀ x∈first,jA nb x)/\∀ x∈caps,jA nb x:=by
   cases hk with
   | ref J=>simp [ab.isRef] at J
   | bk h=>cases h with | cD h1 af=>exact ⟨λx J=>.bk (h1 x J),λx J=>.bk (af x J)⟩
   | cD h1 af=>exact ⟨h1,af⟩
  exact .cD aH h1 af (λk x u J hu=>gh k x u J hu (this.1 x (List.mem_of_getElem? J))) (λk x u J hu=>fQ k x u J hu (this.2 x (List.mem_of_getElem? J)))
theorem jC.store (bh:jC w I T g Fs) {p:Place}{nd:ab}{z n:Nat}{cs:List ab}(aq:bG g p=some nd) (eA:nd=.own z n cs\/nd=.obj cs) {k:Nat}{cs':List ab}(hk:k+cs'.length<=cs.length)
  {iL:List Value}{di:Nat->a'}(hH:Hand w I (fh w T) Fs cs' iL di) (oG:∀ x∈cs',cC x) (ln:nd=.obj cs->tB cs') (hh:∀ (j:Nat) (u:Value),iL[j]?=some u->u.oneCell'=true)
  {g2:aL}(zE:∀ t x,g2 t=some x->cn g p (nd.eX k cs') t=some x)
  (si:∀ t x,g2 t=some x->∀ y,g t=some y->jA (λr=>gA g r/\Clear p k cs'.length r/\gA g2 r) y) (ll:∀ t z q n m new,g2 t≠some (.bL z q n m new)) (j3:g2 p.root≠none) {b:Nat}{v:Value}
  (hv:dx w T p=some v) (au:addrOf v=some ⟨b,0,none⟩) {e:TypeId}{arr:Array Value}(kZ:w.heap[b]?=some (.cells arr e (0,0))) :
  ∃ bV,cA (w.setRow b (eX arr.toList k iL).toArray) I T g2 bV/\∀ t c,bV t c->Fs t c\/∃ j,j<cs'.length/\di j c:=by
 have lv:∀ z q n m new,nd≠.bL z q n m new:=by rcases eA with rfl | rfl <;> simp
 have hlen:=hH.len;have pq:∀ c,c≠b->(w.setRow b (eX arr.toList k iL).toArray).heap[c]?=w.heap[c]?:=λc aa=>setRow_other w b c _ aa;have Ek:(w.setRow b (eX arr.toList k iL).toArray).heap[b]?=some (.cells (eX arr.toList k iL).toArray e (0,0)):=setRow_heap w b arr _ e (0,0) kZ;have RD:(w.setRow b (eX arr.toList k iL).toArray).heap.size=w.heap.size:=by simp
 generalize vI:w.setRow b (eX arr.toList k iL).toArray=w' at *
 -- the slot of the node
 obtain ⟨dU,ix⟩:∃ dU,g p.root=some dU:=by
  unfold bG at aq;cases J:g p.root with
  | none=>rw [J] at aq; cases aq
  | some x=>exact ⟨x,rfl⟩
 have pG:dU.at p.path=some nd:=by simpa [bG,ix] using aq
 obtain ⟨v0,ko,gn⟩:=bh.rel _ _ ix;have B3:=gn.gp (by rintro z q n m new rfl; exact lv _ _ _ _ _ (ab.sV pG).2);have nx:jA (λr=>gA g r/\Clear p k cs'.length r/\gA g2 r) dU:=by
  cases af:g2 p.root with
  | none=>exact absurd af j3
  | some y=>exact si _ _ af _ ix
 let L5:ab->Value->Prop:=λr u=>fh w T r u/\gA g r/\Clear p k cs'.length r/\gA g2 r;have ql:R w I L5 dU v0 (Fs p.root):=B3.wi nx;obtain ⟨hY,cu,hw,ds,c_,e5,kr⟩:=R.focus p.path ql pG;have J':hY=v:=by simp only [dx,ko,hw,Option.some.injEq] at hv; exact hv
 subst J';have nY:cu b:=ds.Gb (z:=z) (n:=n) eA au;have same:∀ t c,Fs t c->c≠b->w'.heap[c]?=w.heap[c]?:=λ_ c _ aa=>pq c aa;have s0:∀ c,I c->w'.heap[c]?=w.heap[c]?:=λc aa=>pq c λe=>bh.bd _ b (c_ b nY) (e ▸ aa);have Fy:∀ t,t≠p.root->¬ Fs t b:=λt ar h=>ar (bh.d_ _ _ _ h (c_ b nY))
 -- ways that are clear of the cells
 obtain ⟨abK,abL⟩:=e5 w' λc aa aB=>pq c λe=>aB (e ▸ nY);have Py:∀ (ρ':ab->Value->Prop),(∀ x v,L5 x v->ρ' x v)->(∃ cQ,R w' I ρ' (nd.eX k cs') hY cQ/\∀ c,cQ c->cu c\/∃ j,j<cs'.length/\di j c)/\∀ j c' y,(j<k\/k+cs'.length<=j)->nd.at (j::c')=some y->walk w' hY (j::c')=walk w hY (j::c'):=by
  intro ρ' lU;have new:∀ (j:Nat) (x:ab) (u:Value),cs'[j]?=some x->iL[j]?=some u->R w' I ρ' x u (di j):=by
   intro j x u J hu;have ag:j<cs'.length:=(List.getElem?_eq_some_iff.1 J).1;have:=(hH.rel j x u J hu).bk (ρ':=ρ') (oG x (List.mem_of_getElem? J));exact this.frame s0 (λ_ h=>h) (λ_ _ h=>h) λc aa=>pq c λe=>hH.off j p.root b ag (e ▸ aa) (c_ b nY)
  rcases eA with rfl | rfl
  ·cases ds with
   | ref J=>simp [ab.isRef] at J
   | @own _ _ _ _ b1 us bH _ aW ah h1 hr aO iT aH =>
    obtain ⟨ny,bP⟩:=aW;rcases bP with ⟨rfl,_⟩ | ⟨dR,cap,cur,rfl,uJ,hE,wg,ym,Gx,DY⟩
    ·simp [addrOf] at au
    ·simp only [addrOf,Option.some.injEq,Addr.mk.injEq,and_true] at au;subst au;rw [kZ] at hE;cases hE;have W_:n * z<=arr.toList.length:=by
      rw [<- ny,<- DY,List.length_take] ; simp; omega
     have afk:us.length=cs.length:=ah.symm;have mg:w'.ownsRow 0 e z (.slice (some ⟨dR,0,none⟩) n cap) n (eX us k iL):=by
      refine ⟨by rw [rN (by omega),ny],.inr ⟨dR,cap,_,rfl,uJ,Ek,wg,ym,?_,?_⟩⟩
      ·rw [List.size_toArray,rN (by omega),Array.length_toList,Gx]
      ·show (eX arr.toList k iL).take (n * z)=_;rw [aaY (by omega) W_,DY]
     have NZ:∀ j,j<cs.length->¬ bH j dR:=λj ag h=>iT j dR ag h rfl;have ey:∀ j c,j<cs.length->bH j c->Fs p.root c:=λj c ag aa=>c_ c ((aH c).2 (.inr ⟨j,ag,aa⟩));refine ⟨⟨_,.own (Fs:=λj=>if k<=j/\j<k+cs'.length then di (j - k) else bH j) mg (by rw [rN hk,rN (by omega),ah]) (λj u hu=>?_) (λj x u J hu=>?_) (λi j c hi ag aa ep=>?_) (λj c ag aa vG=>?_) (λc=>Iff.rfl),λc aa=>?_⟩,λj c' y ag ao=>?_⟩
     ·rw [rM (by omega)] at hu
      split at hu
      ·exact hh _ u hu
      ·exact h1 j u hu
     ·rw [rM hk] at J;rw [rM (by omega),<- hlen] at hu;by_cases gC:k<=j/\j<k+cs'.length
      ·rw [if_pos gC] at J hu;simpa [gC] using new (j - k) x u J hu
      ·rw [if_neg gC] at J hu;have ez:j<cs.length:=(List.getElem?_eq_some_iff.1 J).1;rw [if_neg gC];exact (hr j x u J hu).frame s0 (λ_ h=>h) lU λc aa=>pq c λe=>NZ j ez (e ▸ aa)
     ·rw [rN hk] at hi ag;by_cases h1:k<=i/\i<k+cs'.length <;> by_cases af:k<=j/\j<k+cs'.length <;> simp only [h1,af,if_false] at aa ep
      ·have:=hH.d_ (i - k) (j - k) c (by omega) (by omega) (by simpa using aa) (by simpa using ep);omega
      ·exact absurd (ey j c ag ep) (hH.off (i - k) _ c (by omega) (by simpa using aa))
      ·exact absurd (ey i c hi aa) (hH.off (j - k) _ c (by omega) (by simpa using ep))
      ·exact aO i j c hi ag aa ep
     ·rw [rN hk] at ag;by_cases h1:k<=j/\j<k+cs'.length
      ·rw [if_pos h1] at aa;simp only [Value.ownBlock,Option.some.injEq] at vG;subst vG;exact hH.off (j - k) p.root dR (by omega) aa (c_ dR nY)
      ·rw [if_neg h1] at aa; exact iT j c ag aa vG
     ·rcases aa with aa | ⟨j,ag,aa⟩
      ·exact .inl ((aH c).2 (.inl aa))
      ·rw [rN hk] at ag;by_cases h1:k<=j/\j<k+cs'.length
       ·rw [if_pos h1] at aa; exact .inr ⟨j - k,by omega,aa⟩
       ·rw [if_neg h1] at aa; exact .inl ((aH c).2 (.inr ⟨j,ag,aa⟩))
     ·obtain ⟨c,o7,aa⟩:=ab.u_ ao;simp only [ab.kids] at o7;have ez:j<cs.length:=(List.getElem?_eq_some_iff.1 o7).1;have hu:us[j]?=some us[j]:=List.getElem?_eq_getElem (by omega);have nZ:child w (.slice (some ⟨dR,0,none⟩) n cap) j=some us[j]:=by
       refine pf (e:=e) (z:=z) (n:=n) (us:=us) ⟨ny,.inr ⟨dR,cap,arr,rfl,uJ,kZ,wg,ym,Gx,DY⟩⟩ hu
      have Cg:child w' (.slice (some ⟨dR,0,none⟩) n cap) j=some us[j]:=by
       refine pf mg ?_;rw [rM (by omega),if_neg (by omega)]; exact hu
      have:=R.p1 (w':=w') c' (hr j c _ o7 hu) aa λc aa=>pq c λe=>NZ j ez (e ▸ aa);simp [walk,nZ,Cg,this]
  ·cases ds with
   | ref J=>simp [ab.isRef] at J
   | @obj _ dR b1 jg bH _ aW ah h1 hr aO iT aH aw =>
    simp only [addrOf,Option.some.injEq,Addr.mk.injEq,and_true] at au;subst au;rw [kZ] at aW;cases aW;have vo:cs.length=arr.toList.length:=by simp [ah]
    have ey:∀ j c,j<cs.length->bH j c->Fs p.root c:=λj c ag aa=>c_ c ((aH c).2 (.inr ⟨j,ag,aa⟩));refine ⟨⟨_,.obj (Fs:=λj=>if k<=j/\j<k+cs'.length then di (j - k) else bH j) Ek (by rw [rN hk,List.size_toArray,rN (by omega),vo]) (λj u hu=>?_) (λj x u J hu=>?_) (λi j c hi ag aa ep=>?_) (λj ag aa=>?_) (λc=>Iff.rfl) (λi j u hi hu=>?_),λc aa=>?_⟩,λj c' y ag ao=>?_⟩
    ·rw [List.getElem?_toArray,rM (by omega)] at hu
     split at hu
     ·exact hh _ u hu
     ·exact h1 j u (by simpa using hu)
    ·rw [rM hk] at J;rw [List.getElem?_toArray,rM (by omega),<- hlen] at hu;by_cases gC:k<=j/\j<k+cs'.length
     ·rw [if_pos gC] at J hu;simpa [gC] using new (j - k) x u J hu
     ·rw [if_neg gC] at J hu;have ez:j<cs.length:=(List.getElem?_eq_some_iff.1 J).1;rw [if_neg gC];exact (hr j x u J (by simpa using hu)).frame s0 (λ_ h=>h) lU λc aa=>pq c λe=>iT j ez (e ▸ aa)
    ·rw [rN hk] at hi ag;by_cases h1:k<=i/\i<k+cs'.length <;> by_cases af:k<=j/\j<k+cs'.length <;> simp only [h1,af,if_false] at aa ep
     ·have:=hH.d_ (i - k) (j - k) c (by omega) (by omega) (by simpa using aa) (by simpa using ep);omega
     ·exact absurd (ey j c ag ep) (hH.off (i - k) _ c (by omega) (by simpa using aa))
     ·exact absurd (ey i c hi aa) (hH.off (j - k) _ c (by omega) (by simpa using ep))
     ·exact aO i j c hi ag aa ep
    ·rw [rN hk] at ag;by_cases h1:k<=j/\j<k+cs'.length
     ·rw [if_pos h1] at aa;exact hH.off (j - k) p.root dR (by omega) aa (c_ dR nY)
     ·rw [if_neg h1] at aa; exact iT j ag aa
    ·rw [rM hk] at hi;rw [List.getElem?_toArray,rM (by omega),<- hlen] at hu;by_cases vx:k<=i/\i<k+cs'.length
     ·rw [if_pos vx] at hi; exact absurd hi (ln rfl _ _)
     ·rw [if_neg vx] at hi hu; exact aw i j u hi (by simpa using hu)
    ·rcases aa with aa | ⟨j,ag,aa⟩
     ·exact .inl ((aH c).2 (.inl aa))
     ·rw [rN hk] at ag;by_cases h1:k<=j/\j<k+cs'.length
      ·rw [if_pos h1] at aa; exact .inr ⟨j - k,by omega,aa⟩
      ·rw [if_neg h1] at aa; exact .inl ((aH c).2 (.inr ⟨j,ag,aa⟩))
    ·obtain ⟨c,o7,aa⟩:=ab.u_ ao;simp only [ab.kids] at o7;have ez:j<cs.length:=(List.getElem?_eq_some_iff.1 o7).1;have hu:arr[j]?=some arr[j]:=Array.getElem?_eq_getElem (by omega);have nZ:child w (.pointer (some ⟨dR,0,none⟩)) j=some arr[j]:=by simp [child,World.cell?,kZ,hu]
     have Cg:child w' (.pointer (some ⟨dR,0,none⟩)) j=some arr[j]:=by
      have aD:(eX arr.toList k iL)[j]?=some arr[j]:=by
       rw [rM (by omega),if_neg (by omega)]; simp
      simp [child,World.cell?,Ek,aD]
     have:=R.p1 (w':=w') c' (hr j c _ o7 hu) aa λc aa=>pq c λe=>iT j ez (e ▸ aa);simp [walk,nZ,Cg,this]
 have val:∀ q y,bG g q=some y->(q.root=p.root->∀ j c',q.path=p.path++j::c'->j<k\/k+cs'.length<=j)->dx w' T q=dx w T q:=by
  intro q y a8 hK;by_cases hr:q.root=p.root
  ·have fD:dU.at q.path=some y:=by simpa [bG,hr,ix] using a8
   rcases abL q.path y fD with ⟨c',dG⟩ | h
   ·have vI:walk w' v0 q.path=walk w v0 q.path:=by
     rw [dG,El,El,abK,hw];simp only [Option.bind_some];cases c' with
     | nil=>rfl
     | cons j c' =>
      rw [dG,ab.HL,pG] at fD;exact (Py (λ_ _=>True) (λ_ _ _=>trivial)).2 j c' y (hK hr j c' dG) fD
    simp [dx,hr,ko,vI]
   ·simp [dx,hr,ko,h]
  ·unfold bG at a8;cases J:g q.root with
   | none=>rw [J] at a8; cases a8
   | some x =>
    rw [J] at a8;obtain ⟨u,hu,aY⟩:=bh.rel _ _ J;cases aY with
    | tree aY =>
     have:=R.p1 (w':=w') q.path aY a8 λc aa=>pq c λe=>Fy _ hr (e ▸ aa);simp [dx,hu,this]
    | bL aY=>simp [dx,hu,(ab.sV a8).1,walk]
 have slot:∀ {q:Place}{x:ab},q.path=[]->g q.root=some x->dx w' T q=dx w T q:=by
  intro q x a8 J;obtain ⟨u,hu,_⟩:=bh.rel _ _ J;simp [dx,a8,walk]
 have refs:∀ r u,L5 r u->dy w' T g2 r u:=by
  rintro r u ⟨h1,af,aD,bm⟩;refine ⟨?_,bm⟩;cases r <;> simp only [fh,gA] at h1 af ⊢
  case ptr q j=>obtain ⟨y,ao,_⟩:=af; rw [val q y ao (aD q rfl)]; exact h1
  case a6 bR q cr =>
   rcases af with ⟨_,_,af,_⟩ | ⟨aK,_,_,_,_,af,_⟩
   ·rw [val q _ af (aD q rfl)]; exact h1
   ·rw [slot aK af]; exact h1
  case sub bR q lo cr=>obtain ⟨_,_,af,_⟩:=af; rw [val q _ af (aD q rfl)]; exact h1
  case gj q=>obtain ⟨_,af⟩:=af; rw [val q _ af (aD q rfl)]; exact h1
  case bL bR q cr m' cL =>
   rcases af with ⟨_,af⟩ | ⟨aK,_,_,_,_,_,af,_⟩
   ·rw [val q _ af (aD q rfl)]; exact h1
   ·rw [slot aK af]; exact h1
 obtain ⟨⟨Fn,Wm,N0⟩,_⟩:=Py (dy w' T g2) refs;obtain ⟨cQ,B4,oD⟩:=kr w' I (dy w' T g2) _ Fn ⟨s0,λc aa aB=>pq c λe=>aB (e ▸ nY),λ_ h=>h,refs⟩ Wm (λc aa ep=>by
  rcases N0 c aa with h | ⟨j,ag,h⟩
  ·exact h
  ·exact absurd ep (hH.off j _ c ag h)) (λj h=>by rcases eA with rfl | rfl <;> simp [ab.eX] at h)
 have BW:∀ c,cQ c->Fs p.root c\/∃ j,j<cs'.length/\di j c:=by
  intro c aa;rcases (oD c).1 aa with h | h
  ·exact .inl h.1
  ·rcases N0 c h with h | h
   ·exact .inl (c_ c h)
   ·exact .inr h
 let bV:Nat->a':=λt c=>if t=p.root then cQ c else g2 t≠none/\Fs t c
 have pF:∀ t c,bV t c->Fs t c\/∃ j,j<cs'.length/\di j c:=by
  intro t c aa;by_cases ar:t=p.root
  ·simp only [bV,if_pos ar] at aa; rw [ar]; exact BW c aa
  ·simp only [bV,if_neg ar] at aa; exact .inl aa.2
 refine ⟨bV,⟨λt x J=>?_,λt ar c aa=>?_,λt t' c aa ep=>?_,λt c aa hi=>?_,λc aa=>by have:=bh.lt c aa; omega,λt t' z q n m new bR cr m' cL h1=>absurd h1 (ll _ _ _ _ _ _),cE.keep bh.hP s0 λ_ h=>h⟩,pF⟩
 ·have e8:=zE t x J;by_cases ar:t=p.root
  ·subst ar;have CS:dU.setAt p.path (nd.eX k cs')=x:=by simpa [cn,ix] using e8
   refine ⟨v0,ko,.tree ?_⟩;have w7:bV p.root=cQ:=by funext c; simp [bV]
   rw [<- CS,w7]; exact B4
  ·rw [wo ar] at e8;obtain ⟨u,hu,aY⟩:=bh.rel t x e8;replace aY:=aY.gp (by rintro z q n m new rfl; exact ll _ _ _ _ _ _ J);have w7:bV t=Fs t:=by
    funext c;exact propext ⟨λh=>by simp only [bV,if_neg ar] at h; exact h.2,λh=>by simp only [bV,if_neg ar]; exact ⟨by rw [J]; simp,h⟩⟩
   refine ⟨u,hu,.tree ?_⟩;rw [w7];exact (aY.wi (si t x J x e8)).frame s0 (λ_ h=>h) refs λc aa=>pq c λe=>Fy t ar (e ▸ aa)
 ·by_cases hM:t=p.root
  ·exact j3 (hM ▸ ar)
  ·simp only [bV,if_neg hM] at aa; exact aa.1 ar
 ·by_cases h1:t=p.root <;> by_cases af:t'=p.root
  ·rw [h1,af]
  ·simp only [bV,if_pos h1] at aa; simp only [bV,if_neg af] at ep;rcases BW c aa with h | ⟨j,ag,h⟩
   ·exact absurd (bh.d_ _ _ _ h ep.2) (Ne.symm af)
   ·exact absurd ep.2 (hH.off j _ c ag h)
  ·simp only [bV,if_neg h1] at aa; simp only [bV,if_pos af] at ep;rcases BW c ep with h | ⟨j,ag,h⟩
   ·exact absurd (bh.d_ _ _ _ aa.2 h) h1
   ·exact absurd aa.2 (hH.off j _ c ag h)
  ·simp only [bV,if_neg h1] at aa; simp only [bV,if_neg af] at ep;exact bh.d_ _ _ _ aa.2 ep.2
 ·rcases pF t c aa with h | ⟨j,ag,h⟩
  ·exact bh.bd _ c h hi
  ·exact hH.bd j c ag h hi
end
section
variable {P:Program}{w:World}{I:a'}{T:Array Value}{g:aL}{Fs:Nat->a'}
theorem View.Rf (h:jC w I T g Fs) {x x':ab}(hv:View g x x'):∀ {v:Value}{F:a'},R w I (fh w T) x v F->(∀ c,F c->∃ t,Fs t c)->∀ ρ',R w (λc=>I c\/∃ t,Fs t c) ρ' x' v cj:=by
 induction hv with
 | qE =>
  intro v F aY aH ρ';have:=aY.ru;subst this;exact .gG λ_ h=>h
 | mp =>
  intro v F aY aH ρ';cases aY with
  | ref J=>simp [ab.isRef] at J
  | mp aW aq au=>exact .imp (λ_ h=>h) (.inr (aH _ ((au _).2 rfl))) aW aq
 | gj aq =>
  intro v F aY aH ρ';cases aY with
  | ref _ hr _ =>
   obtain ⟨b,au,rfl⟩:=hr;obtain ⟨dH,cu,ih,ds,c_,_⟩:=h.part aq (by simp);rw [au] at ih;cases ih;cases ds with
   | ref J=>simp [ab.isRef] at J
   | mp aW aq au=>exact .imp (λ_ h=>h) (.inr ⟨_,c_ _ ((au _).2 rfl)⟩) aW aq
 | self aB h1 af aD bm b7 =>
  intro v F aY aH ρ';refine ((aY.bk aB).n9 λc aa=>.inl aa).empty ?_;cases aY with
  | mp=>exact absurd rfl (b7.1 _)
  | hS=>exact absurd rfl (b7.2 _ _)
  | lit _ aH | aQ aH | dead aH | mq aH | ref _ _ aH | gG aH | bd aH | cw aH | cD aH | imp aH=>exact aH
  | own=>exact absurd rfl (h1 _ _ _)
  | obj=>exact absurd rfl (af _)
  | agg=>exact absurd rfl (aD _)
  | bS=>exact absurd rfl (bm _)
 | @agg cs cs' ah _ aM =>
  intro v F aY aH ρ';cases aY with
  | ref J=>simp [ab.isRef] at J
  | @agg _ vs bH _ hL h1 hr aO ma =>
   refine .agg (Fs:=λ_=>cj) (by rw [ah,hL]) h1 (λk y u ao hu=>?_) (λ_ _ _ _ _ h=>h.elim) (λc=>⟨λh=>h.elim,λ⟨_,_,h⟩=>h⟩);have hk:k<cs.length:=by rw [<- ah]; exact (List.getElem?_eq_some_iff.1 ao).1
   have J:=List.getElem?_eq_getElem hk;exact aM k _ y J ao (hr k _ u J hu) (λc aa=>aH c ((ma c).2 ⟨k,hk,aa⟩)) ρ'
 | @cD fn cs cs' ah _ aM =>
  intro v F aY aH ρ';cases aY with
  | ref J=>simp [ab.isRef] at J
  | @cD _ _ _ v1 v2 _ mG h1 af iU hz =>
   refine .cD (λ_ h=>h) h1 (by rw [ah,af]) (λk x u J=>by simp at J) (λk y u ao hu=>?_);have hk:k<cs.length:=by rw [<- ah]; exact (List.getElem?_eq_some_iff.1 ao).1
   have J:=List.getElem?_eq_getElem hk;exact aM k _ y J ao (hz k _ u J hu) (λc aa=>aa.elim) ρ'
 | @own z n cs cs' ah _ aM =>
  intro v F aY aH ρ';obtain ⟨a,cap,us,bH,rfl,aB,hlen,aI,aa⟩:=aY.Aj;cases a with
  | none =>
   have eS:cs=[]:=by
    cases cs with
    | nil=>rfl
    | cons c cs=>obtain ⟨b,au,_⟩:=aa 0 c rfl; cases au
   subst eS;have lP:cs'=[]:=List.eq_nil_of_length_eq_zero (by simpa using ah);subst lP;have mf:n=0:=by
    cases aY with
    | ref J=>simp [ab.isRef] at J
    | own aW =>
     obtain ⟨_,bP⟩:=aW;rcases bP with ⟨bP,aK⟩ | ⟨b,c2,cur,bP,_⟩
     ·exact aK
     ·cases bP
   subst mf;exact .gG λ_ h=>h
  | some ad =>
   obtain ⟨b,rfl,r9⟩:=aI ad rfl;refine .bd (us:=us) (λ_ h=>h) aB (.inr (aH b r9)) rfl (by rw [ah,hlen]) (λk y ao=>?_) (λk y ao=>?_) λk y ao=>?_
   all_goals
    have hk:k<cs.length:=by rw [<- ah]; exact (List.getElem?_eq_some_iff.1 ao).1
    have J:=List.getElem?_eq_getElem hk;obtain ⟨dR,j2,h1,af,aD,bm⟩:=aa k _ J;cases j2
   ·exact af
   ·simpa using h1
   ·exact aM k _ y J ao aD (λc aa=>aH c (bm c aa)) ρ'
 | @obj cs cs' ah _ aM =>
  intro v F aY aH ρ';cases aY with
  | ref J=>simp [ab.isRef] at J
  | @obj _ b e arr bH _ aW hL h1 hr aO au ma =>
   refine .cw (us:=λk=>arr.getD k undef) (λ_ h=>h) (.inr (aH b ((ma b).2 (.inl rfl)))) rfl (λk y ao=>?_) (λk y ao=>?_) λk y ao=>?_
   all_goals
    have hk:k<cs.length:=by rw [<- ah]; exact (List.getElem?_eq_some_iff.1 ao).1
    have J:=List.getElem?_eq_getElem hk;have hu:arr[k]?=some arr[k]:=Array.getElem?_eq_getElem (hL ▸ hk)
   ·simpa [hu] using h1 k _ hu
   ·simp [World.cell?,aW,hu]
   ·simpa [hu] using aM k _ y J ao (hr k _ _ J hu) (λc aa=>aH c ((ma c).2 (.inr ⟨k,hk,aa⟩))) ρ'
 | @a6 z n N p cs cs' aq aB ah _ aM =>
  intro v F aY aH ρ';obtain ⟨a,kx,cap,h1,rfl,aD⟩:=aY.n2;obtain ⟨qN,qY,gD,hy,mH,_⟩:=h.part aq (by simp);rw [h1] at gD;cases gD;obtain ⟨a2,r3,us,bH,h9,lO,hlen,aI,aa⟩:=hy.Aj;cases h9;have hle:n * z<=N * z:=Nat.mul_le_mul_right _ aB;have cell:∀ k,k<cs'.length->∃ x b,(cs.take (n * z))[k]?=some x/\a=some ⟨b,0,none⟩/\w.cell? ⟨b,k,none⟩=some (us k)/\(us k).oneCell'=true/\R w I (fh w T) x (us k) (bH k)/\∀ c,bH k c->qY c:=by
   intro k hk;rw [ah,List.length_take] at hk;have J:cs[k]?=some cs[k]:=List.getElem?_eq_getElem (by omega);obtain ⟨b,r⟩:=aa k _ J;exact ⟨_,b,by rw [List.getElem?_take,if_pos (by omega)]; exact J,r⟩
  cases a with
  | none =>
   have lP:cs'=[]:=by
    cases cs' with
    | nil=>rfl
    | cons c l=>obtain ⟨_,b,_,au,_⟩:=cell 0 (by simp); cases au
   subst lP;obtain ⟨_,_,h9,_,_,_,sj⟩:=hy.oa;cases h9;have mf:n=0:=by
    rcases Nat.eq_zero_or_pos n with aK | aK
    ·exact aK
    ·have:=sj (by omega); simp at this
   subst mf;exact .gG λ_ h=>h
  | some ad =>
   obtain ⟨b,rfl,r9⟩:=aI ad rfl;refine .bd (us:=us) (λ_ h=>h) (by omega) (.inr ⟨_,mH b r9⟩) rfl (by rw [ah,List.length_take,hlen]; omega) (λk y ao=>?_) (λk y ao=>?_) λk y ao=>?_
   all_goals
    obtain ⟨x,dR,J,j2,bm,b7,dp,kC⟩:=cell k (List.getElem?_eq_some_iff.1 ao).1;cases j2
   ·exact b7
   ·simpa using bm
   ·exact aM k x y J ao dp (λc aa=>⟨_,mH c (kC c aa)⟩) ρ'
 | @sub z lo n N p cs cs' aq aB ah _ aM =>
  intro v F aY aH ρ';obtain ⟨a,kx,cap,b',nq,h1,rfl,JT,aD,b7⟩:=aY.zW;obtain ⟨qN,qY,gD,hy,mH,_⟩:=h.part aq (by simp);rw [h1] at gD;cases gD;obtain ⟨a2,r3,us,bH,h9,lO,hlen,aI,aa⟩:=hy.Aj;cases h9;have hle:lo * z+n * z<=N * z:=by rw [<- Nat.add_mul]; exact Nat.mul_le_mul_right _ aB
  have hL:cs'.length=n * z:=by rw [ah,List.length_take,List.length_drop,hlen]; omega
  have cell:∀ k,k<cs'.length->∃ x b,((cs.drop (lo * z)).take (n * z))[k]?=some x/\a=some ⟨b,0,none⟩/\w.cell? ⟨b,lo * z+k,none⟩=some (us (lo * z+k))/\(us (lo * z+k)).oneCell'=true/\R w I (fh w T) x (us (lo * z+k)) (bH (lo * z+k))/\∀ c,bH (lo * z+k) c->qY c:=by
   intro k hk;have J:cs[lo * z+k]?=some cs[lo * z+k]:=List.getElem?_eq_getElem (by omega);obtain ⟨b,r⟩:=aa _ _ J;exact ⟨_,b,by rw [List.getElem?_take,if_pos (by omega),List.getElem?_drop]; exact J,r⟩
  by_cases mf:n=0
  ·subst mf;have lP:cs'=[]:=List.eq_nil_of_length_eq_zero (by simpa using hL);subst lP;exact .gG λ_ h=>h
  ·obtain ⟨ad,rfl,rfl⟩:=b7 (by omega);obtain ⟨b,rfl,r9⟩:=aI ad rfl;refine .bd (us:=λk=>us (lo * z+k)) (λ_ h=>h) JT (.inr ⟨_,mH b r9⟩) rfl hL (λk y ao=>?_) (λk y ao=>?_) λk y ao=>?_
   all_goals
    obtain ⟨x,dR,J,j2,bm,IQ,dp,kC⟩:=cell k (List.getElem?_eq_some_iff.1 ao).1;cases j2
   ·exact IQ
   ·simpa using bm
   ·exact aM k x y J ao dp (λc aa=>⟨_,mH c (kC c aa)⟩) ρ'
 | @rows z n p cs cs' aq ah _ aM =>
  intro v F aY aH ρ';obtain ⟨a,kx,cap,h1,rfl,aD⟩:=aY.n2;obtain ⟨v0,e,us,ko,aW,hlen,jl,au,hr⟩:=Rows.sound (w:=w) (I:=I) (T:=T) (Fs:=Fs) (λt z q n m new ar=>h.rel t _ ar) (λp z n cs aq=>by obtain ⟨v,cu,h1,af,aD,_⟩:=h.part aq (by simp); exact ⟨v,cu,h1,af,aD⟩) (λz p n v hv=>by obtain ⟨a,cap,h1,rfl⟩:=hv; exact h1) aq;rw [h1] at ko;cases ko;refine QH aW hlen jl au ah λk x y u J ao hu=>?_;obtain ⟨bH,ki,ey⟩:=hr k x u J hu;exact aM k x y J ao ki ey ρ'
 | @ptr p k z n y cs cs' aq ao hk ah _ aM =>
  intro v F aY aH ρ';obtain ⟨u,ad,h1,af,rfl⟩:=aY.n3;obtain ⟨qN,qY,gD,hy,mH,_⟩:=h.part aq (by rcases ao with rfl | rfl <;> simp);rw [h1] at gD;cases gD;have cell:∀ j,j<cs'.length->∃ gq k' wD,w.cell? ⟨ad.block,k+j,none⟩=some gq/\gq.oneCell'=true/\(cs.drop k)[j]?=some k'/\R w I (fh w T) k' gq wD/\(∀ c,wD c->∃ t,Fs t c):=by
   intro j ag;rw [ah,List.length_drop] at ag;have e8:cs[k+j]?=some cs[k+j]:=List.getElem?_eq_getElem (by omega);obtain ⟨b,gq,fx,mJ,nZ,hh,_⟩:=hy.node ao e8;rw [af] at fx;cases fx;have fD:bG g (p.push (k+j))=some cs[k+j]:=by rw [tL,aq]; rcases ao with rfl | rfl <;> simp [ab.kids]
   by_cases gN:∃ bR fB cr m' cL,cs[k+j]=.bL bR fB cr m' cL
   ·obtain ⟨bR,fB,cr,m',cL,gN⟩:=gN;obtain ⟨b,abt,_,_,Cg,_,bH,ki⟩:=hy.node ao e8;rw [gN] at ki;exact ki.lv.elim
   ·obtain ⟨po,Hn,sl,I1,ma,_⟩:=h.part fD (λbR fB cr m' cL e=>gN ⟨_,_,_,_,_,e⟩);rw [yB,h1] at sl;simp only [Option.bind_some] at sl;rw [nZ] at sl;cases sl;exact ⟨gq,_,Hn,mJ,hh,by rw [List.getElem?_drop]; exact e8,I1,λc aa=>⟨_,ma c aa⟩⟩
  obtain ⟨b,gq,fx,_⟩:=hy.node ao (List.getElem?_eq_getElem hk);rw [af] at fx;cases fx;have hblk:∃ t,Fs t b:=⟨_,mH b (hy.Gb ao af)⟩;refine .cw (us:=λj=>(w.cell? ⟨b,k+j,none⟩).getD undef) (λ_ h=>h) (.inr hblk) rfl (λj iM ta=>?_) (λj iM ta=>?_) λj iM ta=>?_
  all_goals
   obtain ⟨gq,k',wD,c1,c2,kz,c4,jD⟩:=cell j (List.getElem?_eq_some_iff.1 ta).1
  ·simpa [c1] using c2
  ·simp [c1]
  ·simpa [c1] using aM j k' iM kz ta c4 jD ρ'
end
def qI (g:aL):List (Place × ab)->aL
 | []=>g
 | (p,x)::l=>qI (cn g p x) l
structure Si (g g2:aL) (all:List ab) (outs:List (Option ab)) (k:Nat) (p:Place) (x:ab):Prop where
 out:outs[k]?=some (some x)
 MI:bG g2 p=some .dead
 arg:(∃ z n cs,all[k]?=some (.a6 z p n)/\bG g p=some (.own z n cs))\/(∃ cs,all[k]?=some (.ptr p 0)/\bG g p=some (.obj cs))
 js:∀ i,x≠.self i
section
variable {P:Program}{w:World}{I:a'}{T:Array Value}{g:aL}{Fs:Nat->a'}
theorem S4 (h:cA w I T g Fs) {z n:Nat}{p:Place}{cs:List ab}{v:Value}{F:a'}(aY:R w I (dy w T g) (.a6 z p n) v F) (aq:bG g p=some (.own z n cs)):dx w T p=some v:=by
 obtain ⟨⟨a,kx,cap,h1,rfl,aD⟩,_⟩:=aY.n2;obtain ⟨qN,qY,gD,hy,mH⟩:=h.part aq (by simp);rw [h1] at gD;cases gD;obtain ⟨a2,r3,h9,_⟩:=hy.oa;cases h9;exact h1
theorem S3 (h:cA w I T g Fs) {p:Place}{cs:List ab}{v:Value}{F:a'}(aY:R w I (dy w T g) (.ptr p 0) v F) (aq:bG g p=some (.obj cs)):dx w T p=some v:=by
 obtain ⟨⟨u,ad,h1,af,rfl⟩,_⟩:=aY.n3;obtain ⟨qN,qY,gD,hy,mH⟩:=h.part aq (by simp);rw [h1] at gD;cases gD;cases hy with
 | ref J=>simp [ab.isRef] at J
 | obj=>simp only [addrOf,Option.some.injEq] at af; subst af; exact h1
theorem aaE {g:aL}{p q:Place}{y:ab}(a8:bG g q=some .dead) (aq:bG g p=some .dead) (cO:p≠q):bG (cn g p y) q=some .dead:=by
 by_cases hr:q.root=p.root
 ·obtain ⟨r,pp⟩:=p;obtain ⟨c',tn⟩:=q;simp only at hr;subst hr;have Fz:pp≠tn:=λe=>cO (by rw [e]);simp only [bG,cn,if_true] at *;cases J:g c' with
  | none=>rw [J] at aq; cases aq
  | some x =>
   rw [J] at aq a8;simp only [Option.map_some];have:∀ (pp tn:List Nat) (x:ab),pp≠tn->x.at pp=some .dead->x.at tn=some .dead->(x.setAt pp y).at tn=some .dead:=by
    intro pp
    induction pp with
    | nil =>
     intro tn x cO h1 af;simp only [ab.at,Option.some.injEq] at h1;subst h1;cases tn with
     | nil=>exact absurd rfl cO
     | cons k q=>simp [ab.at,ab.kids] at af
    | cons k pp aM =>
     intro tn x cO h1 af;cases tn with
     | nil =>
      simp only [ab.at,Option.some.injEq] at af;subst af;simp [ab.at,ab.kids] at h1
     | cons j q =>
      simp only [ab.at] at h1 af;cases hk:x.kids[k]? with
      | none=>rw [hk] at h1; cases h1
      | some c =>
       rw [hk] at h1;simp only at h1;have zR:x.setAt (k::pp) y=x.sG k (c.setAt pp y):=by simp only [ab.setAt,hk]
       rw [zR];have dq:k<x.kids.length:=(List.getElem?_eq_some_iff.1 hk).1;have JH:(x.sG k (c.setAt pp y)).kids=x.kids.set k (c.setAt pp y):=by
        cases x <;> simp [ab.sG,ab.kids] at dq ⊢
       simp only [ab.at,JH];by_cases gC:j=k
       ·subst gC;rw [List.getElem?_set_self dq];rw [hk] at af;exact aM q c (λe=>cO (by rw [e])) h1 af
       ·rw [List.getElem?_set_ne (Ne.symm gC)];exact af
   exact this pp tn x Fz aq a8
 ·rw [GQ hr]; exact a8
theorem jC.qI:∀ (l:List (Place × ab)) (di:Nat->a') (vs:Nat->Value) {g:aL}{Fs:Nat->a'},jC w I T g Fs->(l.map (·.1)).Nodup->(∀ (j:Nat) (p:Place) (x:ab),l[j]?=some (p,x)->bG g p=some .dead/\dx w T p=some (vs j)/\R w I (fh w T) x (vs j) (di j)/\∀ i,x≠.self i) ->
  (∀ (j t c:Nat),j<l.length->di j c->¬ Fs t c)->(∀ (j c:Nat),j<l.length->di j c->¬ I c)->(∀ (i j c:Nat),i<l.length->j<l.length->di i c->di j c->i=j) ->
  ∃ bV,jC w I T (qI g l) bV/\∀ t c,bV t c->Fs t c\/∃ j,j<l.length/\di j c
 | [],_,_,g,Fs,bh,_,_,_,_,_=>⟨Fs,bh,λ_ _ h=>.inl h⟩
 | (p,x)::l,di,vs,g,Fs,bh,eA,ah,o8,xl,nw=>by
  obtain ⟨h1,af,aD,bm⟩:=ah 0 p x rfl;obtain ⟨v,cu,hv,ds,c_,put⟩:=bh.part h1 (by simp);rw [af] at hv;cases hv;obtain ⟨fo,iS,w6,BX⟩:=put x (di 0) aD (λc aa aT=>absurd aT (o8 0 _ c (by simp) aa)) (λc aa=>xl 0 c (by simp) aa) (λt c _ aa=>o8 0 t c (by simp) aa) (λi e=>absurd e (bm i));have hA:∀ t c,fo t c->Fs t c\/di 0 c:=by
   intro t c aa;by_cases ar:t=p.root
   ·subst ar;rcases (w6 c).1 aa with ⟨h,_⟩ | h
    ·exact .inl h
    ·exact .inr h
   ·rw [BX t ar] at aa; exact .inl aa
  simp only [List.map_cons,List.nodup_cons] at eA;obtain ⟨jc,h7,Fi⟩:=jC.qI l (λj=>di (j+1)) (λj=>vs (j+1)) iS eA.2 (λj q y ag=>by
    obtain ⟨av,a2,a3⟩:=ah (j+1) q y (by simpa using ag);refine ⟨aaE av h1 ?_,a2,a3⟩;rintro rfl;exact eA.1 (List.mem_map.2 ⟨(p,y),List.mem_of_getElem? ag,rfl⟩))
   (λj t c ag aa aT=>by
    rcases hA t c aT with h | h
    ·exact o8 (j+1) t c (by simpa using ag) aa h
    ·have:=nw (j+1) 0 c (by simpa using ag) (by simp) aa h; omega)
   (λj c ag aa=>xl (j+1) c (by simpa using ag) aa)
   (λi j c hi ag h1 af=>by have:=nw (i+1) (j+1) c (by simpa using hi) (by simpa using ag) h1 af; omega)
  refine ⟨jc,h7,λt c aa=>?_⟩;rcases Fi t c aa with h | ⟨j,ag,h⟩
  ·rcases hA t c h with h | h
   ·exact .inl h
   ·exact .inr ⟨0,by simp,h⟩
  ·exact .inr ⟨j+1,by simpa using ag,h⟩
end
inductive gQ:ab->ab->Prop
 | refl {x:ab}:gQ x x
 | Dc {z:Nat}:gQ .aQ (.own z 0 [])
 | o_ {x y:ab}(aB:cC x) (h:View (λ_=>none) x y):gQ x y
 | own {z n:Nat}{cs cs':List ab}(ah:cs'.length=cs.length) (h:∀ (k:Nat) (x y:ab),cs[k]?=some x->cs'[k]?=some y->gQ x y):gQ (.own z n cs) (.own z n cs')
 | obj {cs cs':List ab}(ah:cs'.length=cs.length) (h:∀ (k:Nat) (x y:ab),cs[k]?=some x->cs'[k]?=some y->gQ x y):gQ (.obj cs) (.obj cs')
 | agg {cs cs':List ab}(ah:cs'.length=cs.length) (h:∀ (k:Nat) (x y:ab),cs[k]?=some x->cs'[k]?=some y->gQ x y):gQ (.agg cs) (.agg cs')
theorem View.up {g g':aL}(h:∀ t x,g t=some x->g' t=some x) {x y:ab}(hv:View g x y):View g' x y:=by
 induction hv with
 | qE=>exact .qE
 | self h1 af aD bm b7 dp=>exact .self h1 af aD bm b7 dp
 | mp=>exact .mp
 | gj aq=>exact .gj (kV h aq)
 | agg ah _ aM=>exact .agg ah aM
 | own ah _ aM=>exact .own ah aM
 | obj ah _ aM=>exact .obj ah aM
 | cD ah _ aM=>exact .cD ah aM
 | a6 aq aB ah _ aM=>exact .a6 (kV h aq) aB ah aM
 | sub aq aB ah _ aM=>exact .sub (kV h aq) aB ah aM
 | ptr aq ao hk ah _ aM=>exact .ptr (kV h aq) ao hk ah aM
 | rows aq ah _ aM=>exact .rows (aq.mono (λaq=>kV h aq) h) ah aM
theorem View.js {g:aL}{x y:ab}{j:Nat × Nat}(h:View g x y) (e:y=.self j):x=.self j:=by
 cases h <;> first | exact e | cases e
theorem gQ.js {x y:ab}{j:Nat × Nat}(h:gQ x y) (e:y=.self j):x=.self j:=by
 cases h <;> first | exact e | exact View.js ‹_› e | cases e
theorem Gc {F:ab->ab->Prop}{cs cs':List ab}(ah:cs'.length=cs.length) (h:∀ (k:Nat) (x y:ab),cs[k]?=some x->cs'[k]?=some y->F x y) (aH:∀ x y j,F x y->y=.self j->x=.self j) (k:Nat) (j:Nat × Nat) (hk:cs'[k]?=some (.self j)):cs[k]?=some (.self j):=by
 have aN:k<cs.length:=ah ▸ (List.getElem?_eq_some_iff.1 hk).1;rw [List.getElem?_eq_getElem aN];exact congrArg some (aH _ _ j (h k _ _ (List.getElem?_eq_getElem aN) hk) rfl)
theorem xX {cs cs':List ab}(ah:cs'.length=cs.length) (aB:∀ x∈cs,cC x) (aM:∀ (k:Nat) (x y:ab),cs[k]?=some x->cs'[k]?=some y->cC x->cC y):∀ y∈cs',cC y:=by
 intro y ao;obtain ⟨k,hk⟩:=List.getElem?_of_mem ao;have dq:=(List.getElem?_eq_some_iff.1 hk).1;have J:=List.getElem?_eq_getElem (ah ▸ dq:k<cs.length)
 grind
section
variable {w:World}{I:a'}
theorem R.o_ {ρ:ab->Value->Prop}{x y:ab}{v:Value}{F:a'}(aY:R w I ρ x v F) (aB:cC x) (h:View (λ_=>none) x y) (bf:∀ c,F c->¬ I c) (aN:∀ c,I c->c<w.heap.size) (jq:cE.q w I):R w (λc=>I c\/F c) ρ y v cj:=by
 have bh:jC w I #[v] (λt=>if t=0 then some x else none) (λt c=>t=0/\F c):=by
  refine ⟨λt z aX=>?_,λt ar c aa=>?_,λt t' c aa ep=>aa.1.trans ep.1.symm,λt c aa=>bf c aa.2,aN,jq⟩
  ·by_cases aK:t=0
   ·subst aK;rw [if_pos rfl] at aX;cases aX;exact ⟨v,rfl,.tree ((aY.bk aB).zr λc=>⟨λh=>⟨rfl,h⟩,λh=>h.2⟩)⟩
   ·rw [if_neg aK] at aX; cases aX
  ·rw [if_pos aa.1] at ar; cases ar
 have:=View.Rf bh (h.up λ_ _ h=>by cases h) (aY.bk aB) (λc aa=>⟨0,rfl,aa⟩) ρ;exact this.n9 λc aa=>by
  rcases aa with h | ⟨t,_,h⟩
  ·exact .inl h
  ·exact .inr h
theorem gQ.bk {x y:ab}(h:gQ x y):cC x->cC y:=by
 induction h with
 | refl=>exact id
 | Dc=>exact λ_=>.own (by simp)
 | o_ aB h =>
  intro _;have key:∀ {x y:ab},View (λ_=>none) x y->cC x->cC y:=by
   intro x y h
   induction h with
   | qE=>exact λ_=>.bd (by simp)
   | self h=>exact λ_=>h
   | mp=>exact λ_=>.imp
   | gj aq=>simp [bG] at aq
   | agg ah _ aM=>intro aB; cases aB with | agg aB=>exact .agg (xX ah aB aM)
   | own ah _ aM=>intro aB; cases aB with | own aB=>exact .bd (xX ah aB aM)
   | obj ah _ aM=>intro aB; cases aB with | obj aB=>exact .cw (xX ah aB aM)
   | cD ah _ aM=>intro aB; cases aB with | cD h1 af=>exact .cD h1 (xX ah af aM)
   | a6 aq=>simp [bG] at aq
   | sub aq=>simp [bG] at aq
   | ptr aq=>simp [bG] at aq
   | rows aq =>
    cases aq with
    | own aq=>simp [bG] at aq
    | bL ar=>cases ar
  grind
 | own ah _ aM=>intro aB; cases aB with | own aB=>exact .own (xX ah aB aM)
 | obj ah _ aM=>intro aB; cases aB with | obj aB=>exact .obj (xX ah aB aM)
 | agg ah _ aM=>intro aB; cases aB with | agg aB=>exact .agg (xX ah aB aM)
theorem IH {ρ:ab->Value->Prop}{cs cs':List ab}{get:Nat->Option Value}{Fs:Nat->a'}{F B:a'}(ah:cs'.length=cs.length)
  (aP:∀ k,k<cs.length->∃ u,get k=some u)
  (aO:∀ (j k c:Nat),j<cs.length->k<cs.length->Fs j c->Fs k c->j=k) (au:∀ k c,k<cs.length->Fs k c->¬ B c) (aH:∀ c,F c↔B c\/∃ k,k<cs.length/\Fs k c)
  (aM:∀ (k:Nat) (x y:ab),cs[k]?=some x->cs'[k]?=some y->∀ u,get k=some u->∃ cQ,(∀ c,cQ c->Fs k c)/\R w (λc=>I c\/(Fs k c/\¬ cQ c)) ρ y u cQ) :
  ∃ qZ:Nat->a',(∀ k c,k<cs'.length->qZ k c->Fs k c)/\(∀ (k:Nat) (y:ab) (u:Value),cs'[k]?=some y->get k=some u->R w (λc=>I c\/(F c/\¬ (B c\/∃ j,j<cs'.length/\qZ j c))) ρ y u (qZ k)):=by
 have:∀ k,∃ G:a',k<cs.length->(∀ c,G c->Fs k c)/\∀ (y:ab) (u:Value),cs'[k]?=some y->get k=some u->R w (λc=>I c\/(Fs k c/\¬ G c)) ρ y u G:=by
  intro k;by_cases hk:k<cs.length
  ·have J:=List.getElem?_eq_getElem hk;have ao:=List.getElem?_eq_getElem (ah ▸ hk:k<cs'.length);obtain ⟨u,hu⟩:=aP k hk
   simp_all
  ·exact ⟨cj,λh=>absurd h hk⟩
 obtain ⟨qZ,N1⟩:=Classical.axiomOfChoice this;refine ⟨qZ,λk c hk=>(N1 k (ah ▸ hk)).1 c,λk y u ao hu=>?_⟩;have hk:k<cs'.length:=(List.getElem?_eq_some_iff.1 ao).1;have ig:k<cs.length:=ah ▸ hk;refine ((N1 k ig).2 y u ao hu).n9 λc aa=>?_
 grind
theorem R.dL {ρ:ab->Value->Prop}{x y:ab}(h:gQ x y):∀ {v:Value}{F:a'},R w I ρ x v F->cC x->(∀ c,F c->¬ I c)->(∀ c,I c->c<w.heap.size)->cE.q w I->∃ cQ,(∀ c,cQ c->F c)/\R w (λc=>I c\/(F c/\¬ cQ c)) ρ y v cQ:=by
 induction h with
 | refl=>exact λaY _ _ _ _=>⟨_,λ_ h=>h,aY.n9 λ_ h=>.inl h⟩
 | Dc =>
  intro v F aY _ _ _ _;have:=aY.ru;subst this;refine ⟨cj,λ_ h=>h.elim,.own (e:=0) (us:=[]) (Fs:=λ_=>cj) ⟨by simp,.inl ⟨rfl,rfl⟩⟩ rfl (by simp) (by simp) (λ_ _ _ _ _ h=>h.elim) (λ_ _ _ h=>h.elim) λc=>⟨λh=>h.elim,λh=>?_⟩⟩;rcases h with h | ⟨_,_,h⟩
  ·cases h
  ·exact h
 | o_ aB h=>exact λaY _ bf aN jq=>⟨cj,λ_ h=>h.elim,(aY.o_ aB h bf aN jq).n9 λc aa=>aa.elim .inl λh=>.inr ⟨h,λh=>h⟩⟩
 | @own z n cs cs' ah _ aM =>
  intro v F aY aB bf aN jq;cases aY with
  | ref J=>simp [ab.isRef] at J
  | @own _ _ _ _ e us Fs _ aW hL h1 hr aO au aH =>
   cases aB with
   | own aB =>
    obtain ⟨qZ,qk,BY⟩:=IH (get:=λk=>us[k]?) (B:=λc=>v.ownBlock=some c) ah (λk hk=>⟨_,List.getElem?_eq_getElem (hL ▸ hk)⟩) aO (λk c hk aa e=>au k c hk aa e) aH (λk x y J ao u hu=>aM k x y J ao (hr k x u J hu) (aB x (List.mem_of_getElem? J)) (λc aa=>bf c ((aH c).2 (.inr ⟨k,(List.getElem?_eq_some_iff.1 J).1,aa⟩))) aN jq);exact ⟨_,λc aa=>(aH c).2 (aa.imp id λ⟨k,hk,h⟩=>⟨k,ah ▸ hk,qk k c hk h⟩),
     .own aW (by rw [ah,hL]) h1 (λk y u ao hu=>BY k y u ao hu) (λj k c ag hk af aD=>aO j k c (ah ▸ ag) (ah ▸ hk) (qk j c ag af) (qk k c hk aD)) (λk c hk aa=>au k c (ah ▸ hk) (qk k c hk aa)) (λc=>Iff.rfl)⟩
 | @obj cs cs' ah o6 aM =>
  intro v F aY aB bf aN jq;cases aY with
  | ref J=>simp [ab.isRef] at J
  | @obj _ b e arr Fs _ aW hL h1 hr aO au aH aw =>
   cases aB with
   | obj aB =>
    obtain ⟨qZ,qk,BY⟩:=IH (get:=λk=>arr[k]?) (B:=λc=>c=b) ah (λk hk=>⟨_,Array.getElem?_eq_getElem (hL ▸ hk)⟩) aO (λk c hk aa e=>au k hk (e ▸ aa)) aH (λk x y J ao u hu=>aM k x y J ao (hr k x u J hu) (aB x (List.mem_of_getElem? J)) (λc aa=>bf c ((aH c).2 (.inr ⟨k,(List.getElem?_eq_some_iff.1 J).1,aa⟩))) aN jq);exact ⟨_,λc aa=>(aH c).2 (aa.imp id λ⟨k,hk,h⟩=>⟨k,ah ▸ hk,qk k c hk h⟩),
     .obj aW (by rw [ah,hL]) h1 (λk y u ao hu=>BY k y u ao hu) (λj k c ag hk af aD=>aO j k c (ah ▸ ag) (ah ▸ hk) (qk j c ag af) (qk k c hk aD)) (λk hk aa=>au k (ah ▸ hk) (qk k b hk aa)) (λc=>Iff.rfl) (λk j u hk=>aw k j u (Gc ah o6 (λ_ _ _=>gQ.js) k j hk))⟩
 | @agg cs cs' ah _ aM =>
  intro v F aY aB bf aN jq;cases aY with
  | ref J=>simp [ab.isRef] at J
  | @agg _ vs Fs _ hL h1 hr aO aH =>
   cases aB with
   | agg aB =>
    obtain ⟨qZ,qk,BY⟩:=IH (get:=λk=>vs[k]?) (B:=λ_=>False) ah (λk hk=>⟨_,Array.getElem?_eq_getElem (hL ▸ hk)⟩) aO (λk c hk aa e=>e) (λc=>(aH c).trans ⟨.inr,λh=>h.elim (λh=>h.elim) id⟩) (λk x y J ao u hu=>aM k x y J ao (hr k x u J hu) (aB x (List.mem_of_getElem? J)) (λc aa=>bf c ((aH c).2 ⟨k,(List.getElem?_eq_some_iff.1 J).1,aa⟩)) aN jq);refine ⟨λc=>∃ k,k<cs'.length/\qZ k c,λc ⟨k,hk,h⟩=>(aH c).2 ⟨k,ah ▸ hk,qk k c hk h⟩,
     .agg (Fs:=qZ) (by rw [ah,hL]) h1 (λk y u ao hu=>(BY k y u ao hu).n9 λc aa=>aa.imp id λ⟨h1,af⟩=>⟨h1,λh=>af (.inr h)⟩) (λj k c ag hk af aD=>aO j k c (ah ▸ ag) (ah ▸ hk) (qk j c ag af) (qk k c hk aD)) (λc=>Iff.rfl)⟩
end
end Go.Own
