/- Parts of the proof that the last text states. -/
import Derived.Test.YtaddiiogopnkpaaGreatE1
set_option linter.unusedSectionVars false
namespace Go.Own
open Go
variable [cF]
section
variable {w w':World}{I:a'}{T:Array Value}{g:aM}{Fs:Nat->a'}
theorem cB.LK (h:cB w I T g Fs) {t:Nat}{x:ab}(J:g t=some x):∃ v,T[t]?=some v/\dy w T ⟨t,[]⟩=some v/\jF w I (dz w T g) x v (Fs t):=by
 obtain ⟨v,hv,aY⟩:=h.rel t x J;exact ⟨v,hv,by simp [dy,hv,walk],aY⟩
theorem cB.app (h:cB w I T g Fs) {z n m:Nat}{p:Place}{bv dK:Value}{e b3:TypeId}{us news:List Value}(ju:dz w T g (.bI z p n 0 []) bv)
  (eN:∀ t bQ cm m' cO,g t≠some (.bI bQ p cm m' cO)) (A:A' w w' bv dK e b3 z n m us news):cB w' I T g Fs/\∀ r v,dz w T g r v->dz w' T g r v:=by
 cases i_:bv.ownBlock with
 | none =>
  have same:∀ c,c<w.heap.size->w'.heap[c]?=w.heap[c]?:=λc aa=>A.dM.block c aa (by rw [i_]; simp);exact ⟨h.world (λt c aa=>same c (h.jc t c aa)) (λc aa=>same c (h.lt c aa)) A.dM.size,λr v hr=>h.GM (λ_ _=>rfl) (λt c aa=>same c (h.jc t c aa)) (λ_ _ h=>h) hr⟩
 | some b =>
  have s:ES w w' b (n * z):=by
   refine ⟨λc aa cS=>A.dM.block c aa (by rw [i_]; simpa using Ne.symm cS),?_⟩;obtain ⟨arr,jl,h1,af,aE,bm⟩:=A.sp b i_;exact ⟨arr,jl,e,h1,af,aE,bm⟩
  obtain ⟨t0,s'⟩:=h.E6 ju b i_;have bc:∀ c,I c->c<w.heap.size/\c≠b:=λc aa=>⟨h.lt c aa,λe=>h.bl t0 b s' (e ▸ aa)⟩;obtain ⟨⟨wS,wT,Jw,rfl⟩,c6⟩:=ju
  -- the home of the block
  have home:∃ N:Place->Prop,(∀ q bQ cm cs' na,bE g q=some (.own bQ cm cs')->dy w T q=some na->na.ownBlock=some b->N q) /\
    (∀ q,N q->∀ t bQ cm m' cO,g t=some (.bI bQ q cm m' cO)->t=p.root/\p.path=[]) /\
    (∀ t bQ fG cm m' cO,Fs t b->g t=some (.bI bQ fG cm m' cO)->t=p.root/\p.path=[]) /\
    (∀ bQ fG cm m' cO,p.path=[]->g p.root=some (.bI bQ fG cm m' cO)->bQ=z/\n=cm+m') /\
    (∀ t x v,Fs t b->g t=some x->T[t]?=some v->R w I (dz w T g) x v (Fs t)->∃ q bQ cm cs' h4,x.at q=some (.own bQ cm cs')/\walk w v q=some h4/\h4.ownBlock=some b/\cm * bQ<=n * z):=by
   rcases c6 with ⟨cs,aq⟩ | ⟨fO,mq,nE,m1,aeR,cs,aq,aC,CE⟩
   ·-- the base is a row of a tree
    obtain ⟨qO,qW,gI,hJ,mN⟩:=h.part aq (by simp);rw [Jw] at gI;cases gI;have j9:t0=p.root:=h.ec _ _ _ s' (mN b (hJ.rB b i_));obtain ⟨dU,ix⟩:∃ dU,g p.root=some dU:=by
     unfold bE at aq;cases J:g p.root with
     | none=>rw [J] at aq; cases aq
     | some x=>exact ⟨x,rfl⟩
    have pI:dU.at p.path=some (.own z n cs):=by simpa [bE,ix] using aq
    have lD:∀ bQ fG cm m' cO,g p.root≠some (.bI bQ fG cm m' cO):=by
     intro bQ fG cm m' cO bO;rw [ix] at bO;cases bO;have:=(ab.sX pI).2;simp at this
    obtain ⟨v0,ky,gu⟩:=h.rel _ _ ix;have B7:=gu.gw (λbQ fG cm m' cO e=>lD bQ fG cm m' cO (by rw [ix,e]));have CR:walk w v0 p.path=some (.slice wS n wT):=by simpa [dy,ky] using Jw
    refine ⟨λq=>q=p,?_,?_,?_,?_,?_⟩
    ·intro q bQ cm cs' na a_ tc xl;obtain ⟨RC,HI,vL,Ji,Ja⟩:=h.part a_ (by simp);rw [tc] at vL;cases vL;have hr:q.root=p.root:=(h.ec _ _ _ (Ja b (Ji.rB b xl)) s').trans j9;have Cf:dU.at q.path=some (.own bQ cm cs'):=by simpa [bE,hr,ix] using a_
     have Kn:walk w v0 q.path=some na:=by simpa [dy,hr,ky] using tc
     have:=R.K9 q.path p.path B7 Cf pI Kn CR xl i_;cases q; cases p; simp_all
    ·rintro q rfl t bQ cm m' cO bO; exact absurd bO (eN t bQ cm m' cO)
    ·intro t bQ fG cm m' cO jv bO;have:t=p.root:=(h.ec _ _ _ jv s').trans j9;rw [this] at bO;exact absurd bO (lD _ _ _ _ _)
    ·intro bQ fG cm m' cO _ bO; exact absurd bO (lD _ _ _ _ _)
    ·intro t x v jv J hv aY;have:t=p.root:=(h.ec _ _ _ jv s').trans j9;subst this;rw [ix] at J; cases J;rw [ky] at hv; cases hv;exact ⟨_,_,_,_,_,pI,CR,i_,Nat.le_refl _⟩
   ·-- the base is behind an append itself
    obtain ⟨v0,ky,CP,gu⟩:=h.LK aq;have XV:v0=.slice wS n wT:=by
     have:(⟨p.root,[]⟩:Place)=p:=by cases p; simp_all
     rw [this,Jw] at CP;exact (Option.some.inj CP).symm
    subst XV;obtain ⟨Tp,b9,adR,abf,aeT,gu⟩:=gu.vS;by_cases kO:Tp.ownBlock=some b
    ·obtain ⟨⟨aw,Nb,O8,rfl⟩,_⟩:=gu.ju;obtain ⟨na,HI,tc,Ji,Ja⟩:=h.part CE (by simp);rw [O8] at tc;cases tc;have j9:t0=mq.root:=h.ec _ _ _ s' (Ja b (Ji.rB b kO));obtain ⟨dU,ix⟩:∃ dU,g mq.root=some dU:=by
      unfold bE at CE;cases J:g mq.root with
      | none=>rw [J] at CE; cases CE
      | some x=>exact ⟨x,rfl⟩
     have pI:dU.at mq.path=some (.own z nE cs):=by simpa [bE,ix] using CE
     have lD:∀ bQ fG cm m' cO,g mq.root≠some (.bI bQ fG cm m' cO):=by
      intro bQ fG cm m' cO bO;rw [ix] at bO;cases bO;have:=(ab.sX pI).2;simp at this
     obtain ⟨v1,qA,qs⟩:=h.rel _ _ ix;have V':=qs.gw (λbQ fG cm m' cO e=>lD bQ fG cm m' cO (by rw [ix,e]));have CR:walk w v1 mq.path=some (.slice aw nE Nb):=by simpa [dy,qA] using O8
     refine ⟨λq=>q=mq,?_,?_,?_,?_,?_⟩
     ·intro q bQ cm cs' na a_ tc xl;obtain ⟨RC,Sd,vL,Jj,Jb⟩:=h.part a_ (by simp);rw [tc] at vL;cases vL;have hr:q.root=mq.root:=(h.ec _ _ _ (Jb b (Jj.rB b xl)) s').trans j9;have Cf:dU.at q.path=some (.own bQ cm cs'):=by simpa [bE,hr,ix] using a_
      have Kn:walk w v1 q.path=some na:=by simpa [dy,hr,qA] using tc
      have:=R.K9 q.path mq.path V' Cf pI Kn CR xl kO;cases q; cases mq; simp_all
     ·rintro q rfl t bQ cm m' cO bO; exact ⟨h.rF _ _ _ _ _ _ _ _ _ _ _ bO aq,fO⟩
     ·intro t bQ fG cm m' cO jv bO;have:t=mq.root:=(h.ec _ _ _ jv s').trans j9;rw [this] at bO;exact absurd bO (lD _ _ _ _ _)
     ·intro bQ fG cm m' cO _ bO;rw [aq] at bO; cases bO; exact ⟨rfl,aC⟩
     ·intro t x v jv J hv aY;have:t=mq.root:=(h.ec _ _ _ jv s').trans j9;subst this;rw [ix] at J; cases J;rw [qA] at hv; cases hv;exact ⟨_,_,_,_,_,pI,CR,kO,Nat.mul_le_mul_right _ (by omega)⟩
    ·have mM:Fs p.root b:=(gu.aH b).2 ⟨i_,kO⟩;have j9:t0=p.root:=h.ec _ _ _ s' mM;refine ⟨λ_=>False,?_,λ_ h=>h.elim,?_,?_,?_⟩
     ·intro q bQ cm cs' na a_ tc xl;obtain ⟨RC,Sd,vL,Jj,Jb⟩:=h.part a_ (by simp);rw [tc] at vL;cases vL;have hr:q.root=p.root:=h.ec _ _ _ (Jb b (Jj.rB b xl)) mM;unfold bE at a_;rw [hr,aq] at a_;have:=(ab.sX a_).2;simp at this
     ·intro t bQ fG cm m' cO jv _; exact ⟨h.ec _ _ _ jv mM,fO⟩
     ·intro bQ fG cm m' cO _ bO;rw [aq] at bO; cases bO; exact ⟨rfl,aC⟩
     ·intro t x v jv J hv aY;have:t=p.root:=h.ec _ _ _ jv mM;subst this;rw [aq] at J; cases J;exact aY.lD.elim
  obtain ⟨N,N9,N_,N',V6,V7⟩:=home
  -- rows of pends
  have pends:∀ t bQ fG cm m' cO v zp b5 tT iR Ge,g t=some (.bI bQ fG cm m' cO)->T[t]?=some v->HN w I (dz w T g) bQ fG cm m' cO v (Fs t) zp b5 tT iR Ge ->
    (v.ownBlock=some b->(cm+m') * bQ<=n * z)/\(zp.ownBlock=some b->cm * bQ<=n * z):=by
   intro t bQ fG cm m' cO v zp b5 tT iR Ge aN hv aY;by_cases au:t=p.root/\p.path=[]
   ·obtain ⟨rfl,fO⟩:=au;obtain ⟨rfl,rfl⟩:=V6 _ _ _ _ _ fO aN;exact ⟨λ_=>Nat.le_refl _,λ_=>Nat.mul_le_mul_right _ (by omega)⟩
   ·have vu:zp.ownBlock≠some b:=by
     intro j7;obtain ⟨⟨a2,r2,O9,rfl⟩,Xw⟩:=aY.ju;rcases Xw with ⟨cs2,af⟩ | ⟨aK,QA,PT,m3,aeS,adN,af,aE,bm⟩
     ·exact au (N_ fG (N9 fG _ _ _ _ af O9 j7) t _ _ _ _ aN)
     ·obtain ⟨v2,tb,O6,mO⟩:=h.LK af;have zS:(⟨fG.root,[]⟩:Place)=fG:=by cases fG; simp_all
      rw [zS,O9] at O6;cases O6;have OZ:fG.root=p.root/\p.path=[]->False:=by
       rintro ⟨hr,fO⟩;have:fG=p:=by cases fG; cases p; simp_all
       exact eN t bQ cm m' cO (this ▸ aN)
      obtain ⟨Tq,e7,adS,ae3,aeU,mO⟩:=mO.vS;by_cases zD:Tq.ownBlock=some b
      ·obtain ⟨⟨a4,ab1,XX,rfl⟩,_⟩:=mO.ju;exact OZ (N_ QA (N9 QA _ _ _ _ bm XX zD) _ _ _ _ _ af)
      ·exact OZ (N' _ _ _ _ _ _ ((mO.aH b).2 ⟨j7,zD⟩) af)
    refine ⟨λCQ=>?_,λj7=>absurd j7 vu⟩;exact absurd (N' _ _ _ _ _ _ ((aY.aH b).2 ⟨CQ,vu⟩) aN) au
  -- trees
  have aP:=h.jc;have trees:∀ t x v (ρ':ab->Value->Prop),(∀ x v,dz w T g x v->ρ' x v)->g t=some x->T[t]?=some v->R w I (dz w T g) x v (Fs t)->R w' I ρ' x v (Fs t)/\∀ r y,x.at r=some y->walk w' v r=walk w v r:=by
   intro t x v ρ' l1 J hv aY;by_cases jv:Fs t b
   ·obtain ⟨q,bQ,cm,cs',h4,h1,af,aE,bm⟩:=V7 t x v jv J hv aY;exact aY.spare s bc l1 h1 af aE bm
   ·have same:∀ c,Fs t c->w'.heap[c]?=w.heap[c]?:=λc aa=>s.other c (aP t c aa) λe=>jv (e ▸ aa);exact ⟨aY.frame (λc aa=>s.other c (bc c aa).1 (bc c aa).2) (λ_ h=>h) l1 same,λr y hr=>R.p6 r aY hr same⟩
  have val:∀ q y,bE g q=some y->dy w' T q=dy w T q:=by
   intro q y a_;unfold bE at a_;cases J:g q.root with
   | none=>rw [J] at a_; cases a_
   | some x =>
    rw [J] at a_;obtain ⟨v,hv,aY⟩:=h.rel _ _ J;cases aY with
    | tree aY=>have:=(trees _ x v _ (λ_ _ h=>h) J hv aY).2 q.path y a_; simp [dy,hv,this]
    | bI aY=>simp [dy,hv,(ab.sX a_).1,walk]
  have slot:∀ {q:Place}{x:ab},q.path=[]->g q.root=some x->dy w' T q=dy w T q:=by
   intro q x a_ J;obtain ⟨v,hv,_⟩:=h.rel _ _ J;simp [dy,a_,walk]
  have refs:∀ r v,dz w T g r v->dz w' T g r v:=by
   rintro r v ⟨h1,af⟩;refine ⟨?_,af⟩;cases r <;> simp only [fp,gE] at h1 af ⊢
   case ptr q k=>obtain ⟨y,ao,_⟩:=af; rw [val q y ao]; exact h1
   case a6 bQ q cm =>
    rcases af with ⟨_,_,af,_⟩ | ⟨aK,_,_,_,_,af,_⟩
    ·rw [val q _ af]; exact h1
    ·rw [slot aK af]; exact h1
   case sub bQ q lo cm=>obtain ⟨_,_,af,_⟩:=af; rw [val q _ af]; exact h1
   case gm q=>obtain ⟨_,af⟩:=af; rw [val q _ af]; exact h1
   case bI bQ q cm m' cO =>
    rcases af with ⟨_,af⟩ | ⟨aK,_,_,_,_,_,af,_⟩
    ·rw [val q _ af]; exact h1
    ·rw [slot aK af]; exact h1
  refine ⟨⟨λt x J=>?_,h.lh,h.ec,h.bl,λc aa=>Nat.lt_of_lt_of_le (h.lt c aa) A.dM.size,h.rF,cF.keep h.hW (λc aa=>s.other c (bc c aa).1 (bc c aa).2) λ_ h=>h⟩,refs⟩;obtain ⟨v,hv,aY⟩:=h.rel t x J;refine ⟨v,hv,?_⟩;cases aY with
  | tree aY=>exact .tree (trees t x v _ refs J hv aY).1
  | @bI bQ cm m' fG cO _ zp b5 tT iR Ge _ aY =>
   obtain ⟨eD,sC⟩:=pends t _ _ _ _ _ v zp b5 tT iR Ge J hv aY;refine .bI ⟨refs _ _ aY.ju,s.row aY.kP sC,s.row aY.mT eD,aY.ah,aY.h1,λk x u J hu=>?_,aY.aH⟩;exact (aY.hr k x u J hu).frame (λc aa=>s.other c (bc c aa).1 (bc c aa).2) (λ_ h=>h) refs λc aa=>aa.elim
end
def tC (w:World) (I:a') (T:Array Value) (g:aM) (Fs:Nat->a') (x:ab) (v:Value) (w':World):Prop :=
 ∃ F I',cB w' I' T g Fs/\jF w' I' (dz w' T g) x v F/\(∀ t c,F c->¬ Fs t c)/\(∀ c,F c->w.heap.size<=c/\¬ I' c)/\(∀ c,I c->I' c)/\(∀ c,I' c->I c\/w.heap.size<=c)/\Fr w w' (λc=>∃ t,Fs t c)/\(∀ z p n m new,x=.bI z p n m new->∀ t bQ cm m' cO,g t≠some (.bI bQ p cm m' cO))
inductive Src (g:aM):ab->Nat->Nat->List ab->Prop
 | bl {z m:Nat}{cs:List ab}:Src g (.bl z m cs) z m cs
 | aS {z:Nat}:Src g .aS z 0 []
 | a6 {z m N:Nat}{q:Place}{cs:List ab}(a_:bE g q=some (.own z N cs)) (hm:m<=N):Src g (.a6 z q m) z m ((cs.take (m * z)).mapIdx λi x=>fZ 0 (q.push i) x)
 | sub {z lo m N:Nat}{q:Place}{cs:List ab}(a_:bE g q=some (.own z N cs)) (hm:lo+m<=N):Src g (.sub z q lo m) z m (((cs.drop (lo * z)).take (m * z)).mapIdx λi x=>fZ 0 (q.push (lo * z+i)) x)
def im (P:Program) (t e:TypeId) (z b:Nat):Bool :=
 match P.underlying t,P.info? e with
 | some (.slice b5),some i=>b5 == e&&i.size == z&&i.bytes == b&&z != 0&&(match i.zero with | some v=>v.cells.size == z | none=>false)
 | _,_=>false
section
variable {P:Program}{w:World}{I:a'}{T:Array Value}{g:aM}{Fs:Nat->a'}
theorem E1 {t e:TypeId}{z b:Nat}(h:im P t e z b=true):∃ i cY,P.underlying t=some (.slice e)/\P.info? e=some i/\i.size=z/\i.bytes=b/\0<z/\i.zero=some cY/\cY.cells.size=z:=by
 unfold im at h;cases hu:P.underlying t with
 | none=>simp [hu] at h
 | some d =>
  cases hi:P.info? e with
  | none=>cases d <;> simp [hu,hi] at h
  | some i =>
   cases d <;> simp [hu,hi] at h;obtain ⟨⟨⟨⟨rfl,h1⟩,af⟩,aE⟩,bm⟩:=h;cases aW:i.zero with
   | none=>simp [aW] at bm
   | some cY=>simp [aW] at bm; exact ⟨i,cY,rfl,rfl,h1,af,by omega,aW,bm⟩
theorem Src.sound (h:cB w I T g Fs) {y:ab}{v:Value}{z m:Nat}{cells:List ab}(av:Src g y z m cells) (aY:R w I (dz w T g) y v cg) :
  ∃ (a:Option Addr) (c:Nat) (news:List Value),v=.slice a m c/\news.length=m * z/\(0<m->0<z->a.isSome=true)/\(∀ ad,a=some ad->∀ (j:Nat) (u:Value),news[j]?=some u->w.cell? (ad.add j)=some u)/\Cells w I (dz w T g) cells news:=by
 have P8:∀ {q:Place}{N:Nat}{cs:List ab}(lo:Nat) {a:Option Addr}{cap:Nat},bE g q=some (.own z N cs)->dy w T q=some (.slice a N cap)->lo+m<=N ->
   ∃ news:List Value,news.length=m * z/\(∀ ad,a=some ad->∀ (j:Nat) (u:Value),news[j]?=some u->w.cell? ⟨ad.block,lo * z+j,none⟩=some u)/\Cells w I (dz w T g) (((cs.drop (lo * z)).take (m * z)).mapIdx λi x=>fZ 0 (q.push (lo * z+i)) x) news/\(0<m->0<z->∃ b,a=some ⟨b,0,none⟩):=by
  intro q N cs lo a cap a_ hv hm;obtain ⟨dK,cq,ij,dt,_⟩:=h.part a_ (by simp);rw [hv] at ij;cases ij;obtain ⟨ca,nq,h',_,hlen,pb,_⟩:=dt.od;cases h';have aee:lo * z+m * z<=cs.length:=by rw [hlen,<- Nat.add_mul]; exact Nat.mul_le_mul_right _ hm
  have cell:∀ j,j<m * z->∃ b gy lp,a=some ⟨b,0,none⟩/\w.cell? ⟨b,lo * z+j,none⟩=some gy/\gy.oneCell'=true/\cs[lo * z+j]?=some lp/\R w I (dz w T g) (fZ 0 (q.push (lo * z+j)) lp) gy cg:=by
   intro j ag;have fc:cs[lo * z+j]?=some cs[lo * z+j]:=List.getElem?_eq_getElem (by omega);obtain ⟨b,gy,fE,mP,nZ,hz,bD,kp⟩:=dt.node (.inl rfl) fc;refine ⟨b,gy,_,?_,mP,hz,fc,GL 0 (by rw [tP,a_]; simp [ab.kids]) (by rw [yI,hv]; exact nZ) kp⟩;cases a with
   | none=>simp [addrOf] at fE
   | some ad=>simp only [addrOf] at fE; rw [Option.some.inj fE]
  have se:∃ news:List Value,news.length=m * z/\∀ j,j<m * z->∃ b gy lp,news[j]?=some gy/\a=some ⟨b,0,none⟩/\w.cell? ⟨b,lo * z+j,none⟩=some gy/\gy.oneCell'=true/\cs[lo * z+j]?=some lp/\R w I (dz w T g) (fZ 0 (q.push (lo * z+j)) lp) gy cg:=by
   refine ⟨(List.range (m * z)).map λj=>(w.cell? ⟨(a.map (·.block)).getD 0,lo * z+j,none⟩).getD undef,by simp,λj ag=>?_⟩;obtain ⟨b,gy,lp,h1,af,aE,bm,b7⟩:=cell j ag;refine ⟨b,gy,lp,?_,h1,af,aE,bm,b7⟩;rw [List.getElem?_map,List.getElem?_range ag,h1];simp [af]
  obtain ⟨news,ah,aC⟩:=se;refine ⟨news,ah,λad fE j u ag=>?_,⟨?_,λj u ag=>?_,λj x u J ag=>?_⟩,λJX CY=>?_⟩
  ·obtain ⟨b,gy,lp,h1,af,aE,_⟩:=aC j (by rw [<- ah]; exact (List.getElem?_eq_some_iff.1 ag).1);rw [h1] at ag; cases ag;rw [fE] at af; cases af;exact aE
  ·simp; omega
  ·obtain ⟨b,gy,lp,h1,af,aE,bm,_⟩:=aC j (by rw [<- ah]; exact (List.getElem?_eq_some_iff.1 ag).1);rw [h1] at ag; cases ag; exact bm
  ·obtain ⟨b,gy,lp,h1,af,aE,bm,b7,dr⟩:=aC j (by rw [<- ah]; exact (List.getElem?_eq_some_iff.1 ag).1);rw [h1] at ag; cases ag;rw [List.getElem?_mapIdx,List.getElem?_take] at J
   split at J
   ·rw [List.getElem?_drop,b7] at J;simp only [Option.map_some,Option.some.injEq] at J;rw [<- J]; exact dr
   ·cases J
  ·obtain ⟨b,_,_,h1,_⟩:=cell 0 (Nat.mul_pos JX CY);exact ⟨b,h1⟩
 cases av with
 | bl =>
  obtain ⟨a,cap,rfl,_,hlen,hm⟩:=aY.z1;by_cases aK:cells≠[]\/0<m
  ·obtain ⟨ad,us,rfl,bc,ja,hz,aa,hr⟩:=hm aK;refine ⟨_,cap,(List.range cells.length).map us,rfl,by simp [hlen],by simp,λMD fE j u ag=>?_,⟨by simp,λj u ag=>?_,λj x u J ag=>?_⟩⟩
   ·cases fE;rw [List.getElem?_map] at ag;by_cases eF:j<cells.length
    ·rw [List.getElem?_range eF] at ag;simp only [Option.map_some,Option.some.injEq] at ag;obtain ⟨b,o,sp⟩:=ad;simp only at ja;subst ja;rw [add_eq,<- ag];exact aa j _ (List.getElem?_eq_getElem eF)
    ·rw [List.getElem?_eq_none (by simp; omega)] at ag; cases ag
   ·rw [List.getElem?_map] at ag;by_cases eF:j<cells.length
    ·rw [List.getElem?_range eF] at ag;simp only [Option.map_some,Option.some.injEq] at ag;rw [<- ag];exact hz j _ (List.getElem?_eq_getElem eF)
    ·rw [List.getElem?_eq_none (by simp; omega)] at ag; cases ag
   ·rw [List.getElem?_map] at ag;have eF:j<cells.length:=(List.getElem?_eq_some_iff.1 J).1;rw [List.getElem?_range eF] at ag;simp only [Option.map_some,Option.some.injEq] at ag;rw [<- ag];exact hr j x J
  ·have JX:m=0:=by omega
   have Ck:cells=[]:=Classical.byContradiction λe=>aK (.inl e);subst JX Ck;exact ⟨a,cap,[],rfl,by simp,by simp,by simp,by simp [Cells]⟩
 | aS =>
  rw [aY.rv];exact ⟨none,0,[],rfl,by simp,by simp,by simp,by simp [Cells]⟩
 | @a6 _ _ N q cs a_ hm =>
  obtain ⟨⟨a,kI,cap,h1,rfl,aE⟩,bm⟩:=aY.n3;obtain ⟨dK,cq,ij,dt,_⟩:=h.part a_ (by simp);obtain ⟨ca,nq,h',_⟩:=dt.od;rw [h1] at ij;cases ij;cases h';obtain ⟨news,ah,aa,eY,aJ⟩:=P8 0 a_ h1 (by omega);simp only [Nat.zero_mul,List.drop_zero,Nat.zero_add] at eY aa;refine ⟨a,cap,news,rfl,ah,λaK Fm=>by obtain ⟨b,rfl⟩:=aJ aK Fm; rfl,λad fE j u ag=>?_,eY⟩;have xr:=aa ad fE j u ag;by_cases aK:0<m/\0<z
  ·obtain ⟨b,ar⟩:=aJ aK.1 aK.2;rw [fE] at ar; cases ar;rw [add_eq]; simpa using xr
  ·have:m * z=0:=by
    rcases Nat.eq_zero_or_pos m with h | h
    ·simp [h]
    ·rcases Nat.eq_zero_or_pos z with aI | aI
     ·simp [aI]
     ·exact absurd ⟨h,aI⟩ aK
   have:=(List.getElem?_eq_some_iff.1 ag).1;omega
 | @sub _ lo _ N q cs a_ hm =>
  obtain ⟨⟨a,kI,cap,ca,nq,h1,rfl,_,aE,b7⟩,bm⟩:=aY.z6;obtain ⟨dK,cq,ij,dt,_⟩:=h.part a_ (by simp);obtain ⟨a2,r2,h',_⟩:=dt.od;rw [h1] at ij;cases ij;cases h';obtain ⟨news,ah,aa,eY,aJ⟩:=P8 lo a_ h1 hm;refine ⟨ca,nq,news,rfl,ah,λaK _=>by obtain ⟨ad,_,rfl⟩:=b7 aK; rfl,λad fE j u ag=>?_,eY⟩;have aP:=(List.getElem?_eq_some_iff.1 ag).1;have aK:0<m:=(Nat.eq_zero_or_pos m).elim (λh=>by rw [h] at ah; omega) id

  have aW:0<z:=(Nat.eq_zero_or_pos z).elim (λh=>by rw [h] at ah; omega) id

  obtain ⟨MD,dr,kN⟩:=b7 aK;obtain ⟨b,ar⟩:=aJ aK aW;rw [dr] at ar; cases ar;rw [fE] at kN; cases kN;have xr:=aa _ dr j u ag;rw [add_eq]; simpa using xr
end
inductive Bo (P:Program) (g:aM):Op->TypeId->ab->Prop
 | grow {s x:Operand}{t e ty:TypeId}{z b n m:Nat}{p:Place}{y:ab}{cells:List ab}(av:bs g s=some (.a6 z p n)) (c6:gE g (.bI z p n 0 [])) (eN:∀ t bQ cm m' cO,g t≠some (.bI bQ p cm m' cO))
   (J:bs g x=some y) (oI:Src g y z m cells) (au:im P t e z b=true) (o7:n+m<=4611686018427387904) (ar:(n+m) * b<=140737488355328) :
   Bo P g (.call { callee:=.builtin .append,args:=#[s,x],argTypes:=#[t,t] }) ty (.bI z p n m cells)
 | nil {s x:Operand}{t e ty:TypeId}{z b m:Nat}{y:ab}{cells:List ab}(av:bs g s=some .aS)
   (J:bs g x=some y) (oI:Src g y z m cells) (au:im P t e z b=true) (o7:m<=4611686018427387904) (ar:m * b<=140737488355328) :
   Bo P g (.call { callee:=.builtin .append,args:=#[s,x],argTypes:=#[t,t] }) ty (.own z m cells)
inductive cf (P:Program) (g:aM):Op->TypeId->ab->Prop
 | eD {op:Op}{ty:TypeId}{x:ab}(h:dj P g op ty x):cf P g op ty x
 | sC {op:Op}{ty:TypeId}{x:ab}(h:ov P g op ty x):cf P g op ty x
 | Dp {op:Op}{ty:TypeId}{x:ab}(h:u_ P g op ty x):cf P g op ty x
 | l4 {op:Op}{ty:TypeId}{x:ab}(h:Bo P g op ty x):cf P g op ty x
section
variable {P:Program}{w:World}{I:a'}{T:Array Value}{g:aM}{Fs:Nat->a'}
theorem Cells.frame {w':World}{cells:List ab}{news:List Value}(aa:Cells w I (dz w T g) cells news) (bc:∀ c,I c->w'.heap[c]?=w.heap[c]?) (hr:∀ r v,dz w T g r v->dz w' T g r v):Cells w' I (dz w' T g) cells news :=
 ⟨aa.1,aa.2.1,λk x u J hu=>(aa.2.2 k x u J hu).frame bc (λ_ h=>h) hr λ_ h=>h.elim⟩
theorem Bo.sound (h:cB w I T g Fs) {a:Act}(aJ:a.tmps=T) {o:Oper}{kY:ab}(aq:Bo P g o.op o.type kY) :
  ∃ v w',(execOp a.eval o).run P w=.ok (.value v) w'/\tC w I T g Fs kY v w':=by
 obtain ⟨dst,op,ty,pos,after,guard⟩:=o;simp only at aq;cases aq with
 | @grow s x t e _ z b n m p y cells av c6 eN J oI au o7 ar =>
  obtain ⟨i,cY,hu,hi,rfl,rfl,aK,aW,l0⟩:=E1 au;obtain ⟨⟨wS,N,wT,h1,af,aE⟩,bm⟩:=(kd h av aJ).n3;obtain ⟨yx,wq,news,rn,ah,xA,xB,eY⟩:=oI.sound h (kd h J aJ)
  -- the row of the base
  have rm:N=n/\∃ b5 us,w.ownsRow 0 b5 i.size (.slice wS n wT) n us:=by
   rcases c6 with ⟨cs,aq⟩ | ⟨fO,q,gN,m0,new,cs,aq,rfl,_⟩
   ·obtain ⟨dK,cq,ij,dt,_⟩:=h.part aq (by simp);rw [h1] at ij;cases ij;obtain ⟨ca,nq,h',_⟩:=dt.od;cases h';cases dt with
    | own aX=>exact ⟨rfl,_,_,aX⟩
    | ref J=>simp [ab.isRef] at J
   ·obtain ⟨v0,ky,CP,gu⟩:=h.LK aq;have a_:(⟨p.root,[]⟩:Place)=p:=by cases p; simp_all
    rw [a_,h1] at CP;cases CP;obtain ⟨bv,b9,b3,us,aeV,gu⟩:=gu.vS;have bp:N=gN+m0:=by
     obtain ⟨_,bO⟩:=gu.mT;rcases bO with ⟨bO,aC⟩ | ⟨g,cap,cur,bO,_⟩
     ·cases bO; omega
     ·cases bO; rfl
    subst bp;exact ⟨rfl,_,_,gu.mT⟩
  obtain ⟨rfl,b5,us,kP⟩:=rm;have ju:dz w T g (.bI i.size p N 0 []) (.slice wS N wT):=⟨⟨wS,wT,h1,rfl⟩,c6⟩;obtain ⟨dK,w',b3,hA,A⟩:=GS (P:=P) (w:=w) t ty e b5 i cY hu hi aW l0 aK kP (a:=yx) (c:=wq) (m:=m) (news:=news) (λhm=>xA hm aK) ah xB (λu hu=>by
   obtain ⟨k,hk,rfl⟩:=List.mem_iff_getElem.1 hu;exact eY.2.1 k _ (List.getElem?_eq_getElem hk)) (by unfold maxLen; omega) ar
  obtain ⟨bf,hrefs⟩:=h.app ju eN A;refine ⟨dK,w',by simp [execOp,resolve,invoke,builtin,af,rn,hA],(λc=>dK.ownBlock=some c/\(Value.slice wS N wT).ownBlock≠some c),I,bf,?_,?_,?_,λ_ h=>h,λ_ h=>.inl h,?_,?_⟩
  ·have bc:∀ c,I c->w'.heap[c]?=w.heap[c]?:=by
    intro c aa;refine A.dM.block c (h.lt c aa) λar=>?_;obtain ⟨t,au⟩:=h.E6 ju c ar;exact h.bl t c au aa
   have lX:=eY.frame bc hrefs;exact .bI ⟨hrefs _ _ ju,A.mX,A.new,lX.1,lX.2.1,lX.2.2,λc=>Iff.rfl⟩
  ·rintro t c ⟨ku,qw⟩ aU;rcases A.Bz c ku with h | aI
   ·exact qw h
   ·have:=h.jc t c aU; omega
  ·rintro c ⟨ku,qw⟩;rcases A.Bz c ku with aI | aI
   ·exact absurd aI qw
   ·exact ⟨aI,λhi=>by have:=h.lt c hi; omega⟩
  ·exact A.dM.mono λc _ aa=>h.E6 ju c aa
  ·intro bQ Le cm m' cO he;cases he;exact eN
 | @nil s x t e _ z b m y cells av J oI au o7 ar =>
  obtain ⟨i,cY,hu,hi,rfl,rfl,aK,aW,l0⟩:=E1 au;have af:=(kd h av aJ).rv;obtain ⟨yx,wq,news,rn,ah,xA,xB,eY⟩:=oI.sound h (kd h J aJ);obtain ⟨dK,w',b3,hA,A⟩:=GS (P:=P) (w:=w) t ty e e i cY hu hi aW l0 aK (World.ownsRow_nil w 0 e i.size) (a:=yx) (c:=wq) (m:=m) (news:=news) (λhm=>xA hm aK) ah xB (λu hu=>by
   obtain ⟨k,hk,rfl⟩:=List.mem_iff_getElem.1 hu;exact eY.2.1 k _ (List.getElem?_eq_getElem hk)) (by unfold maxLen; omega) (by simpa using ar)
  have same:∀ c,c<w.heap.size->w'.heap[c]?=w.heap[c]?:=λc aa=>A.dM.block c aa (by simp [Value.ownBlock]);have sd:=A.new;simp only [Nat.zero_add,List.nil_append] at sd;have lX:=eY.frame (λc aa=>same c (h.lt c aa)) λr v hr=>h.GM (λ_ _=>rfl) (λt c aa=>same c (h.jc t c aa)) (λ_ _ h=>h) hr;have hblk:∀ c,dK.ownBlock=some c->w.heap.size<=c:=λc aa=>(A.Bz c aa).elim (λh=>by simp [Value.ownBlock] at h) id;refine ⟨dK,w',by simp [execOp,resolve,invoke,builtin,af,rn,hA],(λc=>dK.ownBlock=some c),I,h.world (λt c aa=>same c (h.jc t c aa)) (λc aa=>same c (h.lt c aa)) A.dM.size,?_,?_,λc aa=>⟨hblk c aa,λhi=>by have:=h.lt c hi; have:=hblk c aa; omega⟩,λ_ h=>h,λ_ h=>.inl h,?_,?_⟩
  ·exact .tree (.own (Fs:=λ_=>cg) sd lX.1 lX.2.1 lX.2.2 (λ_ _ _ _ _ h=>h.elim) (λ_ _ _ h=>h.elim) λc=>⟨.inl,λh=>h.elim id λ⟨_,_,h⟩=>h.elim⟩)
  ·intro t c aa aU; have:=hblk c aa; have:=h.jc t c aU; omega
  ·exact A.dM.mono λc _ aa=>by simp [Value.ownBlock] at aa
  ·intro bQ Le cm m' cO he; cases he
theorem cf.sound (h:cB w I T g Fs) {a:Act}(aJ:a.tmps=T) {o:Oper}{kY:ab}(aq:cf P g o.op o.type kY) :
  ∃ v w',(execOp a.eval o).run P w=.ok (.value v) w'/\tC w I T g Fs kY v w':=by
 have Dh:∀ {v:Value}{F:a'},R w I (dz w T g) kY v F->∀ z p n m new,kY=.bI z p n m new->∀ t bQ cm m' cO,g t≠some (.bI bQ p cm m' cO):=by
  rintro v F aY z p n m new rfl;exact aY.lD.elim
 cases aq with
 | eD aq =>
  obtain ⟨v,hr,aY⟩:=aq.sound h aJ;exact ⟨v,w,hr,cg,I,h,.tree aY,λ_ _ h=>h.elim,λ_ h=>h.elim,λ_ h=>h,λ_ h=>.inl h,Fr.refl _ _,Dh aY⟩
 | Dp aq =>
  obtain ⟨v,hr,aY⟩:=aq.sound h aJ;exact ⟨v,w,hr,cg,I,h,.tree aY,λ_ _ h=>h.elim,λ_ h=>h.elim,λ_ h=>h,λ_ h=>.inl h,Fr.refl _ _,Dh aY⟩
 | sC aq =>
  obtain ⟨v,sB,hr,aY⟩:=aq.sound h aJ;refine ⟨v,_,hr,_,I,h.alloc sB,.tree aY,λt c aa aU=>?_,λc aa=>⟨by rw [aa]; exact Nat.le_refl _,λhi=>by have:=h.lt c hi; omega⟩,λ_ h=>h,λ_ h=>.inl h,Fr.alloc w sB _ (by
   obtain ⟨o,h1,af⟩:=aY.ZE w.heap.size rfl;rw [q6] at h1;cases h1;exact af),?_⟩
  ·have:=h.jc t c aU; omega
  ·rintro z p n m new rfl; exact aY.lD.elim
 | l4 aq=>exact aq.sound h aJ
end
inductive cG:ab->Prop
 | lit {v:Value}:cG (.lit v)
 | aS:cG .aS
 | dead:cG .dead
 | self {k:Nat × Nat}:cG (.self k)
 | bl {z n:Nat}{cs:List ab}(h:∀ x∈cs,cG x):cG (.bl z n cs)
 | own {z n:Nat}{cs:List ab}(h:∀ x∈cs,cG x):cG (.own z n cs)
 | obj {cs:List ab}(h:∀ x∈cs,cG x):cG (.obj cs)
 | agg {cs:List ab}(h:∀ x∈cs,cG x):cG (.agg cs)
 | bR {cs:List ab}(h:∀ x∈cs,cG x):cG (.bR cs)
 | cx {cs:List ab}(h:∀ x∈cs,cG x):cG (.cx cs)
 | cD {fn:Fn}{a b:List ab}(h1:∀ x∈a,cG x) (af:∀ x∈b,cG x):cG (.cD fn a b)
 | mp {p:Array MapEntry->Nat->Prop}:cG (.mp p)
 | hY {t:Nat}{us:List Value}:cG (.hY t us)
 | imp {p:Array MapEntry->Nat->Prop}:cG (.imp p)
inductive j1:ab->Prop
 | lit {v:Value}:j1 (.lit v)
 | aS:j1 .aS
 | dead:j1 .dead
 | self {k:Nat × Nat}:j1 (.self k)
 | own {z n:Nat}{cs:List ab}(h:∀ x∈cs,j1 x):j1 (.own z n cs)
 | obj {cs:List ab}(h:∀ x∈cs,j1 x):j1 (.obj cs)
 | agg {cs:List ab}(h:∀ x∈cs,j1 x):j1 (.agg cs)
 | bR {cs:List ab}(h:∀ x∈cs,j1 x):j1 (.bR cs)
 | mp {p:Array MapEntry->Nat->Prop}:j1 (.mp p)
 | hY {t:Nat}{us:List Value}:j1 (.hY t us)
 | gK {z:Nat}:j1 (.bl z 0 [])
theorem j1.bn {x:ab}(h:j1 x):cG x:=by
 induction h with
 | lit=>exact .lit
 | aS=>exact .aS
 | dead=>exact .dead
 | self=>exact .self
 | own _ aO=>exact .own aO
 | obj _ aO=>exact .obj aO
 | agg _ aO=>exact .agg aO
 | bR _ aO=>exact .bR aO
 | mp=>exact .mp
 | hY=>exact .hY
 | gK=>exact .bl (by simp)
inductive Rows (g:aM):Place->Nat->Nat->List ab->Prop
 | own {p:Place}{z n:Nat}{cs:List ab}(aq:bE g p=some (.own z n cs)):Rows g p z n cs
 | bI {t z n m:Nat}{q:Place}{new cs:List ab}(au:g t=some (.bI z q n m new)) (a_:Rows g q z n cs):Rows g ⟨t,[]⟩ z (n+m) (cs++new)
theorem Rows.mono {g g':aM}(h:∀ {p:Place}{y:ab},bE g p=some y->bE g' p=some y) {p:Place}{z n:Nat}{cs:List ab}(hr:Rows g p z n cs) (af:∀ t x,g t=some x->g' t=some x):Rows g' p z n cs:=by
 induction hr with
 | own aq=>exact .own (h aq)
 | bI au _ aO=>exact .bI (af _ _ au) aO
inductive View (g:aM):ab->ab->Prop
 | self {x:ab}(h:cG x) (J:∀ z n cs,x≠.own z n cs) (aX:∀ cs,x≠.obj cs) (aJ:∀ cs,x≠.agg cs) (au:∀ cs,x≠.bR cs) (hm:(∀ p,x≠.mp p)/\∀ t us,x≠.hY t us):View g x x
 | mp {p:Array MapEntry->Nat->Prop}:View g (.mp p) (.imp p)
 | gm {p:Place}{q:Array MapEntry->Nat->Prop}(aq:bE g p=some (.mp q)):View g (.gm p) (.imp q)
 | qF {z:Nat}:View g .aS (.bl z 0 [])
 | agg {cs cs':List ab}(ah:cs'.length=cs.length) (h:∀ (k:Nat) (x y:ab),cs[k]?=some x->cs'[k]?=some y->View g x y):View g (.agg cs) (.agg cs')
 | own {z n:Nat}{cs cs':List ab}(ah:cs'.length=cs.length) (h:∀ (k:Nat) (x y:ab),cs[k]?=some x->cs'[k]?=some y->View g x y):View g (.own z n cs) (.bl z n cs')
 | obj {cs cs':List ab}(ah:cs'.length=cs.length) (h:∀ (k:Nat) (x y:ab),cs[k]?=some x->cs'[k]?=some y->View g x y):View g (.obj cs) (.cx cs')
 | a6 {z n N:Nat}{p:Place}{cs cs':List ab}(aq:bE g p=some (.own z N cs)) (aC:n<=N) (ah:cs'.length=(cs.take (n * z)).length) (h:∀ (k:Nat) (x y:ab),(cs.take (n * z))[k]?=some x->cs'[k]?=some y->View g x y):View g (.a6 z p n) (.bl z n cs')
 | sub {z lo n N:Nat}{p:Place}{cs cs':List ab}(aq:bE g p=some (.own z N cs)) (aC:lo+n<=N) (ah:cs'.length=((cs.drop (lo * z)).take (n * z)).length) (h:∀ (k:Nat) (x y:ab),((cs.drop (lo * z)).take (n * z))[k]?=some x->cs'[k]?=some y->View g x y):View g (.sub z p lo n) (.bl z n cs')
 | ptr {p:Place}{k z n:Nat}{y:ab}{cs cs':List ab}(aq:bE g p=some y) (ao:y=.own z n cs\/y=.obj cs) (hk:k<cs.length) (ah:cs'.length=(cs.drop k).length) (h:∀ (j:Nat) (x y:ab),(cs.drop k)[j]?=some x->cs'[j]?=some y->View g x y):View g (.ptr p k) (.cx cs')
 | cD {fn:Fn}{cs cs':List ab}(ah:cs'.length=cs.length) (h:∀ (k:Nat) (x y:ab),cs[k]?=some x->cs'[k]?=some y->View g x y):View g (.cD fn [] cs) (.cD fn [] cs')
 | rows {z n:Nat}{p:Place}{cs cs':List ab}(aq:Rows g p z n cs) (ah:cs'.length=cs.length) (h:∀ (k:Nat) (x y:ab),cs[k]?=some x->cs'[k]?=some y->View g x y):View g (.a6 z p n) (.bl z n cs')
section
variable {P:Program}{w:World}{I:a'}{T:Array Value}{g:aM}{Fs:Nat->a'}
theorem R.bn {ρ ρ':ab->Value->Prop}{x:ab}{v:Value}{F:a'}(h:R w I ρ x v F):cG x->R w I ρ' x v F:=by
 induction h with
 | lit h aH=>exact λ_=>.lit h aH
 | aS aH=>exact λ_=>.aS aH
 | dead aH=>exact λ_=>.dead aH
 | mv aH=>exact λ_=>.mv aH
 | @ref x _ _ J h aH=>intro aC; cases aC <;> simp [ab.isRef] at J
 | gK aH=>exact λ_=>.gK aH
 | bl aH lW bc av ah h1 aa hr aO=>exact λaC=>.bl aH lW bc av ah h1 aa λk x J=>aO k x J (by cases aC with | bl h=>exact h x (List.mem_of_getElem? J))
 | cx aH bc av h1 aa hr aO=>exact λaC=>.cx aH bc av h1 aa λk x J=>aO k x J (by cases aC with | cx h=>exact h x (List.mem_of_getElem? J))
 | own aX ah h1 hr aQ ar aH aO=>exact λaC=>.own aX ah h1 (λk x u J hu=>aO k x u J hu (by cases aC with | own h=>exact h x (List.mem_of_getElem? J))) aQ ar aH
 | obj aX ah h1 hr aQ ar aH av aO=>exact λaC=>.obj aX ah h1 (λk x u J hu=>aO k x u J hu (by cases aC with | obj h=>exact h x (List.mem_of_getElem? J))) aQ ar aH av
 | agg ah h1 hr aQ aH aO=>exact λaC=>.agg ah h1 (λk x u J hu=>aO k x u J hu (by cases aC with | agg h=>exact h x (List.mem_of_getElem? J))) aQ aH
 | bR ah hr aQ aH aO=>exact λaC=>.bR ah (λk x u J hu=>aO k x u J hu (by cases aC with | bR h=>exact h x (List.mem_of_getElem? J))) aQ aH
 | mp aX aq aH=>exact λ_=>.mp aX aq aH
 | hY aX h1 aH=>exact λ_=>.hY aX h1 aH
 | imp aH bc aX aq=>exact λ_=>.imp aH bc aX aq
 | cD aH h1 af i' hK gj fV=>exact λaC=>.cD aH h1 af (λk x u J hu=>gj k x u J hu (by cases aC with | cD h _=>exact h x (List.mem_of_getElem? J))) (λk x u J hu=>fV k x u J hu (by cases aC with | cD _ h=>exact h x (List.mem_of_getElem? J)))
theorem R.oa {ρ:ab->Value->Prop}{I':a'}{x:ab}{v:Value}{F:a'}(h:R w I ρ x v F) (bc:∀ c,I c->I' c):R w I' ρ x v F :=
 h.frame (λ_ _=>rfl) bc (λ_ _ h=>h) λ_ _=>rfl
theorem R.l3 {ρ ρ':ab->Value->Prop}{I':a'}{x:ab}{v:Value}{F:a'}(h:R w I ρ x v F):j1 x->R w I' ρ' x v F:=by
 induction h with
 | lit h aH=>exact λ_=>.lit h aH
 | aS aH=>exact λ_=>.aS aH
 | dead aH=>exact λ_=>.dead aH
 | mv aH=>exact λ_=>.mv aH
 | @ref x _ _ J h aH=>intro aC; cases aC <;> simp [ab.isRef] at J
 | gK aH=>exact λ_=>.gK aH
 | bl aH=>intro aC; cases aC; exact .gK aH
 | cx=>intro aC; cases aC
 | own aX ah h1 hr aQ ar aH aO=>exact λaC=>.own aX ah h1 (λk x u J hu=>aO k x u J hu (by cases aC with | own h=>exact h x (List.mem_of_getElem? J))) aQ ar aH
 | obj aX ah h1 hr aQ ar aH av aO=>exact λaC=>.obj aX ah h1 (λk x u J hu=>aO k x u J hu (by cases aC with | obj h=>exact h x (List.mem_of_getElem? J))) aQ ar aH av
 | agg ah h1 hr aQ aH aO=>exact λaC=>.agg ah h1 (λk x u J hu=>aO k x u J hu (by cases aC with | agg h=>exact h x (List.mem_of_getElem? J))) aQ aH
 | bR ah hr aQ aH aO=>exact λaC=>.bR ah (λk x u J hu=>aO k x u J hu (by cases aC with | bR h=>exact h x (List.mem_of_getElem? J))) aQ aH
 | cD=>intro aC; cases aC
 | mp aX aq aH=>exact λ_=>.mp aX aq aH
 | hY aX h1 aH=>exact λ_=>.hY aX h1 aH
 | imp=>intro aC; cases aC
theorem R.An {ρ:ab->Value->Prop}{z n:Nat}{cs:List ab}{v:Value}{F:a'}(h:R w I ρ (.own z n cs) v F):∃ (a:Option Addr) (cap:Nat) (us:Nat->Value) (bD:Nat->a'),v=.slice a n cap/\n<=cap/\cs.length=n * z /\
  (∀ ad,a=some ad->∃ b,ad=⟨b,0,none⟩/\F b)/\(∀ (k:Nat) (x:ab),cs[k]?=some x->∃ b,a=some ⟨b,0,none⟩/\w.cell? ⟨b,k,none⟩=some (us k)/\(us k).oneCell'=true/\R w I ρ x (us k) (bD k)/\∀ c,bD k c->F c):=by
 have aK:=h;cases h with
 | ref J=>simp [ab.isRef] at J
 | @own _ _ _ _ e us Fs _ aX ah h1 hr aQ ar aH =>
  obtain ⟨a,cap,rfl,aC,hlen,pb,sh⟩:=aK.od;refine ⟨a,cap,λk=>us.getD k undef,Fs,rfl,aC,hlen,λad fE=>?_,λk x hk=>?_⟩
  ·obtain ⟨OR,OS⟩:=pb ad fE;obtain ⟨b,o,sp⟩:=ad;simp only at OR OS;subst OR OS;exact ⟨b,rfl,(aH b).2 (.inl (by rw [fE]; rfl))⟩
  ·have aP:k<cs.length:=(List.getElem?_eq_some_iff.1 hk).1;have hu:us[k]?=some us[k]:=List.getElem?_eq_getElem (ah ▸ aP);obtain ⟨b,u,fE,mP,nZ,hz,_⟩:=aK.node (.inl rfl) hk;have:a=some ⟨b,0,none⟩:=by
    cases a with
    | none=>simp [addrOf] at fE
    | some ad=>simp only [addrOf] at fE; rw [Option.some.inj fE]
   grind [pk]
theorem R.Gj {ρ:ab->Value->Prop}{y:ab}{v:Value}{F:a'}{z n:Nat}{cs:List ab}(h:R w I ρ y v F) (ao:y=.own z n cs\/y=.obj cs) {ad:Addr}(aJ:addrOf v=some ad):F ad.block:=by
 rcases ao with rfl | rfl
 ·obtain ⟨a,cap,rfl,_⟩:=h.od;refine h.rB _ ?_;cases a with
  | none=>simp [addrOf] at aJ
  | some a=>simp only [addrOf,Option.some.injEq] at aJ; subst aJ; rfl
 ·cases h with
  | ref J=>simp [ab.isRef] at J
  | obj aX ah h1 hr aQ ar aH=>simp only [addrOf,Option.some.injEq] at aJ; subst aJ; exact (aH _).2 (.inl rfl)
theorem Zg {w:World}{e b5:TypeId}{z n:Nat}{v:Value}{us iR:List Value}(h:w.ownsRow 0 e z v n us) (aI:w.ownsRow 0 b5 z v n iR):us=iR:=by
 obtain ⟨h1,af⟩:=h;obtain ⟨aE,bm⟩:=aI;rcases af with ⟨rfl,rfl⟩ | ⟨b,cap,cur,rfl,_,bO,_,_,_,au⟩
 ·grind
 grind
theorem Rows.sound {ρ:ab->Value->Prop}(H1:∀ t z q n m new,g t=some (.bI z q n m new)->∃ v,T[t]?=some v/\jF w I ρ (.bI z q n m new) v (Fs t))
  (Sg:∀ p z n cs,bE g p=some (.own z n cs)->∃ v cq,dy w T p=some v/\R w I ρ (.own z n cs) v cq/\∀ c,cq c->Fs p.root c) (Bi:∀ z p n v,ρ (.bI z p n 0 []) v->dy w T p=some v) {p:Place}{z n:Nat}{cs:List ab}(h:Rows g p z n cs) :
  ∃ v e us,dy w T p=some v/\w.ownsRow 0 e z v n us/\us.length=cs.length/\(∀ (k:Nat) (u:Value),us[k]?=some u->u.oneCell'=true)/\(∀ c,v.ownBlock=some c->∃ t,Fs t c) /\
   (∀ (k:Nat) (x:ab) (u:Value),cs[k]?=some x->us[k]?=some u->∃ bD,R w I ρ x u bD/\∀ c,bD c->∃ t,Fs t c):=by
 induction h with
 | @own p z n cs aq =>
  obtain ⟨v,cq,hv,aY,aH⟩:=Sg p z n cs aq;cases aY with
  | ref J=>simp [ab.isRef] at J
  | @own _ _ _ _ e us bD _ aX ah h1 hr aQ ar me =>
   grind
 | @bI t z n m q new cs au _ aO =>
  obtain ⟨v,hv,aY⟩:=H1 t z q n m new au;obtain ⟨v0,e,us,ky,aX,ah,h1,ar,hr⟩:=aO;cases aY with
  | tree aY=>exact aY.lD.elim
  | @bI _ _ _ _ _ _ bv b9 b3 abf news _ aY =>
   have fU:=Bi _ _ _ _ aY.ju;rw [ky] at fU;cases fU;have:=Zg aX aY.kP;subst this;refine ⟨v,b3,us++news,by simp [dy,hv,walk],aY.mT,by rw [List.length_append,List.length_append,ah,aY.ah],λk u hu=>?_,λc aa=>?_,λk x u J hu=>?_⟩
   ·by_cases hk:k<us.length
    ·grind
    ·rw [List.getElem?_append_right (by omega)] at hu; exact aY.h1 _ u hu
   ·by_cases qv:v0.ownBlock=some c
    ·grind
    ·exact ⟨t,(aY.aH c).2 ⟨aa,qv⟩⟩
   ·by_cases hk:k<us.length
    ·grind
    ·rw [List.getElem?_append_right (by omega)] at J;rw [List.getElem?_append_right (by omega),ah] at hu;exact ⟨_,aY.hr _ x u J hu,λc aa=>aa.elim⟩
theorem QI {ρ':ab->Value->Prop}{e:TypeId}{z n N cap:Nat}{a:Option Addr}{us:List Value}{cs cs':List ab}(aX:w.ownsRow 0 e z (.slice a N cap) n us) (hlen:us.length=cs.length) (h1:∀ (k:Nat) (u:Value),us[k]?=some u->u.oneCell'=true) (ar:∀ c,(Value.slice a N cap).ownBlock=some c->∃ t,Fs t c) (ah:cs'.length=cs.length)
  (hr:∀ (k:Nat) (x y:ab) (u:Value),cs[k]?=some x->cs'[k]?=some y->us[k]?=some u->R w (λc=>I c\/∃ t,Fs t c) ρ' y u cg):R w (λc=>I c\/∃ t,Fs t c) ρ' (.bl z n cs') (.slice a n cap) cg:=by
 obtain ⟨OM,aX⟩:=aX;rcases aX with ⟨fU,aK⟩ | ⟨b,r2,cur,b9,_,bO,zQ,aa,av,au⟩
 ·cases fU;subst aK;have lX:cs'=[]:=List.eq_nil_of_length_eq_zero (by rw [ah,<- hlen,OM]; simp);subst lX;exact .gK λ_ h=>h
 ·cases b9;refine .bl (us:=λk=>us.getD k undef) (λ_ h=>h) zQ (.inr (ar b rfl)) rfl (by rw [ah,<- hlen,OM]) (λk y ao=>?_) (λk y ao=>?_) λk y ao=>?_
  all_goals
   have hk:k<us.length:=by rw [hlen,<- ah]; exact (List.getElem?_eq_some_iff.1 ao).1
   have hu:us[k]?=some us[k]:=List.getElem?_eq_getElem hk;have aN:us.getD k undef=us[k]:=by simp [List.getD,hu]
  ·grind
  ·rw [aN];have zX:∀ u,us[k]?=some u->w.cell? ⟨b,k,none⟩=some u:=λu zX=>by
    rw [<- au,List.getElem?_take] at zX
    split at zX
    ·simpa [World.cell?,bO] using zX
    grind
   grind
  grind
theorem View.sound (h:cB w I T g Fs) {x x':ab}(hv:View g x x'):∀ {v:Value}{F:a'},R w I (dz w T g) x v F->(∀ c,F c->∃ t,Fs t c)->∀ ρ',R w (λc=>I c\/∃ t,Fs t c) ρ' x' v cg:=by
 induction hv with
 | qF =>
  intro v F aY aH ρ';have:=aY.rv;subst this;exact .gK λ_ h=>h
 | mp =>
  intro v F aY aH ρ';cases aY with
  | ref J=>simp [ab.isRef] at J
  | mp aX aq ar=>exact .imp (λ_ h=>h) (.inr (aH _ ((ar _).2 rfl))) aX aq
 | gm aq =>
  intro v F aY aH ρ';cases aY with
  | ref _ hr _ =>
   obtain ⟨⟨b,ar,rfl⟩,_⟩:=hr;obtain ⟨dK,cq,ij,dt,c_⟩:=h.part aq (by simp);rw [ar] at ij;cases ij;cases dt with
   | ref J=>simp [ab.isRef] at J
   | mp aX aq ar=>exact .imp (λ_ h=>h) (.inr ⟨_,c_ _ ((ar _).2 rfl)⟩) aX aq
 | self aC h1 af aE bm b7 =>
  intro v F aY aH ρ';refine ((aY.bn aC).oa λc aa=>.inl aa).empty ?_;cases aY with
  | mp=>exact absurd rfl (b7.1 _)
  | hY=>exact absurd rfl (b7.2 _ _)
  | lit _ aH | aS aH | dead aH | mv aH | ref _ _ aH | gK aH | bl aH | cx aH | cD aH | imp aH=>exact aH
  | own=>exact absurd rfl (h1 _ _ _)
  | obj=>exact absurd rfl (af _)
  | agg=>exact absurd rfl (aE _)
  | bR=>exact absurd rfl (bm _)
 | @agg cs cs' ah _ aO =>
  intro v F aY aH ρ';cases aY with
  | ref J=>simp [ab.isRef] at J
  | @agg _ vs bD _ hU h1 hr aQ me =>
   refine .agg (Fs:=λ_=>cg) (by rw [ah,hU]) h1 (λk y u ao hu=>?_) (λ_ _ _ _ _ h=>h.elim) (λc=>⟨λh=>h.elim,λ⟨_,_,h⟩=>h⟩);have hk:k<cs.length:=by rw [<- ah]; exact (List.getElem?_eq_some_iff.1 ao).1
   have J:=List.getElem?_eq_getElem hk;exact aO k _ y J ao (hr k _ u J hu) (λc aa=>aH c ((me c).2 ⟨k,hk,aa⟩)) ρ'
 | @cD fn cs cs' ah _ aO =>
  intro v F aY aH ρ';cases aY with
  | ref J=>simp [ab.isRef] at J
  | @cD _ _ _ v1 v2 _ mM h1 af i' hK =>
   refine .cD (λ_ h=>h) h1 (by rw [ah,af]) (λk x u J=>by simp at J) (λk y u ao hu=>?_);have hk:k<cs.length:=by rw [<- ah]; exact (List.getElem?_eq_some_iff.1 ao).1
   have J:=List.getElem?_eq_getElem hk;exact aO k _ y J ao (hK k _ u J hu) (λc aa=>aa.elim) ρ'
 | @own z n cs cs' ah _ aO =>
  intro v F aY aH ρ';obtain ⟨a,cap,us,bD,rfl,aC,hlen,aJ,aa⟩:=aY.An;cases a with
  | none =>
   have eY:cs=[]:=by
    cases cs with
    | nil=>rfl
    | cons c cs=>obtain ⟨b,ar,_⟩:=aa 0 c rfl; cases ar
   subst eY;have lX:cs'=[]:=List.eq_nil_of_length_eq_zero (by simpa using ah);subst lX;have mj:n=0:=by
    cases aY with
    | ref J=>simp [ab.isRef] at J
    | own aX =>
     obtain ⟨_,bO⟩:=aX;rcases bO with ⟨bO,aK⟩ | ⟨b,c2,cur,bO,_⟩
     ·exact aK
     ·cases bO
   subst mj;exact .gK λ_ h=>h
  | some ad =>
   obtain ⟨b,rfl,r7⟩:=aJ ad rfl;refine .bl (us:=us) (λ_ h=>h) aC (.inr (aH b r7)) rfl (by rw [ah,hlen]) (λk y ao=>?_) (λk y ao=>?_) λk y ao=>?_
   all_goals
    have hk:k<cs.length:=by rw [<- ah]; exact (List.getElem?_eq_some_iff.1 ao).1
    have J:=List.getElem?_eq_getElem hk;obtain ⟨dR,j7,h1,af,aE,bm⟩:=aa k _ J;cases j7
   ·exact af
   ·simpa using h1
   ·exact aO k _ y J ao aE (λc aa=>aH c (bm c aa)) ρ'
 | @obj cs cs' ah _ aO =>
  intro v F aY aH ρ';cases aY with
  | ref J=>simp [ab.isRef] at J
  | @obj _ b e arr bD _ aX hU h1 hr aQ ar me =>
   refine .cx (us:=λk=>arr.getD k undef) (λ_ h=>h) (.inr (aH b ((me b).2 (.inl rfl)))) rfl (λk y ao=>?_) (λk y ao=>?_) λk y ao=>?_
   all_goals
    have hk:k<cs.length:=by rw [<- ah]; exact (List.getElem?_eq_some_iff.1 ao).1
    have J:=List.getElem?_eq_getElem hk;have hu:arr[k]?=some arr[k]:=Array.getElem?_eq_getElem (hU ▸ hk)
   ·simpa [hu] using h1 k _ hu
   ·simp [World.cell?,aX,hu]
   ·simpa [hu] using aO k _ y J ao (hr k _ _ J hu) (λc aa=>aH c ((me c).2 (.inr ⟨k,hk,aa⟩))) ρ'
 | @a6 z n N p cs cs' aq aC ah _ aO =>
  intro v F aY aH ρ';obtain ⟨⟨a,kI,cap,h1,rfl,aE⟩,_⟩:=aY.n3;obtain ⟨qO,qW,gI,hJ,mN⟩:=h.part aq (by simp);rw [h1] at gI;cases gI;obtain ⟨a2,r2,us,bD,h',lW,hlen,aJ,aa⟩:=hJ.An;cases h';have hle:n * z<=N * z:=Nat.mul_le_mul_right _ aC;have cell:∀ k,k<cs'.length->∃ x b,(cs.take (n * z))[k]?=some x/\a=some ⟨b,0,none⟩/\w.cell? ⟨b,k,none⟩=some (us k)/\(us k).oneCell'=true/\R w I (dz w T g) x (us k) (bD k)/\∀ c,bD k c->qW c:=by
   intro k hk;rw [ah,List.length_take] at hk;have J:cs[k]?=some cs[k]:=List.getElem?_eq_getElem (by omega);obtain ⟨b,r⟩:=aa k _ J;exact ⟨_,b,by rw [List.getElem?_take,if_pos (by omega)]; exact J,r⟩
  cases a with
  | none =>
   have lX:cs'=[]:=by
    cases cs' with
    | nil=>rfl
    | cons c l=>obtain ⟨_,b,_,ar,_⟩:=cell 0 (by simp); cases ar
   subst lX;obtain ⟨_,_,h',_,_,_,sh⟩:=hJ.od;cases h';have mj:n=0:=by
    rcases Nat.eq_zero_or_pos n with aK | aK
    ·exact aK
    ·have:=sh (by omega); simp at this
   subst mj;exact .gK λ_ h=>h
  | some ad =>
   obtain ⟨b,rfl,r7⟩:=aJ ad rfl;refine .bl (us:=us) (λ_ h=>h) (by omega) (.inr ⟨_,mN b r7⟩) rfl (by rw [ah,List.length_take,hlen]; omega) (λk y ao=>?_) (λk y ao=>?_) λk y ao=>?_
   all_goals
    obtain ⟨x,dR,J,j7,bm,b7,dr,kN⟩:=cell k (List.getElem?_eq_some_iff.1 ao).1;cases j7
   ·exact b7
   ·simpa using bm
   ·exact aO k x y J ao dr (λc aa=>⟨_,mN c (kN c aa)⟩) ρ'
 | @sub z lo n N p cs cs' aq aC ah _ aO =>
  intro v F aY aH ρ';obtain ⟨⟨a,kI,cap,ca,nq,h1,rfl,J4,aE,b7⟩,_⟩:=aY.z6;obtain ⟨qO,qW,gI,hJ,mN⟩:=h.part aq (by simp);rw [h1] at gI;cases gI;obtain ⟨a2,r2,us,bD,h',lW,hlen,aJ,aa⟩:=hJ.An;cases h';have hle:lo * z+n * z<=N * z:=by rw [<- Nat.add_mul]; exact Nat.mul_le_mul_right _ aC
  have hU:cs'.length=n * z:=by rw [ah,List.length_take,List.length_drop,hlen]; omega
  have cell:∀ k,k<cs'.length->∃ x b,((cs.drop (lo * z)).take (n * z))[k]?=some x/\a=some ⟨b,0,none⟩/\w.cell? ⟨b,lo * z+k,none⟩=some (us (lo * z+k))/\(us (lo * z+k)).oneCell'=true/\R w I (dz w T g) x (us (lo * z+k)) (bD (lo * z+k))/\∀ c,bD (lo * z+k) c->qW c:=by
   intro k hk;have J:cs[lo * z+k]?=some cs[lo * z+k]:=List.getElem?_eq_getElem (by omega);obtain ⟨b,r⟩:=aa _ _ J;exact ⟨_,b,by rw [List.getElem?_take,if_pos (by omega),List.getElem?_drop]; exact J,r⟩
  by_cases mj:n=0
  ·subst mj;have lX:cs'=[]:=List.eq_nil_of_length_eq_zero (by simpa using hU);subst lX;exact .gK λ_ h=>h
  ·obtain ⟨ad,rfl,rfl⟩:=b7 (by omega);obtain ⟨b,rfl,r7⟩:=aJ ad rfl;refine .bl (us:=λk=>us (lo * z+k)) (λ_ h=>h) J4 (.inr ⟨_,mN b r7⟩) rfl hU (λk y ao=>?_) (λk y ao=>?_) λk y ao=>?_
   all_goals
    obtain ⟨x,dR,J,j7,bm,I6,dr,kN⟩:=cell k (List.getElem?_eq_some_iff.1 ao).1;cases j7
   ·exact I6
   ·simpa using bm
   ·exact aO k x y J ao dr (λc aa=>⟨_,mN c (kN c aa)⟩) ρ'
 | @ptr p k z n y cs cs' aq ao hk ah _ aO =>
  intro v F aY aH ρ';obtain ⟨⟨u,ad,h1,af,rfl⟩,_⟩:=aY.n4;obtain ⟨qO,qW,gI,hJ,mN⟩:=h.part aq (by rcases ao with rfl | rfl <;> simp);rw [h1] at gI;cases gI;have cell:∀ j,j<cs'.length->∃ gy lp wE,w.cell? ⟨ad.block,k+j,none⟩=some gy/\gy.oneCell'=true/\(cs.drop k)[j]?=some lp/\R w I (dz w T g) lp gy wE/\(∀ c,wE c->∃ t,Fs t c):=by
   intro j ag;rw [ah,List.length_drop] at ag;have fc:cs[k+j]?=some cs[k+j]:=List.getElem?_eq_getElem (by omega);obtain ⟨b,gy,fE,mP,nZ,hz,_⟩:=hJ.node ao fc;rw [af] at fE;cases fE;have fI:bE g (p.push (k+j))=some cs[k+j]:=by rw [tP,aq]; rcases ao with rfl | rfl <;> simp [ab.kids]
   by_cases gS:∃ bQ fG cm m' cO,cs[k+j]=.bI bQ fG cm m' cO
   ·obtain ⟨bQ,fG,cm,m',cO,gS⟩:=gS;obtain ⟨b,abh,_,_,Cm,_,bD,kp⟩:=hJ.node ao fc;rw [gS] at kp;exact kp.lD.elim
   ·obtain ⟨pw,HH,sj,Jg,me⟩:=h.part fI (λbQ fG cm m' cO e=>gS ⟨_,_,_,_,_,e⟩);rw [yI,h1] at sj;simp only [Option.bind_some] at sj;rw [nZ] at sj;cases sj;exact ⟨gy,_,HH,mP,hz,by rw [List.getElem?_drop]; exact fc,Jg,λc aa=>⟨_,me c aa⟩⟩
  obtain ⟨b,gy,fE,_⟩:=hJ.node ao (List.getElem?_eq_getElem hk);rw [af] at fE;cases fE;have hblk:∃ t,Fs t b:=⟨_,mN b (hJ.Gj ao af)⟩;refine .cx (us:=λj=>(w.cell? ⟨b,k+j,none⟩).getD undef) (λ_ h=>h) (.inr hblk) rfl (λj iS tf=>?_) (λj iS tf=>?_) λj iS tf=>?_
  all_goals
   obtain ⟨gy,lp,wE,c1,c2,kK,c4,jH⟩:=cell j (List.getElem?_eq_some_iff.1 tf).1
  ·simpa [c1] using c2
  ·simp [c1]
  ·simpa [c1] using aO j lp iS kK tf c4 jH ρ'
 | @rows z n p cs cs' aq ah _ aO =>
  intro v F aY aH ρ';obtain ⟨a,kI,cap,h1,rfl,aE⟩:=aY.n3.1;obtain ⟨v0,e,us,ky,aX,hlen,jr,ar,hr⟩:=Rows.sound (w:=w) (I:=I) (T:=T) (Fs:=Fs) (λt z q n m new au=>h.rel t _ au) (λp z n cs aq=>h.part aq (by simp)) (λz p n v hv=>by obtain ⟨⟨a,cap,h1,rfl⟩,_⟩:=hv; exact h1) aq;rw [h1] at ky;cases ky;refine QI aX hlen jr ar ah λk x y u J ao hu=>?_;obtain ⟨bD,kp,eE⟩:=hr k x u J hu;exact aO k x y J ao kp eE ρ'
end
def sV (args:List ab):aM:=λt=>args[t]?
def kS (outs:List (Option ab)) (res:ab):aM:=λt=>if t=outs.length then some res else (outs[t]?).join
structure k3 (w:World) (I U:a') (w':World) (I' ET:a'):Prop where
 dM:Fr w w' U
 more:∀ c,I c->I' c
 new:∀ c,I' c->I c\/U c\/w.heap.size<=c
 own:∀ c,ET c->U c\/w.heap.size<=c
def bS (P:Program) (f:FuncId) (args:List ab) (outs:List (Option ab)) (res:ab):Prop :=
 outs.length=args.length/\∀ (w:World) (I:a') (vs:List Value) (Fs:Nat->a'),vs.length=args.length->cB w I vs.toArray (sV args) Fs ->
  Calls P f vs.toArray w λe w'=>∃ v I' bW,e=.returned v/\cB w' I' (vs++[v]).toArray (kS outs res) bW/\k3 w I (λc=>∃ t,Fs t c) w' I' (λc=>∃ t,bW t c)
def hG (P:Program) (f:FuncId):Bool :=
 match P.funcs[f]? with
 | some fn => fn.name != "runtime.NumGoroutine" && fn.body.isSome
 | none=>false
inductive cp (P:Program) (g:aM):Op->ab->Prop
 | plain {c:Operand}{xs:Array Operand}{fR:Array TypeId}{f:FuncId}{first caps ys:List ab}{res:ab}(aa:bs g c=some (.cD (.func f) first caps)) (J:hn g xs.toList=some ys) (aU:hG P f=true)
   (aC:∀ y∈first++ys++caps,cG y) (hj:bS P f (first++ys++caps) ((first++ys++caps).map λ_=>none) res) (hr:cG res):cp P g (.call { callee:=.value c,args:=xs,argTypes:=fR }) res
 | F7 {c:Operand}{xs:Array Operand}{fR:Array TypeId}{f:FuncId}{first caps ys args:List ab}{res:ab}(aa:bs g c=some (.cD (.func f) first caps)) (J:hn g xs.toList=some ys) (aU:hG P f=true)
   (ah:args.length=(first++ys++caps).length) (hv:∀ (k:Nat) (x y:ab),(first++ys++caps)[k]?=some x->args[k]?=some y->View g x y) (hj:bS P f args (args.map λ_=>none) res) (hr:j1 res) :
   cp P g (.call { callee:=.value c,args:=xs,argTypes:=fR }) res
 | cl {x:Operand}{fR:Array TypeId}{f:FuncId}{y:ab}{z n:Nat}{cells:List ab}(J:bs g x=some y) (oI:Src g y z n cells) (aW:0<z) (aU:hG P f=true) (mQ:∀ c∈cells,cG c) (xj:n<=1000000000000)
   (aa:∀ (w:World) (ad:Addr) (n c:Nat) (news:List Value),news.length=n * z->n<=1000000000000->(∀ j u,news[j]?=some u->w.cell? (ad.add j)=some u)->(∀ u∈news,u.oneCell'=true) ->
    Calls P f #[.slice (some ad) n c] w λb5 w'=>∃ dK t,b5=.returned dK/\w'.ownsRow 0 t z dK n news/\(∀ c,dK.ownBlock=some c->w.heap.size<=c)/\Fr w w' λ_=>False)
   (aC:∀ (w:World) (n c:Nat),Calls P f #[.slice none n c] w λb5 w'=>b5=.returned (.slice none 0 0)/\w'=w):cp P g (.call { callee:=.value (.func f),args:=#[x],argTypes:=fR }) (.own z n cells)
section
variable {P:Program}{w:World}{I:a'}{T:Array Value}{g:aM}{Fs:Nat->a'}
theorem zs {f:FuncId}(h:hG P f=true) (args:Array Value):(callFunc f args).run P w=.ok (.enter f args) w:=by
 unfold hG at h;cases aU:P.funcs[f]? with
 | none=>simp [aU] at h
 | some fn =>
  simp [aU] at h;obtain ⟨h1,af⟩:=h;cases ar:fn.body with
  | none=>simp [ar] at af
  | some c=>simp [callFunc,aU,h1,ar]
theorem Ip (h:cB w I T g Fs) {a:Act}(aJ:a.tmps=T) {c:Operand}{xs:Array Operand}{f:FuncId}{first caps ys:List ab}(aa:bs g c=some (.cD (.func f) first caps)) (J:hn g xs.toList=some ys) :
  ∃ v1 v2:Array Value,a.eval c=.func (.func f) v1 v2/\(first++ys++caps).length=(v1++xs.map a.eval++v2).toList.length /\
   ∀ (k:Nat) (x:ab) (u:Value),(first++ys++caps)[k]?=some x->(v1++xs.map a.eval++v2).toList[k]?=some u->R w I (dz w T g) x u cg:=by
 have zC:=kd h aa aJ;obtain ⟨ah,hr⟩:=Al h aJ J;generalize vv:a.eval c=ae4 at zC;cases zC with
 | ref J=>simp [ab.isRef] at J
 | @cD _ _ _ v1 v2 _ _ h1 af i' hK =>
  have hlen:xs.size=ys.length:=by rw [<- Array.length_toList,ah]
  refine ⟨v1,v2,rfl,by simp [h1,af,hlen],λk x u qC pQ=>?_⟩;simp only [Array.toList_append,Array.toList_map] at pQ;by_cases gz:k<first.length
  ·rw [List.append_assoc,List.getElem?_append_left gz] at qC;rw [List.append_assoc,List.getElem?_append_left (by simp; omega)] at pQ;exact i' k x u qC (by simpa using pQ)
  ·rw [List.append_assoc,List.getElem?_append_right (by omega)] at qC;rw [List.append_assoc,List.getElem?_append_right (by simp; omega)] at pQ;simp only [Array.length_toList,<- h1] at pQ;by_cases fF:k - first.length<ys.length
   ·rw [List.getElem?_append_left fF] at qC;rw [List.getElem?_append_left (by simp; omega),List.getElem?_map] at pQ;cases Ku:xs.toList[k - first.length]? with
    | none=>rw [Ku] at pQ; cases pQ
    | some o=>rw [Ku] at pQ; cases pQ; exact hr _ x o qC Ku
   ·rw [List.getElem?_append_right (by omega)] at qC;rw [List.getElem?_append_right (by simp; omega)] at pQ;simp only [List.length_map,Array.length_toList] at pQ;rw [hlen] at pQ;exact hK _ x u qC (by simpa using pQ)
theorem cB.args {I':a'}(h:cB w I T g Fs) (oD:∀ c,I c->I' c) (bc:∀ c,I' c->I c\/∃ t,Fs t c) {args:List ab}{vs:List Value}(ah:args.length=vs.length)
  (hr:∀ (ρ':ab->Value->Prop) (k:Nat) (x:ab) (u:Value),args[k]?=some x->vs[k]?=some u->R w I' ρ' x u cg):cB w I' vs.toArray (sV args) (λ_=>cg):=by
 refine ⟨λt x J=>?_,λ_ _ _ h=>h,λ_ _ _ h=>h.elim,λ_ _ h=>h.elim,λc aa=>?_,λt t' z p n m new bQ cm m' cO h1 af=>?_,cF.keep h.hW (λ_ _=>rfl) oD⟩
 ·have au:t<args.length:=(List.getElem?_eq_some_iff.1 J).1;have hu:vs[t]?=some vs[t]:=List.getElem?_eq_getElem (ah ▸ au);exact ⟨vs[t],by rw [List.getElem?_toArray]; exact hu,.tree (hr _ t x _ J hu)⟩
 ·rcases bc c aa with aI | ⟨t,aI⟩
  ·exact h.lt c aI
  ·exact h.jc t c aI
 ·have au:t<args.length:=(List.getElem?_eq_some_iff.1 h1).1;exact (hr (λ_ _=>False) t _ _ h1 (List.getElem?_eq_getElem (ah ▸ au))).lD.elim
theorem cp.sound (h:cB w I T g Fs) {a:Act}(aJ:a.tmps=T) {o:Oper}{kY:ab}(aq:cp P g o.op kY) {K:Act->World->Prop}{Q:Exit->Act->World->Prop}
  (c5:∀ v w',tC w I T g Fs kY v w'->K (a.put o.dst v) w'):o.wp P a w K Q:=by
 obtain ⟨dst,op,ty,pos,after,guard⟩:=o;simp only at aq c5;have Dh:cG kY->∀ z p n m new,kY=.bI z p n m new->∀ t bQ cm m' cO,g t≠some (.bI bQ p cm m' cO):=by
  rintro aC z p n m new rfl;cases aC
 have last:∀ {args:List ab}{res:ab}{v:Value}{vs:List Value}{w':World}{I':a'}{bW:Nat->a'},vs.length=args.length->cB w' I' (vs++[v]).toArray (kS (args.map λ_=>none) res) bW->jF w' I' (dz w' (vs++[v]).toArray (kS (args.map λ_=>none) res)) res v (bW args.length)/\∀ t,t≠args.length->∀ c,¬ bW t c:=by
  intro args res v vs w' I' bW ah bf;constructor
  ·obtain ⟨u,hu,aY⟩:=bf.rel args.length res (by simp [kS]);have:u=v:=by
    rw [<- ah] at hu;simpa using hu.symm
   subst this; exact aY
  ·intro t au c aa;refine bf.lh t ?_ c aa;have rp:t≠(args.map λ_=>(none:Option ab)).length:=by simpa using au
   simp only [kS,if_neg rp,List.getElem?_map];cases args[t]? <;> rfl
 cases aq with
 | @cl x fR f y z n cells J oI aW aU mQ xj aa aC =>
  obtain ⟨yx,wq,news,rn,ah,xA,xB,eY⟩:=oI.sound h (kd h J aJ);have hA:∀ dst ty pos after guard,(execOp a.eval ⟨dst,.call { callee:=.value (.func f),args:=#[x],argTypes:=fR },ty,pos,after,guard⟩).run P w=.ok (.enter f #[a.eval x]) w:=by
   intro dst ty pos after guard;simp [execOp,resolve,Deferred.ofValue,Act.eval,invoke,zs aU]
  have fin:∀ (w':World) (v:Value) (t:TypeId),w'.ownsRow 0 t z v n news->(∀ c,v.ownBlock=some c->w.heap.size<=c)->Fr w w' (λ_=>False)->tC w I T g Fs (.own z n cells) v w':=by
   intro w' v t aX ar kx;have CI:∀ c,c<w.heap.size->w'.heap[c]?=w.heap[c]?:=λc aa=>kx.block c aa λh=>h;have B_:=h.world (w':=w') (λt c aa=>CI c (h.jc t c aa)) (λc aa=>CI c (h.lt c aa)) kx.size;refine ⟨λc=>v.ownBlock=some c,I,B_,.tree (.own (Fs:=λ_=>cg) aX eY.1 eY.2.1 (λk x u J hu=>?_) (λ_ _ _ _ _ h=>h.elim) (λ_ _ _ h=>h.elim) (λc=>⟨.inl,λh=>h.elim id λ⟨_,_,h⟩=>h.elim⟩)),λt c aa aU=>?_,λc aa=>⟨ar c aa,λhi=>?_⟩,λ_ h=>h,λ_ h=>.inl h,kx.mono λ_ _ h=>h.elim,λbQ Le cm m' cO he=>by cases he⟩
   ·exact (((eY.2.2 k x u J hu).bn (mQ x (List.mem_of_getElem? J))).frame (λc aa=>CI c (h.lt c aa)) (λ_ h=>h) λ_ _ h=>h) λc aa=>aa.elim
   ·have:=ar c aa; have:=h.jc t c aU; omega
   ·have:=ar c aa; have:=h.lt c hi; omega
  unfold Oper.wp Oper.upon;simp only [hA];rw [rn];cases yx with
  | none =>
   refine (aC w _ wq).mono ?_;rintro b5 w' ⟨rfl,rfl⟩;have aK:n=0:=by
    by_cases pP:0<n
    ·have:=xA pP aW; cases this
    ·omega
   exact c5 _ _ (fin w' _ 0 ⟨ah,.inl ⟨rfl,aK⟩⟩ (λc aa=>by cases aa) (Fr.refl _ _))
  | some ad =>
   refine (aa w ad _ wq news ah xj (λj u ag=>xB ad rfl j u ag) λu hu=>by
    obtain ⟨j,ag⟩:=List.getElem?_of_mem hu;exact eY.2.1 j u ag).mono ?_
   rintro b5 w' ⟨dK,t,rfl,ml,ar,kx⟩;exact c5 _ _ (fin w' dK t ml ar kx)
 | @plain c xs fR f first caps ys _ aa J aU aC hj hr =>
  obtain ⟨v1,v2,vv,ah,qt⟩:=Ip h aJ aa J;have hA:(execOp a.eval { dst:=dst,op:=.call { callee:=.value c,args:=xs,argTypes:=fR },type:=ty,pos:=pos,after:=after,guard:=guard }).run P w=.ok (.enter f (v1++xs.map a.eval++v2)) w:=by
   simp [execOp,resolve,Deferred.ofValue,vv,invoke,zs aU]
  have bf:=h.args (I':=I) (λ_ h=>h) (λc aa=>.inl aa) ah λρ' k x u J hu=>(qt k x u J hu).bn (aC x (List.mem_of_getElem? J));have pK:=hj.2 w I (v1++xs.map a.eval++v2).toList _ ah.symm bf;unfold Oper.wp Oper.upon;simp only [hA];rw [Array.toArray_toList] at pK;refine Calls.mono pK ?_;rintro e w' ⟨v,I',bW,rfl,d',bU⟩;obtain ⟨zU,eN⟩:=last ah.symm d';have kx:Fr w w' (λ_=>False):=bU.dM.mono λb _ ⟨_,ar⟩=>ar;refine c5 v w' ⟨bW (first++ys++caps).length,I',?_,?_,?_,?_,bU.more,?_,kx.mono λ_ _ h=>h.elim,Dh hr⟩
  ·have:=h.world (w':=w') (λt c aa=>kx.block c (h.jc t c aa) (λh=>h)) (λc aa=>kx.block c (h.lt c aa) λh=>h) kx.size;refine ⟨λt x J=>?_,this.lh,this.ec,λt c aa hi=>?_,d'.lt,this.rF,d'.hW⟩
   ·obtain ⟨v,hv,aY⟩:=this.rel t x J;exact ⟨v,hv,aY.frame (λ_ _=>rfl) bU.more (λ_ _ h=>h) (λ_ _ _ _ _ _ _=>rfl) λ_ _=>rfl⟩
   ·rcases bU.new c hi with aI | ⟨_,aI⟩ | aI
    ·exact h.bl t c aa aI
    ·exact aI
    ·have:=h.jc t c aa; omega
  ·exact .tree ((zU.gw (by rintro z p n m new rfl; cases hr)).bn hr)
  ·intro t c aa vy;rcases bU.own c ⟨_,aa⟩ with ⟨_,aI⟩ | aI
   ·exact aI
   ·have:=h.jc t c vy; omega
  ·intro c aa;rcases bU.own c ⟨_,aa⟩ with ⟨_,aI⟩ | aI
   ·exact aI.elim
   ·exact ⟨aI,d'.bl _ c aa⟩
  ·intro c aa;rcases bU.new c aa with aI | ⟨_,aI⟩ | aI
   ·exact .inl aI
   ·exact aI.elim
   ·exact .inr aI
 | @F7 c xs fR f first caps ys args _ aa J aU ui hv hj hr =>
  obtain ⟨v1,v2,vv,ah,qt⟩:=Ip h aJ aa J;have hA:(execOp a.eval { dst:=dst,op:=.call { callee:=.value c,args:=xs,argTypes:=fR },type:=ty,pos:=pos,after:=after,guard:=guard }).run P w=.ok (.enter f (v1++xs.map a.eval++v2)) w:=by
   simp [execOp,resolve,Deferred.ofValue,vv,invoke,zs aU]
  have hU:args.length=(v1++xs.map a.eval++v2).toList.length:=by rw [ui,ah]
  have bf:=h.args (I':=λc=>I c\/∃ t,Fs t c) (λ_ h=>.inl h) (λc aa=>aa) hU λρ' k x u J hu=>by
   have hk:k<(first++ys++caps).length:=by rw [<- ui]; exact (List.getElem?_eq_some_iff.1 J).1
   have ix:=List.getElem?_eq_getElem hk;exact (hv k _ x ix J).sound h (qt k _ u ix hu) (λ_ h=>h.elim) ρ'
  have pK:=hj.2 w _ (v1++xs.map a.eval++v2).toList _ hU.symm bf;unfold Oper.wp Oper.upon;simp only [hA];rw [Array.toArray_toList] at pK;refine Calls.mono pK ?_;rintro e w' ⟨v,I',bW,rfl,d',bU⟩;obtain ⟨zU,eN⟩:=last hU.symm d';have kx:Fr w w' (λ_=>False):=bU.dM.mono λb _ ⟨_,ar⟩=>ar;refine c5 v w' ⟨bW args.length,I,?_,?_,?_,?_,λ_ h=>h,λ_ h=>.inl h,kx.mono λ_ _ h=>h.elim,Dh hr.bn⟩
  ·exact h.world (w':=w') (λt c aa=>kx.block c (h.jc t c aa) (λh=>h)) (λc aa=>kx.block c (h.lt c aa) λh=>h) kx.size
  ·exact .tree ((zU.gw (by rintro z p n m new rfl; cases hr)).l3 hr)
  ·intro t c aa vy;rcases bU.own c ⟨_,aa⟩ with ⟨_,aI⟩ | aI
   ·exact aI
   ·have:=h.jc t c vy; omega
  ·intro c aa;rcases bU.own c ⟨_,aa⟩ with ⟨_,aI⟩ | aI
   ·exact aI.elim
   ·exact ⟨aI,λhi=>by have:=h.lt c hi; omega⟩
end
structure jG (w:World) (I:a') (T:Array Value) (g:aM) (Fs:Nat->a'):Prop where
 rel:∀ t x,g t=some x->∃ v,T[t]?=some v/\jF w I (fp w T) x v (Fs t)
 lh:∀ t,g t=none->∀ c,¬ Fs t c
 ec:∀ t t' c,Fs t c->Fs t' c->t=t'
 bl:∀ t c,Fs t c->¬ I c
 lt:∀ c,I c->c<w.heap.size
 hW:cF.q w I
def ct (g:aM) (p:Place) (y:ab):aM:=λt=>if t=p.root then (g t).map λx=>x.setAt p.path y else g t
inductive cW (g:aM):ab->Prop
 | bn {x:ab}(h:cG x):cW g x
 | ref {x:ab}(J:x.isRef=true) (h:gE g x):cW g x
 | own {z n:Nat}{cs:List ab}(h:∀ x∈cs,cW g x):cW g (.own z n cs)
 | obj {cs:List ab}(h:∀ x∈cs,cW g x):cW g (.obj cs)
 | agg {cs:List ab}(h:∀ x∈cs,cW g x):cW g (.agg cs)
 | bR {cs:List ab}(h:∀ x∈cs,cW g x):cW g (.bR cs)
 | cD {fn:Fn}{a b:List ab}(h1:∀ x∈a,cW g x) (af:∀ x∈b,cW g x):cW g (.cD fn a b)
 | bI {z n m:Nat}{p:Place}{new:List ab}(aq:gE g (.bI z p n 0 [])) (h:∀ x∈new,cW g x):cW g (.bI z p n m new)
section
variable {w:World}{I:a'}{T:Array Value}{g:aM}{Fs:Nat->a'}
theorem R.b0 {x:ab}{v:Value}{F:a'}(h:R w I (fp w T) x v F):cW g x->R w I (dz w T g) x v F:=by
 induction h with
 | lit h aH=>exact λ_=>.lit h aH
 | aS aH=>exact λ_=>.aS aH
 | dead aH=>exact λ_=>.dead aH
 | mv aH=>exact λ_=>.mv aH
 | @ref x _ _ J h aH =>
  intro hk;refine .ref J ⟨h,?_⟩ aH;cases hk with
  | ref _ h=>exact h
  | bn h=>cases h <;> simp [ab.isRef] at J
  | _=>simp [ab.isRef] at J
 | gK aH=>exact λ_=>.gK aH
 | mp aX aq aH=>exact λ_=>.mp aX aq aH
 | hY aX h1 aH=>exact λ_=>.hY aX h1 aH
 | imp aH bc aX aq=>exact λ_=>.imp aH bc aX aq
 | bl aH lW bc av ah h1 aa hr aO =>
  intro hk;cases hk with
  | ref J=>simp [ab.isRef] at J
  | bn h=>cases h with | bl h=>exact .bl aH lW bc av ah h1 aa λk x J=>aO k x J (.bn (h x (List.mem_of_getElem? J)))
 | cx aH bc av h1 aa hr aO =>
  intro hk;cases hk with
  | ref J=>simp [ab.isRef] at J
  | bn h=>cases h with | cx h=>exact .cx aH bc av h1 aa λk x J=>aO k x J (.bn (h x (List.mem_of_getElem? J)))
 | own aX ah h1 hr aQ ar aH aO =>
  intro hk;refine .own aX ah h1 (λk x u J hu=>aO k x u J hu ?_) aQ ar aH;cases hk with
  | ref J=>simp [ab.isRef] at J
  | bn h=>cases h with | own h=>exact .bn (h x (List.mem_of_getElem? J))
  | own h=>exact h x (List.mem_of_getElem? J)
 | obj aX ah h1 hr aQ ar aH av aO =>
  intro hk;refine .obj aX ah h1 (λk x u J hu=>aO k x u J hu ?_) aQ ar aH av;cases hk with
  | ref J=>simp [ab.isRef] at J
  | bn h=>cases h with | obj h=>exact .bn (h x (List.mem_of_getElem? J))
  | obj h=>exact h x (List.mem_of_getElem? J)
 | agg ah h1 hr aQ aH aO =>
  intro hk;refine .agg ah h1 (λk x u J hu=>aO k x u J hu ?_) aQ aH;cases hk with
  | ref J=>simp [ab.isRef] at J
  | bn h=>cases h with | agg h=>exact .bn (h x (List.mem_of_getElem? J))
  | agg h=>exact h x (List.mem_of_getElem? J)
 | bR ah hr aQ aH aO =>
  intro hk;refine .bR ah (λk x u J hu=>aO k x u J hu ?_) aQ aH;cases hk with
  | ref J=>simp [ab.isRef] at J
  | bn h=>cases h with | bR h=>exact .bn (h x (List.mem_of_getElem? J))
  | bR h=>exact h x (List.mem_of_getElem? J)
 | @cD fn first caps v1 v2 F aH h1 af i' hK gj fV =>
  intro hk;have:(∀ x∈first,cW g x)/\∀ x∈caps,cW g x:=by
   cases hk with
   | ref J=>simp [ab.isRef] at J
   | bn h=>cases h with | cD h1 af=>exact ⟨λx J=>.bn (h1 x J),λx J=>.bn (af x J)⟩
   | cD h1 af=>exact ⟨h1,af⟩
  exact .cD aH h1 af (λk x u J hu=>gj k x u J hu (this.1 x (List.mem_of_getElem? J))) (λk x u J hu=>fV k x u J hu (this.2 x (List.mem_of_getElem? J)))
theorem jF.b0 {x:ab}{v:Value}{F:a'}(h:jF w I (fp w T) x v F) (hk:cW g x):jF w I (dz w T g) x v F:=by
 cases h with
 | tree h=>exact .tree (h.b0 hk)
 | bI h =>
  cases hk with
  | bn h=>cases h
  | ref J=>simp [ab.isRef] at J
  | bI aq aC=>exact .bI ⟨⟨h.ju,aq⟩,h.kP,h.mT,h.ah,h.h1,λk x u J hu=>(h.hr k x u J hu).b0 (aC x (List.mem_of_getElem? J)),h.aH⟩
theorem cB.mZ (h:cB w I T g Fs):jG w I T g Fs :=
  ⟨λt x J=>by
    obtain ⟨v,hv,aY⟩:=h.rel t x J;refine ⟨v,hv,?_⟩;cases aY with
    | tree aY=>exact .tree (aY.frame (λ_ _=>rfl) (λ_ h=>h) (λ_ _ h=>h.1) λ_ _=>rfl)
    | bI aY=>exact .bI ⟨aY.ju.1,aY.kP,aY.mT,aY.ah,aY.h1,λk x u J hu=>(aY.hr k x u J hu).frame (λ_ _=>rfl) (λ_ h=>h) (λ_ _ h=>h.1) λ_ _=>rfl,aY.aH⟩,
   h.lh,h.ec,h.bl,h.lt,h.hW⟩
theorem jG.aa_ (h:jG w I T g Fs) {g':aM}(aN:∀ t x,g' t=some x->g t=some x) (hk:∀ t x,g' t=some x->cW g' x)
  (aq:∀ t t' z p n m new bQ cm m' cO,g' t=some (.bI z p n m new)->g' t'=some (.bI bQ p cm m' cO)->t=t'):cB w I T g' (λt c=>g' t≠none/\Fs t c):=by
 refine ⟨λt x J=>?_,λt au c aa=>aa.1 au,λt t' c aa et=>h.ec t t' c aa.2 et.2,λt c aa=>h.bl t c aa.2,h.lt,aq,h.hW⟩;obtain ⟨v,hv,aY⟩:=h.rel t x (aN t x J);have:Fs t=λc=>g' t≠none/\Fs t c:=by
  funext c;exact propext ⟨λaa=>⟨by rw [J]; simp,aa⟩,λaa=>aa.2⟩
 refine ⟨v,hv,?_⟩;rw [<- this];exact aY.b0 (hk t x J)
theorem jG.part (h:jG w I T g Fs) {p:Place}{y:ab}(aq:bE g p=some y) (ao:∀ z q n m new,y≠.bI z q n m new):∃ v cq,dy w T p=some v/\R w I (fp w T) y v cq/\(∀ c,cq c->Fs p.root c) /\
  ∀ (y':ab) (jh:a'),R w I (fp w T) y' v jh->(∀ c,jh c->Fs p.root c->cq c)->(∀ c,jh c->¬ I c)->(∀ t c,t≠p.root->jh c->¬ Fs t c)->(∀ j,y'=.self j->y=.self j) ->
   ∃ bW,jG w I T (ct g p y') bW/\(∀ c,bW p.root c↔(Fs p.root c/\¬ cq c)\/jh c)/\∀ t,t≠p.root->bW t=Fs t:=by
 unfold bE at aq;cases J:g p.root with
 | none=>rw [J] at aq; cases aq
 | some x =>
  rw [J] at aq;obtain ⟨v,hv,aY⟩:=h.rel _ _ J;replace aY:=aY.gw (by
   rintro z q n m new rfl;exact ao _ _ _ _ _ (ab.sX aq).2)
  obtain ⟨h4,cq,hw,dt,c_,eP,kD⟩:=R.focus p.path aY aq;refine ⟨h4,cq,by simp [dy,hv,hw],dt,c_,λy' jh iL nx bc OT ly=>?_⟩;obtain ⟨cU,B8,oC⟩:=kD w I (fp w T) y' jh ⟨λ_ _=>rfl,λ_ _ _=>rfl,λ_ h=>h,λ_ _ h=>h⟩ iL nx ly;refine ⟨λt=>if t=p.root then cU else Fs t,⟨λt x' fc=>?_,λt au c=>?_,λt t' c aa et=>?_,λt c aa=>?_,h.lt,h.hW⟩,λc=>by simp [oC c],λt au=>by simp [au]⟩
  ·by_cases hV:t=p.root
   ·subst hV;have X4:x.setAt p.path y'=x':=by simpa [ct,J] using fc
    subst X4;exact ⟨v,hv,.tree (by simpa using B8)⟩
   ·simp only [ct,if_neg hV] at fc;simpa [hV] using h.rel t x' fc
  ·by_cases hV:t=p.root
   ·subst hV; simp [ct,J] at au
   ·simp only [ct,if_neg hV] at au; simpa [hV] using h.lh t au c
  ·by_cases h1:t=p.root <;> by_cases af:t'=p.root <;> simp only [h1,af,if_true,if_false] at aa et
   ·rw [h1,af]
   ·rcases (oC c).1 aa with ⟨aE,_⟩ | aE
    ·rw [h1]; exact h.ec _ _ _ aE et
    ·exact absurd et (OT t' c af aE)
   ·rcases (oC c).1 et with ⟨aE,_⟩ | aE
    ·rw [af]; exact h.ec _ _ _ aa aE
    ·exact absurd aa (OT t c h1 aE)
   ·exact h.ec _ _ _ aa et
  ·by_cases h1:t=p.root <;> simp only [h1,if_true,if_false] at aa
   ·rcases (oC c).1 aa with ⟨aE,_⟩ | aE
    ·exact h.bl _ c aE
    ·exact bc c aE
   ·exact h.bl t c aa
end
inductive Take:aM->List ab->List ab->aM->Prop
 | bn {g:aM}{xs:List ab}(h:∀ x∈xs,cG x):Take g xs xs g
 | cons {g g':aM}{x:ab}{xs xs':List ab}(h:cG x) (au:Take g xs xs' g'):Take g (x::xs) (x::xs') g'
 | a6 {g g1 g':aM}{z n N:Nat}{p:Place}{cs cs' xs xs':List ab}(aq:bE g p=some (.own z N cs)) (aC:n<=N) (h1:Take (ct g p .dead) (cs.take (n * z)) cs' g1) (af:Take g1 xs xs' g') :
   Take g (.a6 z p n::xs) (.own z n cs'::xs') g'
 | bI {g g1 g':aM}{z n m t:Nat}{q:Place}{cs new cs' xs xs':List ab}(au:g t=some (.bI z q n m new)) (aq:bE g q=some (.own z n cs)) (a_:q.root≠t) (h1:Take (ct (ct g ⟨t,[]⟩ .dead) q .dead) (cs++new) cs' g1) (af:Take g1 xs xs' g') :
   Take g (.a6 z ⟨t,[]⟩ (n+m)::xs) (.own z (n+m) cs'::xs') g'
 | Ao {g g1 g':aM}{z n m t ob m2 t2:Nat}{q:Place}{cs new Af cs' xs xs':List ab}(au:g t=some (.bI z ⟨t2,[]⟩ n m new)) (O3:g t2=some (.bI z q ob m2 Af)) (aC:n=ob+m2) (aq:bE g q=some (.own z ob cs)) (a_:q.root≠t) (rl:q.root≠t2) (XS:t≠t2)
   (h1:Take (ct (ct (ct g ⟨t,[]⟩ .dead) ⟨t2,[]⟩ .dead) q .dead) (cs++Af++new) cs' g1) (af:Take g1 xs xs' g') :
   Take g (.a6 z ⟨t,[]⟩ (n+m)::xs) (.own z (n+m) cs'::xs') g'
 | obj {g g1 g':aM}{p:Place}{cs cs' xs xs':List ab}(aq:bE g p=some (.obj cs)) (h1:Take (ct g p .dead) cs cs' g1) (af:Take g1 xs xs' g'):Take g (.ptr p 0::xs) (.obj cs'::xs') g'
 | mp {g g1 g':aM}{p:Place}{q:Array MapEntry->Nat->Prop}{xs xs':List ab}(aq:bE g p=some (.mp q)) (h1:Take (ct g p .dead) [] [] g1) (af:Take g1 xs xs' g'):Take g (.gm p::xs) (.mp q::xs') g'
 | agg {g g1 g':aM}{cs cs' xs xs':List ab}(h1:Take g cs cs' g1) (af:Take g1 xs xs' g'):Take g (.agg cs::xs) (.agg cs'::xs') g'
 | bR {g g1 g':aM}{cs cs' xs xs':List ab}(h1:Take g cs cs' g1) (af:Take g1 xs xs' g'):Take g (.bR cs::xs) (.bR cs'::xs') g'
structure Hand (w:World) (I:a') (ρ:ab->Value->Prop) (Fs:Nat->a') (xs:List ab) (vs:List Value) (dm:Nat->a'):Prop where
 len:xs.length=vs.length
 rel:∀ (k:Nat) (x:ab) (u:Value),xs[k]?=some x->vs[k]?=some u->R w I ρ x u (dm k)
 ec:∀ (j k c:Nat),j<xs.length->k<xs.length->dm j c->dm k c->j=k
 off:∀ (k t c:Nat),k<xs.length->dm k c->¬ Fs t c
 bl:∀ (k c:Nat),k<xs.length->dm k c->¬ I c
def lI (Fs:Nat->a') (n:Nat) (dm:Nat->a'):a':=λc=>(∃ t,Fs t c)\/∃ k,k<n/\dm k c
section
variable {w:World}{I:a'}{T:Array Value}
theorem Take.length {g g':aM}{xs xs':List ab}(h:Take g xs xs' g'):xs'.length=xs.length:=by
 induction h with
 | bn=>rfl
 | cons _ _ aO=>simp [aO]
 | a6 _ _ _ _ _ aO=>simp [aO]
 | bI _ _ _ _ _ _ aO=>simp [aO]
 | Ao _ _ _ _ _ _ _ _ _ _ aO=>simp [aO]
 | obj _ _ _ _ aO=>simp [aO]
 | mp _ _ _ _ aO=>simp [aO]
 | agg _ _ _ aO=>simp [aO]
 | bR _ _ _ aO=>simp [aO]
theorem Take.self {g g':aM}{xs xs':List ab}(h:Take g xs xs' g'):∀ (k:Nat) (j:Nat × Nat),xs'[k]?=some (.self j)->xs[k]?=some (.self j):=by
 have step:∀ {x x':ab}{xs xs':List ab},(∀ j,x'=.self j->x=.self j)->(∀ (k:Nat) (j:Nat × Nat),xs'[k]?=some (.self j)->xs[k]?=some (.self j))->∀ (k:Nat) (j:Nat × Nat),(x'::xs')[k]?=some (.self j)->(x::xs)[k]?=some (.self j):=by
  intro x x' xs xs' h1 af k j h;cases k with
  | zero=>simp only [List.getElem?_cons_zero,Option.some.injEq] at h ⊢; exact h1 j h
  | succ k=>exact af k j h
 induction h with
 | bn=>exact λ_ _ h=>h
 | cons _ _ aO=>exact step (λ_ h=>h) aO
 | a6 _ _ _ _ _ aO=>exact step (λ_ h=>by cases h) aO
 | bI _ _ _ _ _ _ aO=>exact step (λ_ h=>by cases h) aO
 | Ao _ _ _ _ _ _ _ _ _ _ aO=>exact step (λ_ h=>by cases h) aO
 | obj _ _ _ _ aO=>exact step (λ_ h=>by cases h) aO
 | mp _ _ _ _ aO=>exact step (λ_ h=>by cases h) aO
 | agg _ _ _ aO=>exact step (λ_ h=>by cases h) aO
 | bR _ _ _ aO=>exact step (λ_ h=>by cases h) aO
theorem Take.Dm {g g':aM}{xs xs':List ab}(h:Take g xs xs' g') (aX:∀ x∈xs,sT x):∀ x∈xs',sT x:=by
 induction h with
 | bn=>exact aX
 | cons _ _ aO =>
  intro x J;rcases List.mem_cons.1 J with rfl | J
  ·exact aX _ (by simp)
  ·exact aO (λx h=>aX x (by simp [h])) x J
 | a6 _ _ _ _ _ aO | bI _ _ _ _ _ _ aO | Ao _ _ _ _ _ _ _ _ _ _ aO | obj _ _ _ _ aO | mp _ _ _ _ aO | bR _ _ _ aO =>
  intro x J;rcases List.mem_cons.1 J with rfl | J
  ·intro cs e; cases e
  ·exact aO (λx h=>aX x (by simp [h])) x J
 | agg h1 _ _ aO =>
  intro x J;rcases List.mem_cons.1 J with rfl | J
  ·intro cs e;cases e;exact λk j hk=>aX _ (List.mem_cons_self ..) _ rfl k j (h1.self k j hk)
  ·exact aO (λx h=>aX x (by simp [h])) x J
theorem Hand.cons {ρ:ab->Value->Prop}{Fs:Nat->a'}{x:ab}{v:Value}{F:a'}{xs:List ab}{vs:List Value}{dm:Nat->a'}(h:Hand w I ρ Fs xs vs dm) (J:R w I ρ x v F)
  (aQ:∀ k c,k<xs.length->F c->¬ dm k c) (aX:∀ t c,F c->¬ Fs t c) (hi:∀ c,F c->¬ I c):Hand w I ρ Fs (x::xs) (v::vs) (λk=>match k with | 0=>F | k+1=>dm k):=by
 refine ⟨by simp [h.len],λk y u ao hu=>?_,λj k c ag hk h1 af=>?_,λk t c hk aa=>?_,λk c hk aa=>?_⟩
 ·cases k with
  | zero=>simp at ao hu; subst ao hu; exact J
  | succ k=>simp at ao hu; exact h.rel k y u ao hu
 ·cases j <;> cases k
  ·rfl
  ·exact absurd af (aQ _ c (by simpa using hk) h1)
  ·exact absurd h1 (aQ _ c (by simpa using ag) af)
  ·rw [h.ec _ _ c (by simpa using ag) (by simpa using hk) h1 af]
 ·cases k with
  | zero=>exact aX t c aa
  | succ k=>exact h.off k t c (by simpa using hk) aa
 ·cases k with
  | zero=>exact hi c aa
  | succ k=>exact h.bl k c (by simpa using hk) aa
theorem Hand.tail {ρ:ab->Value->Prop}{Fs:Nat->a'}{x:ab}{v:Value}{xs:List ab}{vs:List Value}{dm:Nat->a'}(h:Hand w I ρ Fs (x::xs) (v::vs) dm):Hand w I ρ Fs xs vs (λk=>dm (k+1)) :=
  ⟨by simpa using h.len,λk y u ao hu=>h.rel (k+1) y u ao hu,λj k c ag hk h1 af=>by have:=h.ec (j+1) (k+1) c (by simpa using ag) (by simpa using hk) h1 af; omega,
   λk t c hk aa=>h.off (k+1) t c (by simpa using hk) aa,λk c hk aa=>h.bl (k+1) c (by simpa using hk) aa⟩
theorem sA {x:ab}{xs:List ab}(h:cG x) (aO:∀ y∈xs,cG y):∀ y∈x::xs,cG y:=by
 intro y ao;rcases List.mem_cons.1 ao with rfl | ao
 ·exact h
 ·exact aO y ao
theorem Take.Ah {g g':aM}{xs xs':List ab}(h:Take g xs xs' g'):∀ x∈xs',cG x:=by
 induction h with
 | bn h=>exact h
 | cons h _ aO=>exact sA h aO
 | a6 _ _ _ _ gj fV=>exact sA (.own gj) fV
 | bI _ _ _ _ _ gj fV=>exact sA (.own gj) fV
 | Ao _ _ _ _ _ _ _ _ _ gj fV=>exact sA (.own gj) fV
 | obj _ _ _ gj fV=>exact sA (.obj gj) fV
 | mp _ _ _ _ fV=>exact sA .mp fV
 | agg _ _ gj fV=>exact sA (.agg gj) fV
 | bR _ _ gj fV=>exact sA (.bR gj) fV
def HP (w:World) (I:a') (T:Array Value) (g:aM) (xs xs':List ab) (g':aM):Prop :=
 ∀ {Fs:Nat->a'}{vs:List Value}{dm:Nat->a'},jG w I T g Fs->Hand w I (fp w T) Fs xs vs dm ->
  ∃ bW jC,jG w I T g' bW/\Hand w I (fp w T) bW xs' vs jC/\∀ c,lI bW xs'.length jC c->lI Fs xs.length dm c
theorem Ld {w:World}{e b5:TypeId}{z n:Nat}{v:Value}{us iR:List Value}(h:w.ownsRow 0 e z v n us) (aI:w.ownsRow 0 b5 z v n iR):us=iR:=by
 obtain ⟨h1,af⟩:=h;obtain ⟨jr,I4⟩:=aI;rcases af with ⟨rfl,rfl⟩ | ⟨b,cap,cur,rfl,_,aN,_,_,_,au⟩
 ·simp at h1 jr; rw [h1,jr]
 ·rcases I4 with ⟨bO,_⟩ | ⟨dR,nq,adO,bO,_,OB,_,_,_,rp⟩
  ·cases bO
  ·cases bO;rw [aN] at OB;cases OB;rw [<- au,<- rp]
theorem Take.node {g1 g2 g':aM}{Fs fx:Nat->a'}{B H0:a'}{cs cs' xs xs':List ab}{us vs:List Value}{bD dm:Nat->a'}{X:ab}{v0:Value}
  (bf:jG w I T g1 fx) (hH:Hand w I (fp w T) fx cs us bD) (eX:∀ c,B c->(∃ t,Fs t c)/\(∀ t,¬ fx t c)/\(∀ k,k<cs.length->¬ bD k c)/\¬ I c)
  (hL:∀ c,lI fx cs.length bD c->(∃ t,Fs t c)\/H0 c) (cX:Hand w I (fp w T) Fs xs vs dm) (rb:∀ c,H0 c->(∀ t,¬ Fs t c)/\∀ k,k<xs.length->¬ dm k c)
  (gj:HP w I T g1 cs cs' g2) (fV:HP w I T g2 xs xs' g')
  (build:∀ jC:Nat->a',(∀ (k:Nat) (x:ab) (u:Value),cs'[k]?=some x->us[k]?=some u->R w I (fp w T) x u (jC k))->(∀ (j k c:Nat),j<cs'.length->k<cs'.length->jC j c->jC k c->j=k) ->
   (∀ k c,k<cs'.length->jC k c->¬ B c)->R w I (fp w T) X v0 (λc=>B c\/∃ k,k<cs'.length/\jC k c)) :
  ∃ bW jC,jG w I T g' bW/\Hand w I (fp w T) bW (X::xs') (v0::vs) jC/\∀ c,lI bW (X::xs').length jC c->(∃ t,Fs t c)\/H0 c\/∃ k,k<xs.length/\dm k c:=by
 obtain ⟨jY,H1,iw,Fu,Cd⟩:=gj bf hH;have Y8:∀ k t c,k<xs.length->dm k c->¬ jY t c:=by
  intro k t c hk aa aU;rcases hL c (Cd c (.inl ⟨t,aU⟩)) with ⟨t',h⟩ | h
  ·exact cX.off k t' c hk aa h
  ·exact (rb c h).2 k hk aa
 obtain ⟨yY,Bi,B_,V1,Oe⟩:=fV iw (⟨cX.len,cX.rel,cX.ec,Y8,cX.bl⟩:Hand w I (fp w T) jY xs vs dm);have VP:∀ k c,k<cs'.length->H1 k c->¬ B c:=by
  intro k c hk aa ar;obtain ⟨_,h1,af,_⟩:=eX c ar;rcases Cd c (.inr ⟨k,hk,aa⟩) with ⟨t,h⟩ | ⟨j,ag,h⟩
  ·exact h1 t h
  ·exact af j ag h
 have eC:=build H1 Fu.rel Fu.ec VP
 -- the node's blocks: apart from all else
 have key:∀ c,(B c\/∃ k,k<cs'.length/\H1 k c)->(∀ t,¬ jY t c)/\(∀ k,k<xs.length->¬ dm k c)/\¬ I c/\((∃ t,Fs t c)\/H0 c):=by
  rintro c (ar | ⟨k,hk,aa⟩)
  ·obtain ⟨⟨t0,aK⟩,h1,af,aE⟩:=eX c ar;refine ⟨λt aU=>?_,λk hk aa=>cX.off k t0 c hk aa aK,aE,.inl ⟨t0,aK⟩⟩;rcases Cd c (.inl ⟨t,aU⟩) with ⟨t',h⟩ | ⟨j,ag,h⟩
   ·exact h1 t' h
   ·exact af j ag h
  ·have av:=hL c (Cd c (.inr ⟨k,hk,aa⟩));refine ⟨λt aU=>Fu.off k t c hk aa aU,λj ag xo=>?_,Fu.bl k c hk aa,av⟩;rcases av with ⟨t,h⟩ | h
   ·exact cX.off j t c ag xo h
   ·exact (rb c h).2 j ag xo
 have fin:∀ c,(B c\/∃ k,k<cs'.length/\H1 k c)->(∀ t,¬ yY t c)/\∀ k,k<xs'.length->¬ Bi k c:=by
  intro c aa;obtain ⟨h1,af,_,_⟩:=key c aa;have none:¬ lI yY xs'.length Bi c:=by
   intro h;rcases Oe c h with ⟨t,h⟩ | ⟨k,hk,h⟩
   ·exact h1 t h
   ·exact af k hk h
  exact ⟨λt h=>none (.inl ⟨t,h⟩),λk hk h=>none (.inr ⟨k,hk,h⟩)⟩
 refine ⟨yY,_,B_,V1.cons eC (λk c hk aa=>(fin c aa).2 k hk) (λt c aa=>(fin c aa).1 t) (λc aa=>(key c aa).2.2.1),?_⟩;have back:∀ c,lI yY xs'.length Bi c->(∃ t,Fs t c)\/H0 c\/∃ k,k<xs.length/\dm k c:=by
  intro c h;rcases Oe c h with ⟨t,h⟩ | h
  ·rcases hL c (Cd c (.inl ⟨t,h⟩)) with h | h
   ·exact .inl h
   ·exact .inr (.inl h)
  ·exact .inr (.inr h)
 rintro c (h | ⟨k,hk,aa⟩)
 ·exact back c (.inl h)
 ·cases k with
  | zero =>
   rcases (key c aa).2.2.2 with h | h
   ·exact .inl h
   ·exact .inr (.inl h)
  | succ k=>exact back c (.inr ⟨k,by simpa using hk,aa⟩)
end
section
variable {w:World}{I:a'}{T:Array Value}
theorem jG.kill {g:aM}{Fs:Nat->a'}(h:jG w I T g Fs) (t:Nat):∃ bW,jG w I T (ct g ⟨t,[]⟩ .dead) bW/\(∀ c,¬ bW t c)/\∀ s,s≠t->bW s=Fs s:=by
 refine ⟨λs=>if s=t then cg else Fs s,⟨λs x J=>?_,λs av c=>?_,λs cz c aa et=>?_,λs c aa=>?_,h.lt,h.hW⟩,λc=>by simp,λs av=>by simp [av]⟩
 ·by_cases bU:s=t
  ·subst bU;simp only [ct,if_pos] at J;cases aN:g s with
   | none=>rw [aN] at J; cases J
   | some y =>
    rw [aN] at J;have:x=.dead:=by simpa [ab.setAt] using J.symm
    subst this;obtain ⟨v,hv,_⟩:=h.rel s y aN;exact ⟨v,hv,.tree (.dead (by simp))⟩
  ·simp only [ct,if_neg bU] at J; simpa [bU] using h.rel s x J
 ·by_cases bU:s=t
  ·simp [bU]
  ·simp only [ct,if_neg bU] at av; simpa [bU] using h.lh s av c
 ·by_cases h1:s=t <;> by_cases af:cz=t <;> simp [h1,af,cg] at aa et;exact h.ec _ _ _ aa et
 ·by_cases h1:s=t <;> simp [h1,cg] at aa;exact h.bl _ _ aa
theorem R.vx {ρ:ab->Value->Prop}{Fs:Nat->a'}{x:ab}{v:Value}{xs:List ab}{vs:List Value}{dm:Nat->a'}(h:Hand w I ρ Fs (x::xs) (v::vs) dm):∀ c,dm 0 c->(∀ t,¬ Fs t c)/\∀ k,k<xs.length->¬ dm (k+1) c:=by
 intro c aa;refine ⟨λt=>h.off 0 t c (by simp) aa,λk hk ih=>?_⟩;have:=h.ec 0 (k+1) c (by simp) (by simpa using hk) aa ih;omega
theorem lI.head {Fs:Nat->a'}{x:ab}{xs:List ab}{dm:Nat->a'}{c:Nat}(h:(∃ t,Fs t c)\/dm 0 c\/∃ k,k<xs.length/\dm (k+1) c):lI Fs (x::xs).length dm c:=by
 rcases h with h | h | ⟨k,hk,h⟩
 ·exact .inl h
 ·exact .inr ⟨0,by simp,h⟩
 ·exact .inr ⟨k+1,by simpa using hk,h⟩
theorem GY {g:aM}{p:Place}{y:ab}{q:Place}(h:q.root≠p.root):bE (ct g p y) q=bE g q:=by
 grind [bE,ct]
theorem wu {g:aM}{p:Place}{y:ab}{t:Nat}(h:t≠p.root):ct g p y t=g t:=by
 grind [ct]
theorem Qi {a:Option Addr}{n cap cm nq:Nat}:(Value.slice a n cap).ownBlock=(Value.slice a cm nq).ownBlock:=by cases a <;> rfl
theorem Zh {e:TypeId}{z n N:Nat}{a:Option Addr}{cap:Nat}{us:List Value}(h:w.ownsRow 0 e z (.slice a N cap) N us) (aC:n<=N):w.ownsRow 0 e z (.slice a n cap) n (us.take (n * z)):=by
 have hle:n * z<=N * z:=Nat.mul_le_mul_right _ aC;obtain ⟨hu,bO⟩:=h;refine ⟨by rw [List.length_take,hu]; omega,?_⟩
 grind
theorem Take.sound {g g':aM}{xs xs':List ab}(h:Take g xs xs' g'):HP w I T g xs xs' g':=by
 induction h with
 | bn h=>exact λ{Fs vs dm} bf hH=>⟨Fs,dm,bf,hH,λ_ h=>h⟩
 | @cons g g' x xs xs' J _ aO =>
  intro Fs vs dm bf hH;cases vs with
  | nil=>have:=hH.len; simp at this
  | cons v vs =>
   obtain ⟨bW,jC,d',V0,hq⟩:=aO bf hH.tail;have aK:=R.vx hH;have off:∀ c,dm 0 c->¬ lI bW xs'.length jC c:=by
    intro c aa ar;rcases hq c ar with ⟨t,h⟩ | ⟨k,hk,h⟩
    ·exact (aK c aa).1 t h
    ·exact (aK c aa).2 k hk h
   refine ⟨bW,_,d',V0.cons (hH.rel 0 x v rfl rfl) (λk c hk aa h=>off c aa (.inr ⟨k,hk,h⟩)) (λt c aa h=>off c aa (.inl ⟨t,h⟩)) (λc aa=>hH.bl 0 c (by simp) aa),?_⟩;rintro c (h | ⟨k,hk,h⟩)
   ·rcases hq c (.inl h) with h | ⟨j,ag,h⟩
    ·exact .inl h
    ·exact .inr ⟨j+1,by simpa using ag,h⟩
   ·cases k with
    | zero=>exact .inr ⟨0,by simp,h⟩
    | succ k =>
     rcases hq c (.inr ⟨k,by simpa using hk,h⟩) with h | ⟨j,ag,h⟩
     ·exact .inl h
     ·exact .inr ⟨j+1,by simpa using ag,h⟩
 | @a6 g g1 g' z n N p cs cs' xs xs' aq aC t1 _ gj fV =>
  intro Fs vs dm bf hH;cases vs with
  | nil=>have:=hH.len; simp at this
  | cons v vs =>
   obtain ⟨qO,cq,gI,hJ,c_,kD⟩:=bf.part aq (by simp);obtain ⟨a,kI,cap,h1,rfl,aE⟩:=(hH.rel 0 _ v rfl rfl).n3;rw [h1] at gI;cases gI;obtain ⟨a2,r2,h',_⟩:=hJ.od;cases h';obtain ⟨fx,iZ,i',hK⟩:=kD .dead cg (.dead λ_ h=>h) (λ_ h=>h.elim) (λ_ h=>h.elim) (λ_ _ _ h=>h.elim) (λ_ h=>by cases h);have lU:∀ t c,fx t c->Fs t c/\¬ cq c:=by
    intro t c aa;by_cases au:t=p.root
    ·subst au;rcases (i' c).1 aa with h | h
     ·exact h
     ·exact h.elim
    ·rw [hK t au] at aa;exact ⟨aa,λef=>au (bf.ec _ _ _ aa (c_ c ef))⟩
   cases hJ with
   | ref J=>simp [ab.isRef] at J
   | @own _ _ _ _ e us bD _ aX ah jr hr aQ ar aH =>
    have FJ:∀ k,k<(cs.take (n * z)).length->k<cs.length:=λk hk=>by rw [List.length_take] at hk; omega
    have eE:∀ k c,k<(cs.take (n * z)).length->bD k c->cq c:=λk c hk aa=>(aH c).2 (.inr ⟨k,FJ k hk,aa⟩);have iv:Hand w I (fp w T) fx (cs.take (n * z)) (us.take (n * z)) bD:=by
     refine ⟨by simp [ah],λk x u J hu=>?_,λj k c ag hk=>aQ j k c (FJ j ag) (FJ k hk),λk t c hk aa aU=>(lU t c aU).2 (eE k c hk aa),λk c hk aa=>bf.bl _ c (c_ c (eE k c hk aa))⟩;rw [List.getElem?_take] at J hu
     split at J
     ·rename_i dv; rw [if_pos dv] at hu; exact hr k x u J hu
     ·cases J
    have rm:=Zh aX aC;obtain ⟨bW,jC,aw,a2,a3⟩:=Take.node (g1:=ct g p .dead) (Fs:=Fs) (B:=λc=>(Value.slice a n cap).ownBlock=some c) (H0:=dm 0) (X:=.own z n cs') (v0:=.slice a n cap) iZ iv
     (λc aa=>by
      have ef:cq c:=(aH c).2 (.inl (by rw [<- aa]; exact Qi));exact ⟨⟨_,c_ c ef⟩,λt aU=>(lU t c aU).2 ef,λk hk ih=>ar k c (FJ k hk) ih (by rw [<- aa]; exact Qi),bf.bl _ c (c_ c ef)⟩)
     (λc aa=>by
      rcases aa with ⟨t,h⟩ | ⟨k,hk,h⟩
      ·exact .inl ⟨t,(lU t c h).1⟩
      ·exact .inl ⟨_,c_ c (eE k c hk h)⟩)
     hH.tail (R.vx hH) gj fV (λy1 gY iu lO=>by
      refine .own rm (by rw [t1.length]; simp [ah]) (λk u hu=>?_) gY iu (λk c hk aa h=>lO k c hk aa h) λc=>Iff.rfl;rw [List.getElem?_take] at hu
      split at hu
      ·exact jr k u hu
      ·cases hu)
    exact ⟨bW,jC,aw,a2,λc aa=>lI.head (a3 c aa)⟩
 | @bI g g1 g' z n m t q cs new cs' xs xs' au aq a_ t1 _ gj fV =>
  intro Fs vs dm bf hH;cases vs with
  | nil=>have:=hH.len; simp at this
  | cons v vs =>
   obtain ⟨a,kI,cap,h1,rfl,aE⟩:=(hH.rel 0 _ v rfl rfl).n3;obtain ⟨v0,ky,gu⟩:=bf.rel t _ au;simp only [dy,ky,walk,Option.some.injEq] at h1;subst h1;obtain ⟨bv,e,b3,us,news,gu⟩:=gu.vS;have bp:kI=n+m:=by
    obtain ⟨_,bO⟩:=gu.mT;rcases bO with ⟨bO,aK⟩ | ⟨_,_,_,bO,_⟩
    ·cases bO; omega
    ·cases bO; rfl
   subst bp;obtain ⟨Se,Jn,gz,fF⟩:=bf.kill t;have J8:bE (ct g ⟨t,[]⟩ .dead) q=some (.own z n cs):=by rw [GY (by simpa using a_)]; exact aq
   obtain ⟨qO,cq,gI,hJ,c_,kD⟩:=Jn.part J8 (by simp);obtain ⟨ca,nq,bm,rfl⟩:=gu.ju;rw [bm] at gI;cases gI;obtain ⟨fx,iZ,i',hK⟩:=kD .dead cg (.dead λ_ h=>h) (λ_ h=>h.elim) (λ_ h=>h.elim) (λ_ _ _ h=>h.elim) (λ_ h=>by cases h);have qp:∀ c,cq c->Fs q.root c:=λc aa=>by have:=c_ c aa; rwa [fF _ a_] at this
   have lU:∀ s c,fx s c->Fs s c/\¬ cq c/\s≠t:=by
    intro s c aa;have bU:s≠t:=by
     rintro rfl;by_cases vI:s=q.root
     ·exact a_ vI.symm
     ·rw [hK s vI] at aa; exact gz c aa
    by_cases av:s=q.root
    ·subst av;rcases (i' c).1 aa with h | h
     ·exact ⟨by have:=h.1; rwa [fF _ a_] at this,h.2,bU⟩
     ·exact h.elim
    ·rw [hK s av,fF s bU] at aa;exact ⟨aa,λef=>av (bf.ec _ _ _ aa (qp c ef)),bU⟩
   cases hJ with
   | ref J=>simp [ab.isRef] at J
   | @own _ _ _ _ b5 iR bD _ aX ah jr hr aQ ar aH =>
    have:=Ld aX gu.kP;subst this;have eE:∀ k c,k<cs.length->bD k c->cq c:=λk c hk aa=>(aH c).2 (.inr ⟨k,hk,aa⟩);have iv:Hand w I (fp w T) fx (cs++new) (iR++news) (λk=>if k<cs.length then bD k else cg):=by
     refine ⟨by simp [ah,gu.ah],λk x u J hu=>?_,λj k c ag hk aa et=>?_,λk s c hk aa aU=>?_,λk c hk aa=>?_⟩
     ·by_cases dv:k<cs.length
      ·rw [List.getElem?_append_left dv] at J;rw [List.getElem?_append_left (by omega)] at hu;simpa [dv] using hr k x u J hu
      ·rw [List.getElem?_append_right (by omega)] at J;rw [List.getElem?_append_right (by omega),<- ah] at hu;simpa [dv] using gu.hr _ x u J hu
     ·by_cases eF:j<cs.length <;> by_cases dv:k<cs.length <;> simp [eF,dv,cg] at aa et;exact aQ j k c eF dv aa et
     ·by_cases dv:k<cs.length <;> simp [dv,cg] at aa;exact (lU s c aU).2.1 (eE k c dv aa)
     ·by_cases dv:k<cs.length <;> simp [dv,cg] at aa;exact bf.bl _ c (qp c (eE k c dv aa))
    obtain ⟨bW,jC,aw,a2,a3⟩:=Take.node (g1:=ct (ct g ⟨t,[]⟩ .dead) q .dead) (Fs:=Fs) (B:=λc=>(Value.slice a (n+m) cap).ownBlock=some c) (H0:=dm 0) (X:=.own z (n+m) cs') (v0:=.slice a (n+m) cap) iZ iv
     (λc aa=>by
      by_cases qv:(Value.slice ca n nq).ownBlock=some c
      ·have ef:cq c:=(aH c).2 (.inl qv);refine ⟨⟨_,qp c ef⟩,λs aU=>(lU s c aU).2.1 ef,λk hk ih=>?_,bf.bl _ c (qp c ef)⟩;by_cases dv:k<cs.length <;> simp [dv,cg] at ih;exact ar k c dv ih qv
      ·have FK:Fs t c:=(gu.aH c).2 ⟨aa,qv⟩;refine ⟨⟨_,FK⟩,λs aU=>(lU s c aU).2.2 (bf.ec _ _ _ (lU s c aU).1 FK),λk hk ih=>?_,bf.bl _ c FK⟩;by_cases dv:k<cs.length <;> simp [dv,cg] at ih;exact a_ (bf.ec _ _ _ (qp c (eE k c dv ih)) FK))
     (λc aa=>by
      rcases aa with ⟨s,h⟩ | ⟨k,hk,h⟩
      ·exact .inl ⟨s,(lU s c h).1⟩
      ·by_cases dv:k<cs.length <;> simp [dv,cg] at h;exact .inl ⟨_,qp c (eE k c dv h)⟩)
     hH.tail (R.vx hH) gj fV (λy1 gY iu lO=>by
      refine .own gu.mT (by rw [t1.length]; simp [ah,gu.ah]) (λk u hu=>?_) gY iu (λk c hk aa h=>lO k c hk aa h) λc=>Iff.rfl;by_cases dv:k<iR.length
      ·rw [List.getElem?_append_left dv] at hu; exact jr k u hu
      ·rw [List.getElem?_append_right (by omega)] at hu; exact gu.h1 _ u hu)
    exact ⟨bW,jC,aw,a2,λc aa=>lI.head (a3 c aa)⟩
 | @Ao g g1 g' z n m t ob m2 t2 q cs new Af cs' xs xs' au O3 aC aq a_ rl XS t1 _ gj fV =>
  subst aC;intro Fs vs dm bf hH;cases vs with
  | nil=>have:=hH.len; simp at this
  | cons v vs =>
   obtain ⟨a,kI,cap,h1,rfl,aE⟩:=(hH.rel 0 _ v rfl rfl).n3;obtain ⟨v0,ky,gu⟩:=bf.rel t _ au;simp only [dy,ky,walk,Option.some.injEq] at h1;subst h1;obtain ⟨bv,e,b3,us,news,gu⟩:=gu.vS;have bp:kI=ob+m2+m:=by
    obtain ⟨_,bO⟩:=gu.mT;rcases bO with ⟨bO,aK⟩ | ⟨_,_,_,bO,_⟩
    ·cases bO; omega
    ·cases bO; rfl
   subst bp;obtain ⟨v2,tb,mO⟩:=bf.rel t2 _ O3;obtain ⟨M1,b5,tT,abg,K7,mO⟩:=mO.vS;have ju:bv=v2:=by
    obtain ⟨aw,Nb,b7,rfl⟩:=gu.ju;simp only [dy,tb,walk,Option.some.injEq] at b7;exact b7.symm
   subst ju;have nz:us=abg++K7:=Ld gu.kP mO.mT;subst nz;obtain ⟨abS,Wi,Xh,JO⟩:=bf.kill t;obtain ⟨Se,Jn,gz,fF⟩:=Wi.kill t2;have J8:bE (ct (ct g ⟨t,[]⟩ .dead) ⟨t2,[]⟩ .dead) q=some (.own z ob cs):=by rw [GY (by simpa using rl),GY (by simpa using a_)]; exact aq
   obtain ⟨qO,cq,gI,hJ,c_,kD⟩:=Jn.part J8 (by simp);obtain ⟨ca,nq,bm,rfl⟩:=mO.ju;rw [bm] at gI;cases gI;obtain ⟨fx,iZ,i',hK⟩:=kD .dead cg (.dead λ_ h=>h) (λ_ h=>h.elim) (λ_ h=>h.elim) (λ_ _ _ h=>h.elim) (λ_ h=>by cases h);have qp:∀ c,cq c->Fs q.root c:=λc aa=>by have:=c_ c aa; rwa [fF _ rl,JO _ a_] at this
   have lU:∀ s c,fx s c->Fs s c/\¬ cq c/\s≠t/\s≠t2:=by
    intro s c aa;have pc:s≠t2:=by
     rintro rfl;by_cases vI:s=q.root
     ·exact rl vI.symm
     ·rw [hK s vI] at aa; exact gz c aa
    have bU:s≠t:=by
     rintro rfl;by_cases vI:s=q.root
     ·exact a_ vI.symm
     ·rw [hK s vI,fF s pc] at aa; exact Xh c aa
    by_cases av:s=q.root
    ·subst av;rcases (i' c).1 aa with h | h
     ·exact ⟨by have:=h.1; rwa [fF _ rl,JO _ a_] at this,h.2,bU,pc⟩
     ·exact h.elim
    ·rw [hK s av,fF s pc,JO s bU] at aa;exact ⟨aa,λef=>av (bf.ec _ _ _ aa (qp c ef)),bU,pc⟩
   cases hJ with
   | ref J=>simp [ab.isRef] at J
   | @own _ _ _ _ e7 iR bD _ aX ah jr hr aQ ar aH =>
    have:=Ld aX mO.kP;subst this;have eE:∀ k c,k<cs.length->bD k c->cq c:=λk c hk aa=>(aH c).2 (.inr ⟨k,hk,aa⟩);have iv:Hand w I (fp w T) fx (cs++Af++new) (iR++K7++news) (λk=>if k<cs.length then bD k else cg):=by
     have gl:=mO.ah;have C8:=gu.ah;refine ⟨by simp [ah,gl,C8],λk x u J hu=>?_,λj k c ag hk aa et=>?_,λk s c hk aa aU=>?_,λk c hk aa=>?_⟩
     ·rw [List.append_assoc] at J hu;by_cases dv:k<cs.length
      ·rw [List.getElem?_append_left dv] at J;rw [List.getElem?_append_left (by omega)] at hu;simpa [dv] using hr k x u J hu
      ·rw [List.getElem?_append_right (by omega)] at J;rw [List.getElem?_append_right (by omega),<- ah] at hu;simp only [dv,if_false];by_cases JU:k - cs.length<Af.length
       ·rw [List.getElem?_append_left JU] at J;rw [List.getElem?_append_left (by omega)] at hu;exact mO.hr _ x u J hu
       ·rw [List.getElem?_append_right (by omega)] at J;rw [List.getElem?_append_right (by omega),<- gl] at hu;exact gu.hr _ x u J hu
     ·by_cases eF:j<cs.length <;> by_cases dv:k<cs.length <;> simp [eF,dv,cg] at aa et;exact aQ j k c eF dv aa et
     ·by_cases dv:k<cs.length <;> simp [dv,cg] at aa;exact (lU s c aU).2.1 (eE k c dv aa)
     ·by_cases dv:k<cs.length <;> simp [dv,cg] at aa;exact bf.bl _ c (qp c (eE k c dv aa))
    have Ra:∀ s c,Fs s c->s=t\/s=t2->(∃ s,Fs s c)/\(∀ s,¬ fx s c)/\(∀ k,k<(cs++Af++new).length->¬ (if k<cs.length then bD k else cg) c)/\¬ I c:=by
     intro s c aa av;refine ⟨⟨_,aa⟩,λcz aU=>?_,λk hk ih=>?_,bf.bl _ c aa⟩
     ·obtain ⟨f1,_,f2,f3⟩:=lU cz c aU;have:=bf.ec _ _ _ f1 aa;rcases av with rfl | rfl
      ·exact f2 this
      ·exact f3 this
     ·by_cases dv:k<cs.length <;> simp [dv,cg] at ih;have:=bf.ec _ _ _ (qp c (eE k c dv ih)) aa;rcases av with rfl | rfl
      ·exact a_ this
      ·exact rl this
    obtain ⟨bW,jC,aw,a2,a3⟩:=Take.node (g1:=ct (ct (ct g ⟨t,[]⟩ .dead) ⟨t2,[]⟩ .dead) q .dead) (Fs:=Fs) (B:=λc=>(Value.slice a (ob+m2+m) cap).ownBlock=some c) (H0:=dm 0) (X:=.own z (ob+m2+m) cs') (v0:=.slice a (ob+m2+m) cap) iZ iv
     (λc aa=>by
      by_cases qv:bv.ownBlock=some c
      ·by_cases Jt:(Value.slice ca ob nq).ownBlock=some c
       ·have ef:cq c:=(aH c).2 (.inl Jt);refine ⟨⟨_,qp c ef⟩,λs aU=>(lU s c aU).2.1 ef,λk hk ih=>?_,bf.bl _ c (qp c ef)⟩;by_cases dv:k<cs.length <;> simp [dv,cg] at ih;exact ar k c dv ih Jt
       ·exact Ra t2 c ((mO.aH c).2 ⟨qv,Jt⟩) (.inr rfl)
      ·exact Ra t c ((gu.aH c).2 ⟨aa,qv⟩) (.inl rfl))
     (λc aa=>by
      rcases aa with ⟨s,h⟩ | ⟨k,hk,h⟩
      ·exact .inl ⟨s,(lU s c h).1⟩
      ·by_cases dv:k<cs.length <;> simp [dv,cg] at h;exact .inl ⟨_,qp c (eE k c dv h)⟩)
     hH.tail (R.vx hH) gj fV (λy1 gY iu lO=>by
      refine .own gu.mT (by rw [t1.length]; simp [ah,mO.ah,gu.ah]) (λk u hu=>?_) gY iu (λk c hk aa h=>lO k c hk aa h) λc=>Iff.rfl;rw [List.append_assoc] at hu;by_cases dv:k<iR.length
      ·rw [List.getElem?_append_left dv] at hu; exact jr k u hu
      ·rw [List.getElem?_append_right (by omega)] at hu;by_cases JU:k - iR.length<K7.length
       ·rw [List.getElem?_append_left JU] at hu; exact mO.h1 _ u hu
       ·rw [List.getElem?_append_right (by omega)] at hu; exact gu.h1 _ u hu)
    exact ⟨bW,jC,aw,a2,λc aa=>lI.head (a3 c aa)⟩
 | @obj g g1 g' p cs cs' xs xs' aq t1 _ gj fV =>
  intro Fs vs dm bf hH;cases vs with
  | nil=>have:=hH.len; simp at this
  | cons v vs =>
   obtain ⟨qO,cq,gI,hJ,c_,kD⟩:=bf.part aq (by simp);obtain ⟨u,ad,h1,af,rfl⟩:=(hH.rel 0 _ v rfl rfl).n4;rw [h1] at gI;cases gI;obtain ⟨fx,iZ,i',hK⟩:=kD .dead cg (.dead λ_ h=>h) (λ_ h=>h.elim) (λ_ h=>h.elim) (λ_ _ _ h=>h.elim) (λ_ h=>by cases h);have lU:∀ t c,fx t c->Fs t c/\¬ cq c:=by
    intro t c aa;by_cases au:t=p.root
    ·subst au;rcases (i' c).1 aa with h | h
     ·exact h
     ·exact h.elim
    ·rw [hK t au] at aa;exact ⟨aa,λef=>au (bf.ec _ _ _ aa (c_ c ef))⟩
   cases hJ with
   | ref J=>simp [ab.isRef] at J
   | @obj _ b e arr bD _ aX ah jr hr aQ ar aH av =>
    simp only [addrOf,Option.some.injEq] at af;subst af;have eE:∀ k c,k<cs.length->bD k c->cq c:=λk c hk aa=>(aH c).2 (.inr ⟨k,hk,aa⟩);have iv:Hand w I (fp w T) fx cs arr.toList bD :=
     ⟨by simp [ah],λk x u J hu=>hr k x u J (by simpa using hu),aQ,λk t c hk aa aU=>(lU t c aU).2 (eE k c hk aa),λk c hk aa=>bf.bl _ c (c_ c (eE k c hk aa))⟩
    obtain ⟨bW,jC,aw,a2,a3⟩:=Take.node (g1:=ct g p .dead) (Fs:=Fs) (B:=λc=>c=b) (H0:=dm 0) (X:=.obj cs') (v0:=.pointer (some ⟨b,0,none⟩)) iZ iv
     (λc aa=>by
      subst aa;have ef:cq c:=(aH c).2 (.inl rfl);exact ⟨⟨_,c_ c ef⟩,λt aU=>(lU t c aU).2 ef,λk hk ih=>ar k hk ih,bf.bl _ c (c_ c ef)⟩)
     (λc aa=>by
      rcases aa with ⟨t,h⟩ | ⟨k,hk,h⟩
      ·exact .inl ⟨t,(lU t c h).1⟩
      ·exact .inl ⟨_,c_ c (eE k c hk h)⟩)
     hH.tail (R.vx hH) gj fV (λy1 gY iu lO=>by
      refine .obj aX (by rw [t1.length,ah]) jr (λk x u J hu=>gY k x u J (by simpa using hu)) iu (λk hk h=>lO k b hk h rfl) (λc=>Iff.rfl) λk j u hk=>av k j u (t1.self k j hk))
    exact ⟨bW,jC,aw,a2,λc aa=>lI.head (a3 c aa)⟩
 | @mp g g1 g' p q xs xs' aq t1 _ gj fV =>
  intro Fs vs dm bf hH;cases vs with
  | nil=>have:=hH.len; simp at this
  | cons v vs =>
   obtain ⟨qO,cq,gI,hJ,c_,kD⟩:=bf.part aq (by simp);have hm:=hH.rel 0 _ v rfl rfl;cases hm with
   | ref _ hm _ =>
   obtain ⟨H3,h1,rfl⟩:=hm;rw [h1] at gI;cases gI;obtain ⟨fx,iZ,i',hK⟩:=kD .dead cg (.dead λ_ h=>h) (λ_ h=>h.elim) (λ_ h=>h.elim) (λ_ _ _ h=>h.elim) (λ_ h=>by cases h);have lU:∀ t c,fx t c->Fs t c/\¬ cq c:=by
    intro t c aa;by_cases au:t=p.root
    ·subst au;rcases (i' c).1 aa with h | h
     ·exact h
     ·exact h.elim
    ·rw [hK t au] at aa;exact ⟨aa,λef=>au (bf.ec _ _ _ aa (c_ c ef))⟩
   cases hJ with
   | ref J=>simp [ab.isRef] at J
   | @mp _ b es clock _ aX a_ aH =>
    have iv:Hand w I (fp w T) fx [] [] (λ_=>cg) :=
     ⟨rfl,λk x u J=>by simp at J,λ_ _ _ _ _ h=>h.elim,λ_ _ _ _ h=>h.elim,λ_ _ _ h=>h.elim⟩
    obtain ⟨bW,jC,aw,a2,a3⟩:=Take.node (g1:=ct g p .dead) (Fs:=Fs) (B:=λc=>c=b) (H0:=dm 0) (X:=.mp q) (v0:=.map (some b)) iZ iv
     (λc aa=>by
      subst aa;have ef:cq c:=(aH c).2 rfl;exact ⟨⟨_,c_ c ef⟩,λt aU=>(lU t c aU).2 ef,λk hk _=>by simp at hk,bf.bl _ c (c_ c ef)⟩)
     (λc aa=>by
      rcases aa with ⟨t,h⟩ | ⟨k,hk,h⟩
      ·exact .inl ⟨t,(lU t c h).1⟩
      ·exact h.elim)
     hH.tail (R.vx hH) gj fV (λy1 gY iu lO=>by
      refine .mp aX a_ λc=>⟨λh=>h.elim id λ⟨_,hk,_⟩=>by simp at hk,.inl⟩)
    exact ⟨bW,jC,aw,a2,λc aa=>lI.head (a3 c aa)⟩
 | @agg g g1 g' cs cs' xs xs' t1 _ gj fV =>
  intro Fs vs dm bf hH;cases vs with
  | nil=>have:=hH.len; simp at this
  | cons v vs =>
   have J:=hH.rel 0 _ v rfl rfl;have aK:=R.vx hH;cases J with
   | ref J=>simp [ab.isRef] at J
   | @agg _ us bD _ ah jr hr aQ aH =>
    have eE:∀ k c,k<cs.length->bD k c->dm 0 c:=λk c hk aa=>(aH c).2 ⟨k,hk,aa⟩;obtain ⟨bW,jC,aw,a2,a3⟩:=Take.node (g1:=g) (Fs:=Fs) (B:=cg) (H0:=dm 0) (X:=.agg cs') (v0:=.agg us) bf
     (⟨by simp [ah],λk x u J hu=>hr k x u J (by simpa using hu),aQ,λk t c hk aa=>(aK c (eE k c hk aa)).1 t,λk c hk aa=>hH.bl 0 c (by simp) (eE k c hk aa)⟩:Hand w I (fp w T) Fs cs us.toList bD)
     (λc aa=>aa.elim)
     (λc aa=>by
      rcases aa with h | ⟨k,hk,h⟩
      ·exact .inl h
      ·exact .inr (eE k c hk h))
     hH.tail aK gj fV (λy1 gY iu lO=>by
      refine .agg (by rw [t1.length,ah]) jr (λk x u J hu=>gY k x u J (by simpa using hu)) iu λc=>⟨λh=>h.elim (λh=>h.elim) id,.inr⟩)
    exact ⟨bW,jC,aw,a2,λc aa=>lI.head (a3 c aa)⟩
 | @bR g g1 g' cs cs' xs xs' t1 _ gj fV =>
  intro Fs vs dm bf hH;cases vs with
  | nil=>have:=hH.len; simp at this
  | cons v vs =>
   have J:=hH.rel 0 _ v rfl rfl;have aK:=R.vx hH;cases J with
   | ref J=>simp [ab.isRef] at J
   | @bR _ us bD _ ah hr aQ aH =>
    have eE:∀ k c,k<cs.length->bD k c->dm 0 c:=λk c hk aa=>(aH c).2 ⟨k,hk,aa⟩;obtain ⟨bW,jC,aw,a2,a3⟩:=Take.node (g1:=g) (Fs:=Fs) (B:=cg) (H0:=dm 0) (X:=.bR cs') (v0:=.tuple us) bf
     (⟨by simp [ah],λk x u J hu=>hr k x u J (by simpa using hu),aQ,λk t c hk aa=>(aK c (eE k c hk aa)).1 t,λk c hk aa=>hH.bl 0 c (by simp) (eE k c hk aa)⟩:Hand w I (fp w T) Fs cs us.toList bD)
     (λc aa=>aa.elim)
     (λc aa=>by
      rcases aa with h | ⟨k,hk,h⟩
      ·exact .inl h
      ·exact .inr (eE k c hk h))
     hH.tail aK gj fV (λy1 gY iu lO=>by
      refine .bR (by rw [t1.length,ah]) (λk x u J hu=>gY k x u J (by simpa using hu)) iu λc=>⟨λh=>h.elim (λh=>h.elim) id,.inr⟩)
    exact ⟨bW,jC,aw,a2,λc aa=>lI.head (a3 c aa)⟩
end
inductive jE (nc:ab->Prop):ab->Prop
 | bn {x:ab}(h:cG x):jE nc x
 | ref {x:ab}(J:x.isRef=true) (h:nc x):jE nc x
 | own {z n:Nat}{cs:List ab}(h:∀ x∈cs,jE nc x):jE nc (.own z n cs)
 | obj {cs:List ab}(h:∀ x∈cs,jE nc x):jE nc (.obj cs)
 | agg {cs:List ab}(h:∀ x∈cs,jE nc x):jE nc (.agg cs)
 | bR {cs:List ab}(h:∀ x∈cs,jE nc x):jE nc (.bR cs)
 | cD {fn:Fn}{a b:List ab}(h1:∀ x∈a,jE nc x) (af:∀ x∈b,jE nc x):jE nc (.cD fn a b)
def AZ:ab->Option Place
 | .ptr p _=>some p
 | .a6 _ p _=>some p
 | .sub _ p _ _=>some p
 | .bI _ p _ _ _=>some p
 | .gm p=>some p
 | _=>none
def Clear (p:Place) (k m:Nat) (r:ab):Prop:=∀ q,AZ r=some q->q.root=p.root->∀ j c',q.path=p.path++j::c'->j<k\/k+m<=j
def e4 {α:Type}(l:List α) (k:Nat) (c:List α):List α:=l.take k++c++l.drop (k+c.length)
theorem rP {α:Type}{l:List α}{k:Nat}{c:List α}(h:k+c.length<=l.length):(e4 l k c).length=l.length:=by
 simp [e4]; omega
theorem rO {α:Type}{l:List α}{k:Nat}{c:List α}(h:k+c.length<=l.length) (j:Nat):(e4 l k c)[j]?=if k<=j/\j<k+c.length then c[j - k]? else l[j]?:=by
 unfold e4;rw [List.append_assoc];by_cases h1:j<k
 ·rw [List.getElem?_append_left (by simp; omega),List.getElem?_take,if_pos h1,if_neg (by omega)]
 ·rw [List.getElem?_append_right (by simp; omega)];have:(l.take k).length=k:=by simp; omega
  rw [this];by_cases af:j<k+c.length
  ·rw [List.getElem?_append_left (by omega),if_pos ⟨by omega,af⟩]
  ·rw [List.getElem?_append_right (by omega),List.getElem?_drop,if_neg (by omega)];congr 1; omega
theorem aaO {α:Type}{l:List α}{k:Nat}{c:List α}{m:Nat}(h:k+c.length<=m) (hm:m<=l.length):(e4 l k c).take m=e4 (l.take m) k c:=by
 have h1:k+c.length<=(l.take m).length:=by rw [List.length_take]; omega
 apply List.ext_getElem?;intro j;rw [List.getElem?_take,rO h1,rO (l:=l) (by omega),List.getElem?_take];by_cases ag:j<m
 ·rw [if_pos ag,if_pos ag]
 ·rw [if_neg ag,if_neg ag,if_neg (by omega)]
def ab.e4 (x:ab) (k:Nat) (c:List ab):ab :=
 match x with
 | .own z n cs=>.own z n (Own.e4 cs k c)
 | .obj cs=>.obj (Own.e4 cs k c)
 | x=>x
section
variable {w:World}{I:a'}{T:Array Value}{g:aM}{Fs:Nat->a'}
theorem R.wm {ρ:ab->Value->Prop}{nc:ab->Prop}{x:ab}{v:Value}{F:a'}(h:R w I ρ x v F):jE nc x->R w I (λr u=>ρ r u/\nc r) x v F:=by
 induction h with
 | lit h aH=>exact λ_=>.lit h aH
 | aS aH=>exact λ_=>.aS aH
 | dead aH=>exact λ_=>.dead aH
 | mv aH=>exact λ_=>.mv aH
 | @ref x _ _ J h aH =>
  intro hk;refine .ref J ⟨h,?_⟩ aH;cases hk with
  | ref _ h=>exact h
  | bn h=>cases h <;> simp [ab.isRef] at J
  | _=>simp [ab.isRef] at J
 | gK aH=>exact λ_=>.gK aH
 | mp aX aq aH=>exact λ_=>.mp aX aq aH
 | hY aX h1 aH=>exact λ_=>.hY aX h1 aH
 | imp aH bc aX aq=>exact λ_=>.imp aH bc aX aq
 | bl aH lW bc av ah h1 aa hr aO =>
  intro hk;cases hk with
  | ref J=>simp [ab.isRef] at J
  | bn h=>cases h with | bl h=>exact .bl aH lW bc av ah h1 aa λk x J=>aO k x J (.bn (h x (List.mem_of_getElem? J)))
 | cx aH bc av h1 aa hr aO =>
  intro hk;cases hk with
  | ref J=>simp [ab.isRef] at J
  | bn h=>cases h with | cx h=>exact .cx aH bc av h1 aa λk x J=>aO k x J (.bn (h x (List.mem_of_getElem? J)))
 | own aX ah h1 hr aQ ar aH aO =>
  intro hk;refine .own aX ah h1 (λk x u J hu=>aO k x u J hu ?_) aQ ar aH;cases hk with
  | ref J=>simp [ab.isRef] at J
  | bn h=>cases h with | own h=>exact .bn (h x (List.mem_of_getElem? J))
  | own h=>exact h x (List.mem_of_getElem? J)
 | obj aX ah h1 hr aQ ar aH av aO =>
  intro hk;refine .obj aX ah h1 (λk x u J hu=>aO k x u J hu ?_) aQ ar aH av;cases hk with
  | ref J=>simp [ab.isRef] at J
  | bn h=>cases h with | obj h=>exact .bn (h x (List.mem_of_getElem? J))
  | obj h=>exact h x (List.mem_of_getElem? J)
 | agg ah h1 hr aQ aH aO =>
  intro hk;refine .agg ah h1 (λk x u J hu=>aO k x u J hu ?_) aQ aH;cases hk with
  | ref J=>simp [ab.isRef] at J
  | bn h=>cases h with | agg h=>exact .bn (h x (List.mem_of_getElem? J))
  | agg h=>exact h x (List.mem_of_getElem? J)
 | bR ah hr aQ aH aO =>
  intro hk;refine .bR ah (λk x u J hu=>aO k x u J hu ?_) aQ aH;cases hk with
  | ref J=>simp [ab.isRef] at J
  | bn h=>cases h with | bR h=>exact .bn (h x (List.mem_of_getElem? J))
  | bR h=>exact h x (List.mem_of_getElem? J)
 | @cD fn first caps v1 v2 F aH h1 af i' hK gj fV =>
  intro hk;have:(∀ x∈first,jE nc x)/\∀ x∈caps,jE nc x:=by
   cases hk with
   | ref J=>simp [ab.isRef] at J
   | bn h=>cases h with | cD h1 af=>exact ⟨λx J=>.bn (h1 x J),λx J=>.bn (af x J)⟩
   | cD h1 af=>exact ⟨h1,af⟩
  exact .cD aH h1 af (λk x u J hu=>gj k x u J hu (this.1 x (List.mem_of_getElem? J))) (λk x u J hu=>fV k x u J hu (this.2 x (List.mem_of_getElem? J)))
theorem jG.store (bf:jG w I T g Fs) {p:Place}{nd:ab}{z n:Nat}{cs:List ab}(aq:bE g p=some nd) (eG:nd=.own z n cs\/nd=.obj cs) {k:Nat}{cs':List ab}(hk:k+cs'.length<=cs.length)
  {iR:List Value}{dm:Nat->a'}(hH:Hand w I (fp w T) Fs cs' iR dm) (oF:∀ x∈cs',cG x) (ly:nd=.obj cs->tE cs') (hz:∀ (j:Nat) (u:Value),iR[j]?=some u->u.oneCell'=true)
  {g2:aM}(zJ:∀ t x,g2 t=some x->ct g p (nd.e4 k cs') t=some x)
  (sg:∀ t x,g2 t=some x->∀ y,g t=some y->jE (λr=>gE g r/\Clear p k cs'.length r/\gE g2 r) y) (lx:∀ t z q n m new,g2 t≠some (.bI z q n m new)) (j9:g2 p.root≠none) {b:Nat}{v:Value}
  (hv:dy w T p=some v) (ar:addrOf v=some ⟨b,0,none⟩) {e:TypeId}{arr:Array Value}(k_:w.heap[b]?=some (.cells arr e (0,0))) :
  ∃ bW,cB (w.setRow b (e4 arr.toList k iR).toArray) I T g2 bW/\∀ t c,bW t c->Fs t c\/∃ j,j<cs'.length/\dm j c:=by
 have lD:∀ z q n m new,nd≠.bI z q n m new:=by rcases eG with rfl | rfl <;> simp
 have hlen:=hH.len;have px:∀ c,c≠b->(w.setRow b (e4 arr.toList k iR).toArray).heap[c]?=w.heap[c]?:=λc aa=>setRow_other w b c _ aa;have En:(w.setRow b (e4 arr.toList k iR).toArray).heap[b]?=some (.cells (e4 arr.toList k iR).toArray e (0,0)):=setRow_heap w b arr _ e (0,0) k_;have RD:(w.setRow b (e4 arr.toList k iR).toArray).heap.size=w.heap.size:=by simp
 generalize vM:w.setRow b (e4 arr.toList k iR).toArray=w' at *
 -- the slot of the node
 obtain ⟨dU,ix⟩:∃ dU,g p.root=some dU:=by
  unfold bE at aq;cases J:g p.root with
  | none=>rw [J] at aq; cases aq
  | some x=>exact ⟨x,rfl⟩
 have pI:dU.at p.path=some nd:=by simpa [bE,ix] using aq
 obtain ⟨v0,ky,gu⟩:=bf.rel _ _ ix;have B7:=gu.gw (by rintro z q n m new rfl; exact lD _ _ _ _ _ (ab.sX pI).2);have ny:jE (λr=>gE g r/\Clear p k cs'.length r/\gE g2 r) dU:=by
  cases af:g2 p.root with
  | none=>exact absurd af j9
  | some y=>exact sg _ _ af _ ix
 let Md:ab->Value->Prop:=λr u=>fp w T r u/\gE g r/\Clear p k cs'.length r/\gE g2 r;have qs:R w I Md dU v0 (Fs p.root):=B7.wm ny;obtain ⟨h4,cq,hw,dt,c_,eP,kD⟩:=R.focus p.path qs pI;have Kk:h4=v:=by simp only [dy,ky,hw,Option.some.injEq] at hv; exact hv
 subst Kk;have nY:cq b:=dt.Gj (z:=z) (n:=n) eG ar;have same:∀ t c,Fs t c->c≠b->w'.heap[c]?=w.heap[c]?:=λ_ c _ aa=>px c aa;have s3:∀ c,I c->w'.heap[c]?=w.heap[c]?:=λc aa=>px c λe=>bf.bl _ b (c_ b nY) (e ▸ aa);have FF:∀ t,t≠p.root->¬ Fs t b:=λt au h=>au (bf.ec _ _ _ h (c_ b nY))
 -- ways that are clear of the cells
 obtain ⟨abn,abo⟩:=eP w' λc aa aC=>px c λe=>aC (e ▸ nY);have PD:∀ (ρ':ab->Value->Prop),(∀ x v,Md x v->ρ' x v)->(∃ cU,R w' I ρ' (nd.e4 k cs') h4 cU/\∀ c,cU c->cq c\/∃ j,j<cs'.length/\dm j c)/\∀ j c' y,(j<k\/k+cs'.length<=j)->nd.at (j::c')=some y->walk w' h4 (j::c')=walk w h4 (j::c'):=by
  intro ρ' l1;have new:∀ (j:Nat) (x:ab) (u:Value),cs'[j]?=some x->iR[j]?=some u->R w' I ρ' x u (dm j):=by
   intro j x u J hu;have ag:j<cs'.length:=(List.getElem?_eq_some_iff.1 J).1;have:=(hH.rel j x u J hu).bn (ρ':=ρ') (oF x (List.mem_of_getElem? J));exact this.frame s3 (λ_ h=>h) (λ_ _ h=>h) λc aa=>px c λe=>hH.off j p.root b ag (e ▸ aa) (c_ b nY)
  rcases eG with rfl | rfl
  ·cases dt with
   | ref J=>simp [ab.isRef] at J
   | @own _ _ _ _ b5 us bD _ aX ah h1 hr aQ i_ aH =>
    obtain ⟨nz,bO⟩:=aX;rcases bO with ⟨rfl,_⟩ | ⟨dR,cap,cur,rfl,uO,jy,AX,yr,GF,D1⟩
    ·simp [addrOf] at ar
    ·simp only [addrOf,Option.some.injEq,Addr.mk.injEq,and_true] at ar;subst ar;rw [k_] at jy;cases jy;have WY:n * z<=arr.toList.length:=by
      rw [<- nz,<- D1,List.length_take] ; simp; omega
     have aeL:us.length=cs.length:=ah.symm;have ml:w'.ownsRow 0 e z (.slice (some ⟨dR,0,none⟩) n cap) n (e4 us k iR):=by
      refine ⟨by rw [rP (by omega),nz],.inr ⟨dR,cap,_,rfl,uO,En,AX,yr,?_,?_⟩⟩
      ·rw [List.size_toArray,rP (by omega),Array.length_toList,GF]
      ·show (e4 arr.toList k iR).take (n * z)=_;rw [aaO (by omega) WY,D1]
     have N4:∀ j,j<cs.length->¬ bD j dR:=λj ag h=>i_ j dR ag h rfl;have eE:∀ j c,j<cs.length->bD j c->Fs p.root c:=λj c ag aa=>c_ c ((aH c).2 (.inr ⟨j,ag,aa⟩));refine ⟨⟨_,.own (Fs:=λj=>if k<=j/\j<k+cs'.length then dm (j - k) else bD j) ml (by rw [rP hk,rP (by omega),ah]) (λj u hu=>?_) (λj x u J hu=>?_) (λi j c hi ag aa et=>?_) (λj c ag aa vK=>?_) (λc=>Iff.rfl),λc aa=>?_⟩,λj c' y ag ao=>?_⟩
     ·rw [rO (by omega)] at hu
      split at hu
      ·exact hz _ u hu
      ·exact h1 j u hu
     ·rw [rO hk] at J;rw [rO (by omega),<- hlen] at hu;by_cases gH:k<=j/\j<k+cs'.length
      ·rw [if_pos gH] at J hu;simpa [gH] using new (j - k) x u J hu
      ·rw [if_neg gH] at J hu;have eF:j<cs.length:=(List.getElem?_eq_some_iff.1 J).1;rw [if_neg gH];exact (hr j x u J hu).frame s3 (λ_ h=>h) l1 λc aa=>px c λe=>N4 j eF (e ▸ aa)
     ·rw [rP hk] at hi ag;by_cases h1:k<=i/\i<k+cs'.length <;> by_cases af:k<=j/\j<k+cs'.length <;> simp only [h1,af,if_false] at aa et
      ·have:=hH.ec (i - k) (j - k) c (by omega) (by omega) (by simpa using aa) (by simpa using et);omega
      ·exact absurd (eE j c ag et) (hH.off (i - k) _ c (by omega) (by simpa using aa))
      ·exact absurd (eE i c hi aa) (hH.off (j - k) _ c (by omega) (by simpa using et))
      ·exact aQ i j c hi ag aa et
     ·rw [rP hk] at ag;by_cases h1:k<=j/\j<k+cs'.length
      ·rw [if_pos h1] at aa;simp only [Value.ownBlock,Option.some.injEq] at vK;subst vK;exact hH.off (j - k) p.root dR (by omega) aa (c_ dR nY)
      ·rw [if_neg h1] at aa; exact i_ j c ag aa vK
     ·rcases aa with aa | ⟨j,ag,aa⟩
      ·exact .inl ((aH c).2 (.inl aa))
      ·rw [rP hk] at ag;by_cases h1:k<=j/\j<k+cs'.length
       ·rw [if_pos h1] at aa; exact .inr ⟨j - k,by omega,aa⟩
       ·rw [if_neg h1] at aa; exact .inl ((aH c).2 (.inr ⟨j,ag,aa⟩))
     ·obtain ⟨c,pa,aa⟩:=ab.vd ao;simp only [ab.kids] at pa;have eF:j<cs.length:=(List.getElem?_eq_some_iff.1 pa).1;have hu:us[j]?=some us[j]:=List.getElem?_eq_getElem (by omega);have nZ:child w (.slice (some ⟨dR,0,none⟩) n cap) j=some us[j]:=by
       refine pk (e:=e) (z:=z) (n:=n) (us:=us) ⟨nz,.inr ⟨dR,cap,arr,rfl,uO,k_,AX,yr,GF,D1⟩⟩ hu
      have Cm:child w' (.slice (some ⟨dR,0,none⟩) n cap) j=some us[j]:=by
       refine pk ml ?_;rw [rO (by omega),if_neg (by omega)]; exact hu
      have:=R.p6 (w':=w') c' (hr j c _ pa hu) aa λc aa=>px c λe=>N4 j eF (e ▸ aa);simp [walk,nZ,Cm,this]
  ·cases dt with
   | ref J=>simp [ab.isRef] at J
   | @obj _ dR b5 jl bD _ aX ah h1 hr aQ i_ aH av =>
    simp only [addrOf,Option.some.injEq,Addr.mk.injEq,and_true] at ar;subst ar;rw [k_] at aX;cases aX;have vr:cs.length=arr.toList.length:=by simp [ah]
    have eE:∀ j c,j<cs.length->bD j c->Fs p.root c:=λj c ag aa=>c_ c ((aH c).2 (.inr ⟨j,ag,aa⟩));refine ⟨⟨_,.obj (Fs:=λj=>if k<=j/\j<k+cs'.length then dm (j - k) else bD j) En (by rw [rP hk,List.size_toArray,rP (by omega),vr]) (λj u hu=>?_) (λj x u J hu=>?_) (λi j c hi ag aa et=>?_) (λj ag aa=>?_) (λc=>Iff.rfl) (λi j u hi hu=>?_),λc aa=>?_⟩,λj c' y ag ao=>?_⟩
    ·rw [List.getElem?_toArray,rO (by omega)] at hu
     split at hu
     ·exact hz _ u hu
     ·exact h1 j u (by simpa using hu)
    ·rw [rO hk] at J;rw [List.getElem?_toArray,rO (by omega),<- hlen] at hu;by_cases gH:k<=j/\j<k+cs'.length
     ·rw [if_pos gH] at J hu;simpa [gH] using new (j - k) x u J hu
     ·rw [if_neg gH] at J hu;have eF:j<cs.length:=(List.getElem?_eq_some_iff.1 J).1;rw [if_neg gH];exact (hr j x u J (by simpa using hu)).frame s3 (λ_ h=>h) l1 λc aa=>px c λe=>i_ j eF (e ▸ aa)
    ·rw [rP hk] at hi ag;by_cases h1:k<=i/\i<k+cs'.length <;> by_cases af:k<=j/\j<k+cs'.length <;> simp only [h1,af,if_false] at aa et
     ·have:=hH.ec (i - k) (j - k) c (by omega) (by omega) (by simpa using aa) (by simpa using et);omega
     ·exact absurd (eE j c ag et) (hH.off (i - k) _ c (by omega) (by simpa using aa))
     ·exact absurd (eE i c hi aa) (hH.off (j - k) _ c (by omega) (by simpa using et))
     ·exact aQ i j c hi ag aa et
    ·rw [rP hk] at ag;by_cases h1:k<=j/\j<k+cs'.length
     ·rw [if_pos h1] at aa;exact hH.off (j - k) p.root dR (by omega) aa (c_ dR nY)
     ·rw [if_neg h1] at aa; exact i_ j ag aa
    ·rw [rO hk] at hi;rw [List.getElem?_toArray,rO (by omega),<- hlen] at hu;by_cases vA:k<=i/\i<k+cs'.length
     ·rw [if_pos vA] at hi; exact absurd hi (ly rfl _ _)
     ·rw [if_neg vA] at hi hu; exact av i j u hi (by simpa using hu)
    ·rcases aa with aa | ⟨j,ag,aa⟩
     ·exact .inl ((aH c).2 (.inl aa))
     ·rw [rP hk] at ag;by_cases h1:k<=j/\j<k+cs'.length
      ·rw [if_pos h1] at aa; exact .inr ⟨j - k,by omega,aa⟩
      ·rw [if_neg h1] at aa; exact .inl ((aH c).2 (.inr ⟨j,ag,aa⟩))
    ·obtain ⟨c,pa,aa⟩:=ab.vd ao;simp only [ab.kids] at pa;have eF:j<cs.length:=(List.getElem?_eq_some_iff.1 pa).1;have hu:arr[j]?=some arr[j]:=Array.getElem?_eq_getElem (by omega);have nZ:child w (.pointer (some ⟨dR,0,none⟩)) j=some arr[j]:=by simp [child,World.cell?,k_,hu]
     have Cm:child w' (.pointer (some ⟨dR,0,none⟩)) j=some arr[j]:=by
      have aE:(e4 arr.toList k iR)[j]?=some arr[j]:=by
       rw [rO (by omega),if_neg (by omega)]; simp
      simp [child,World.cell?,En,aE]
     have:=R.p6 (w':=w') c' (hr j c _ pa hu) aa λc aa=>px c λe=>i_ j eF (e ▸ aa);simp [walk,nZ,Cm,this]
 have val:∀ q y,bE g q=some y->(q.root=p.root->∀ j c',q.path=p.path++j::c'->j<k\/k+cs'.length<=j)->dy w' T q=dy w T q:=by
  intro q y a_ hT;by_cases hr:q.root=p.root
  ·have fI:dU.at q.path=some y:=by simpa [bE,hr,ix] using a_
   rcases abo q.path y fI with ⟨c',dH⟩ | h
   ·have vM:walk w' v0 q.path=walk w v0 q.path:=by
     rw [dH,Eo,Eo,abn,hw];simp only [Option.bind_some];cases c' with
     | nil=>rfl
     | cons j c' =>
      rw [dH,ab.H2,pI] at fI;exact (PD (λ_ _=>True) (λ_ _ _=>trivial)).2 j c' y (hT hr j c' dH) fI
    simp [dy,hr,ky,vM]
   ·simp [dy,hr,ky,h]
  ·unfold bE at a_;cases J:g q.root with
   | none=>rw [J] at a_; cases a_
   | some x =>
    rw [J] at a_;obtain ⟨u,hu,aY⟩:=bf.rel _ _ J;cases aY with
    | tree aY =>
     have:=R.p6 (w':=w') q.path aY a_ λc aa=>px c λe=>FF _ hr (e ▸ aa);simp [dy,hu,this]
    | bI aY=>simp [dy,hu,(ab.sX a_).1,walk]
 have slot:∀ {q:Place}{x:ab},q.path=[]->g q.root=some x->dy w' T q=dy w T q:=by
  intro q x a_ J;obtain ⟨u,hu,_⟩:=bf.rel _ _ J;simp [dy,a_,walk]
 have refs:∀ r u,Md r u->dz w' T g2 r u:=by
  rintro r u ⟨h1,af,aE,bm⟩;refine ⟨?_,bm⟩;cases r <;> simp only [fp,gE] at h1 af ⊢
  case ptr q j=>obtain ⟨y,ao,_⟩:=af; rw [val q y ao (aE q rfl)]; exact h1
  case a6 bQ q cm =>
   rcases af with ⟨_,_,af,_⟩ | ⟨aK,_,_,_,_,af,_⟩
   ·rw [val q _ af (aE q rfl)]; exact h1
   ·rw [slot aK af]; exact h1
  case sub bQ q lo cm=>obtain ⟨_,_,af,_⟩:=af; rw [val q _ af (aE q rfl)]; exact h1
  case gm q=>obtain ⟨_,af⟩:=af; rw [val q _ af (aE q rfl)]; exact h1
  case bI bQ q cm m' cO =>
   rcases af with ⟨_,af⟩ | ⟨aK,_,_,_,_,_,af,_⟩
   ·rw [val q _ af (aE q rfl)]; exact h1
   ·rw [slot aK af]; exact h1
 obtain ⟨⟨Fn,Wb,N5⟩,_⟩:=PD (dz w' T g2) refs;obtain ⟨cU,B8,oC⟩:=kD w' I (dz w' T g2) _ Fn ⟨s3,λc aa aC=>px c λe=>aC (e ▸ nY),λ_ h=>h,refs⟩ Wb (λc aa et=>by
  rcases N5 c aa with h | ⟨j,ag,h⟩
  ·exact h
  ·exact absurd et (hH.off j _ c ag h)) (λj h=>by rcases eG with rfl | rfl <;> simp [ab.e4] at h)
 have B0:∀ c,cU c->Fs p.root c\/∃ j,j<cs'.length/\dm j c:=by
  intro c aa;rcases (oC c).1 aa with h | h
  ·exact .inl h.1
  ·rcases N5 c h with h | h
   ·exact .inl (c_ c h)
   ·exact .inr h
 let bW:Nat->a':=λt c=>if t=p.root then cU c else g2 t≠none/\Fs t c
 have pH:∀ t c,bW t c->Fs t c\/∃ j,j<cs'.length/\dm j c:=by
  intro t c aa;by_cases au:t=p.root
  ·simp only [bW,if_pos au] at aa; rw [au]; exact B0 c aa
  ·simp only [bW,if_neg au] at aa; exact .inl aa.2
 refine ⟨bW,⟨λt x J=>?_,λt au c aa=>?_,λt t' c aa et=>?_,λt c aa hi=>?_,λc aa=>by have:=bf.lt c aa; omega,λt t' z q n m new bQ cm m' cO h1=>absurd h1 (lx _ _ _ _ _ _),cF.keep bf.hW s3 λ_ h=>h⟩,pH⟩
 ·have fc:=zJ t x J;by_cases au:t=p.root
  ·subst au;have CW:dU.setAt p.path (nd.e4 k cs')=x:=by simpa [ct,ix] using fc
   refine ⟨v0,ky,.tree ?_⟩;have xb:bW p.root=cU:=by funext c; simp [bW]
   rw [<- CW,xb]; exact B8
  ·rw [wu au] at fc;obtain ⟨u,hu,aY⟩:=bf.rel t x fc;replace aY:=aY.gw (by rintro z q n m new rfl; exact lx _ _ _ _ _ _ J);have xb:bW t=Fs t:=by
    funext c;exact propext ⟨λh=>by simp only [bW,if_neg au] at h; exact h.2,λh=>by simp only [bW,if_neg au]; exact ⟨by rw [J]; simp,h⟩⟩
   refine ⟨u,hu,.tree ?_⟩;rw [xb];exact (aY.wm (sg t x J x fc)).frame s3 (λ_ h=>h) refs λc aa=>px c λe=>FF t au (e ▸ aa)
 ·by_cases hV:t=p.root
  ·exact j9 (hV ▸ au)
  ·simp only [bW,if_neg hV] at aa; exact aa.1 au
 ·by_cases h1:t=p.root <;> by_cases af:t'=p.root
  ·rw [h1,af]
  ·simp only [bW,if_pos h1] at aa; simp only [bW,if_neg af] at et;rcases B0 c aa with h | ⟨j,ag,h⟩
   ·exact absurd (bf.ec _ _ _ h et.2) (Ne.symm af)
   ·exact absurd et.2 (hH.off j _ c ag h)
  ·simp only [bW,if_neg h1] at aa; simp only [bW,if_pos af] at et;rcases B0 c et with h | ⟨j,ag,h⟩
   ·exact absurd (bf.ec _ _ _ aa.2 h) h1
   ·exact absurd aa.2 (hH.off j _ c ag h)
  ·simp only [bW,if_neg h1] at aa; simp only [bW,if_neg af] at et;exact bf.ec _ _ _ aa.2 et.2
 ·rcases pH t c aa with h | ⟨j,ag,h⟩
  ·exact bf.bl _ c h hi
  ·exact hH.bl j c ag h hi
end
section
variable {P:Program}{w:World}{I:a'}{T:Array Value}{g:aM}{Fs:Nat->a'}
theorem View.Rg (h:jG w I T g Fs) {x x':ab}(hv:View g x x'):∀ {v:Value}{F:a'},R w I (fp w T) x v F->(∀ c,F c->∃ t,Fs t c)->∀ ρ',R w (λc=>I c\/∃ t,Fs t c) ρ' x' v cg:=by
 induction hv with
 | qF =>
  intro v F aY aH ρ';have:=aY.rv;subst this;exact .gK λ_ h=>h
 | mp =>
  intro v F aY aH ρ';cases aY with
  | ref J=>simp [ab.isRef] at J
  | mp aX aq ar=>exact .imp (λ_ h=>h) (.inr (aH _ ((ar _).2 rfl))) aX aq
 | gm aq =>
  intro v F aY aH ρ';cases aY with
  | ref _ hr _ =>
   obtain ⟨b,ar,rfl⟩:=hr;obtain ⟨dK,cq,ij,dt,c_,_⟩:=h.part aq (by simp);rw [ar] at ij;cases ij;cases dt with
   | ref J=>simp [ab.isRef] at J
   | mp aX aq ar=>exact .imp (λ_ h=>h) (.inr ⟨_,c_ _ ((ar _).2 rfl)⟩) aX aq
 | self aC h1 af aE bm b7 =>
  intro v F aY aH ρ';refine ((aY.bn aC).oa λc aa=>.inl aa).empty ?_;cases aY with
  | mp=>exact absurd rfl (b7.1 _)
  | hY=>exact absurd rfl (b7.2 _ _)
  | lit _ aH | aS aH | dead aH | mv aH | ref _ _ aH | gK aH | bl aH | cx aH | cD aH | imp aH=>exact aH
  | own=>exact absurd rfl (h1 _ _ _)
  | obj=>exact absurd rfl (af _)
  | agg=>exact absurd rfl (aE _)
  | bR=>exact absurd rfl (bm _)
 | @agg cs cs' ah _ aO =>
  intro v F aY aH ρ';cases aY with
  | ref J=>simp [ab.isRef] at J
  | @agg _ vs bD _ hU h1 hr aQ me =>
   refine .agg (Fs:=λ_=>cg) (by rw [ah,hU]) h1 (λk y u ao hu=>?_) (λ_ _ _ _ _ h=>h.elim) (λc=>⟨λh=>h.elim,λ⟨_,_,h⟩=>h⟩);have hk:k<cs.length:=by rw [<- ah]; exact (List.getElem?_eq_some_iff.1 ao).1
   have J:=List.getElem?_eq_getElem hk;exact aO k _ y J ao (hr k _ u J hu) (λc aa=>aH c ((me c).2 ⟨k,hk,aa⟩)) ρ'
 | @cD fn cs cs' ah _ aO =>
  intro v F aY aH ρ';cases aY with
  | ref J=>simp [ab.isRef] at J
  | @cD _ _ _ v1 v2 _ mM h1 af i' hK =>
   refine .cD (λ_ h=>h) h1 (by rw [ah,af]) (λk x u J=>by simp at J) (λk y u ao hu=>?_);have hk:k<cs.length:=by rw [<- ah]; exact (List.getElem?_eq_some_iff.1 ao).1
   have J:=List.getElem?_eq_getElem hk;exact aO k _ y J ao (hK k _ u J hu) (λc aa=>aa.elim) ρ'
 | @own z n cs cs' ah _ aO =>
  intro v F aY aH ρ';obtain ⟨a,cap,us,bD,rfl,aC,hlen,aJ,aa⟩:=aY.An;cases a with
  | none =>
   have eY:cs=[]:=by
    cases cs with
    | nil=>rfl
    | cons c cs=>obtain ⟨b,ar,_⟩:=aa 0 c rfl; cases ar
   subst eY;have lX:cs'=[]:=List.eq_nil_of_length_eq_zero (by simpa using ah);subst lX;have mj:n=0:=by
    cases aY with
    | ref J=>simp [ab.isRef] at J
    | own aX =>
     obtain ⟨_,bO⟩:=aX;rcases bO with ⟨bO,aK⟩ | ⟨b,c2,cur,bO,_⟩
     ·exact aK
     ·cases bO
   subst mj;exact .gK λ_ h=>h
  | some ad =>
   obtain ⟨b,rfl,r7⟩:=aJ ad rfl;refine .bl (us:=us) (λ_ h=>h) aC (.inr (aH b r7)) rfl (by rw [ah,hlen]) (λk y ao=>?_) (λk y ao=>?_) λk y ao=>?_
   all_goals
    have hk:k<cs.length:=by rw [<- ah]; exact (List.getElem?_eq_some_iff.1 ao).1
    have J:=List.getElem?_eq_getElem hk;obtain ⟨dR,j7,h1,af,aE,bm⟩:=aa k _ J;cases j7
   ·exact af
   ·simpa using h1
   ·exact aO k _ y J ao aE (λc aa=>aH c (bm c aa)) ρ'
 | @obj cs cs' ah _ aO =>
  intro v F aY aH ρ';cases aY with
  | ref J=>simp [ab.isRef] at J
  | @obj _ b e arr bD _ aX hU h1 hr aQ ar me =>
   refine .cx (us:=λk=>arr.getD k undef) (λ_ h=>h) (.inr (aH b ((me b).2 (.inl rfl)))) rfl (λk y ao=>?_) (λk y ao=>?_) λk y ao=>?_
   all_goals
    have hk:k<cs.length:=by rw [<- ah]; exact (List.getElem?_eq_some_iff.1 ao).1
    have J:=List.getElem?_eq_getElem hk;have hu:arr[k]?=some arr[k]:=Array.getElem?_eq_getElem (hU ▸ hk)
   ·simpa [hu] using h1 k _ hu
   ·simp [World.cell?,aX,hu]
   ·simpa [hu] using aO k _ y J ao (hr k _ _ J hu) (λc aa=>aH c ((me c).2 (.inr ⟨k,hk,aa⟩))) ρ'
 | @a6 z n N p cs cs' aq aC ah _ aO =>
  intro v F aY aH ρ';obtain ⟨a,kI,cap,h1,rfl,aE⟩:=aY.n3;obtain ⟨qO,qW,gI,hJ,mN,_⟩:=h.part aq (by simp);rw [h1] at gI;cases gI;obtain ⟨a2,r2,us,bD,h',lW,hlen,aJ,aa⟩:=hJ.An;cases h';have hle:n * z<=N * z:=Nat.mul_le_mul_right _ aC;have cell:∀ k,k<cs'.length->∃ x b,(cs.take (n * z))[k]?=some x/\a=some ⟨b,0,none⟩/\w.cell? ⟨b,k,none⟩=some (us k)/\(us k).oneCell'=true/\R w I (fp w T) x (us k) (bD k)/\∀ c,bD k c->qW c:=by
   intro k hk;rw [ah,List.length_take] at hk;have J:cs[k]?=some cs[k]:=List.getElem?_eq_getElem (by omega);obtain ⟨b,r⟩:=aa k _ J;exact ⟨_,b,by rw [List.getElem?_take,if_pos (by omega)]; exact J,r⟩
  cases a with
  | none =>
   have lX:cs'=[]:=by
    cases cs' with
    | nil=>rfl
    | cons c l=>obtain ⟨_,b,_,ar,_⟩:=cell 0 (by simp); cases ar
   subst lX;obtain ⟨_,_,h',_,_,_,sh⟩:=hJ.od;cases h';have mj:n=0:=by
    rcases Nat.eq_zero_or_pos n with aK | aK
    ·exact aK
    ·have:=sh (by omega); simp at this
   subst mj;exact .gK λ_ h=>h
  | some ad =>
   obtain ⟨b,rfl,r7⟩:=aJ ad rfl;refine .bl (us:=us) (λ_ h=>h) (by omega) (.inr ⟨_,mN b r7⟩) rfl (by rw [ah,List.length_take,hlen]; omega) (λk y ao=>?_) (λk y ao=>?_) λk y ao=>?_
   all_goals
    obtain ⟨x,dR,J,j7,bm,b7,dr,kN⟩:=cell k (List.getElem?_eq_some_iff.1 ao).1;cases j7
   ·exact b7
   ·simpa using bm
   ·exact aO k x y J ao dr (λc aa=>⟨_,mN c (kN c aa)⟩) ρ'
 | @sub z lo n N p cs cs' aq aC ah _ aO =>
  intro v F aY aH ρ';obtain ⟨a,kI,cap,ca,nq,h1,rfl,J4,aE,b7⟩:=aY.z6;obtain ⟨qO,qW,gI,hJ,mN,_⟩:=h.part aq (by simp);rw [h1] at gI;cases gI;obtain ⟨a2,r2,us,bD,h',lW,hlen,aJ,aa⟩:=hJ.An;cases h';have hle:lo * z+n * z<=N * z:=by rw [<- Nat.add_mul]; exact Nat.mul_le_mul_right _ aC
  have hU:cs'.length=n * z:=by rw [ah,List.length_take,List.length_drop,hlen]; omega
  have cell:∀ k,k<cs'.length->∃ x b,((cs.drop (lo * z)).take (n * z))[k]?=some x/\a=some ⟨b,0,none⟩/\w.cell? ⟨b,lo * z+k,none⟩=some (us (lo * z+k))/\(us (lo * z+k)).oneCell'=true/\R w I (fp w T) x (us (lo * z+k)) (bD (lo * z+k))/\∀ c,bD (lo * z+k) c->qW c:=by
   intro k hk;have J:cs[lo * z+k]?=some cs[lo * z+k]:=List.getElem?_eq_getElem (by omega);obtain ⟨b,r⟩:=aa _ _ J;exact ⟨_,b,by rw [List.getElem?_take,if_pos (by omega),List.getElem?_drop]; exact J,r⟩
  by_cases mj:n=0
  ·subst mj;have lX:cs'=[]:=List.eq_nil_of_length_eq_zero (by simpa using hU);subst lX;exact .gK λ_ h=>h
  ·obtain ⟨ad,rfl,rfl⟩:=b7 (by omega);obtain ⟨b,rfl,r7⟩:=aJ ad rfl;refine .bl (us:=λk=>us (lo * z+k)) (λ_ h=>h) J4 (.inr ⟨_,mN b r7⟩) rfl hU (λk y ao=>?_) (λk y ao=>?_) λk y ao=>?_
   all_goals
    obtain ⟨x,dR,J,j7,bm,I6,dr,kN⟩:=cell k (List.getElem?_eq_some_iff.1 ao).1;cases j7
   ·exact I6
   ·simpa using bm
   ·exact aO k x y J ao dr (λc aa=>⟨_,mN c (kN c aa)⟩) ρ'
 | @rows z n p cs cs' aq ah _ aO =>
  intro v F aY aH ρ';obtain ⟨a,kI,cap,h1,rfl,aE⟩:=aY.n3;obtain ⟨v0,e,us,ky,aX,hlen,jr,ar,hr⟩:=Rows.sound (w:=w) (I:=I) (T:=T) (Fs:=Fs) (λt z q n m new au=>h.rel t _ au) (λp z n cs aq=>by obtain ⟨v,cq,h1,af,aE,_⟩:=h.part aq (by simp); exact ⟨v,cq,h1,af,aE⟩) (λz p n v hv=>by obtain ⟨a,cap,h1,rfl⟩:=hv; exact h1) aq;rw [h1] at ky;cases ky;refine QI aX hlen jr ar ah λk x y u J ao hu=>?_;obtain ⟨bD,kp,eE⟩:=hr k x u J hu;exact aO k x y J ao kp eE ρ'
 | @ptr p k z n y cs cs' aq ao hk ah _ aO =>
  intro v F aY aH ρ';obtain ⟨u,ad,h1,af,rfl⟩:=aY.n4;obtain ⟨qO,qW,gI,hJ,mN,_⟩:=h.part aq (by rcases ao with rfl | rfl <;> simp);rw [h1] at gI;cases gI;have cell:∀ j,j<cs'.length->∃ gy lp wE,w.cell? ⟨ad.block,k+j,none⟩=some gy/\gy.oneCell'=true/\(cs.drop k)[j]?=some lp/\R w I (fp w T) lp gy wE/\(∀ c,wE c->∃ t,Fs t c):=by
   intro j ag;rw [ah,List.length_drop] at ag;have fc:cs[k+j]?=some cs[k+j]:=List.getElem?_eq_getElem (by omega);obtain ⟨b,gy,fE,mP,nZ,hz,_⟩:=hJ.node ao fc;rw [af] at fE;cases fE;have fI:bE g (p.push (k+j))=some cs[k+j]:=by rw [tP,aq]; rcases ao with rfl | rfl <;> simp [ab.kids]
   by_cases gS:∃ bQ fG cm m' cO,cs[k+j]=.bI bQ fG cm m' cO
   ·obtain ⟨bQ,fG,cm,m',cO,gS⟩:=gS;obtain ⟨b,abh,_,_,Cm,_,bD,kp⟩:=hJ.node ao fc;rw [gS] at kp;exact kp.lD.elim
   ·obtain ⟨pw,HH,sj,Jg,me,_⟩:=h.part fI (λbQ fG cm m' cO e=>gS ⟨_,_,_,_,_,e⟩);rw [yI,h1] at sj;simp only [Option.bind_some] at sj;rw [nZ] at sj;cases sj;exact ⟨gy,_,HH,mP,hz,by rw [List.getElem?_drop]; exact fc,Jg,λc aa=>⟨_,me c aa⟩⟩
  obtain ⟨b,gy,fE,_⟩:=hJ.node ao (List.getElem?_eq_getElem hk);rw [af] at fE;cases fE;have hblk:∃ t,Fs t b:=⟨_,mN b (hJ.Gj ao af)⟩;refine .cx (us:=λj=>(w.cell? ⟨b,k+j,none⟩).getD undef) (λ_ h=>h) (.inr hblk) rfl (λj iS tf=>?_) (λj iS tf=>?_) λj iS tf=>?_
  all_goals
   obtain ⟨gy,lp,wE,c1,c2,kK,c4,jH⟩:=cell j (List.getElem?_eq_some_iff.1 tf).1
  ·simpa [c1] using c2
  ·simp [c1]
  ·simpa [c1] using aO j lp iS kK tf c4 jH ρ'
end
def qJ (g:aM):List (Place × ab)->aM
 | []=>g
 | (p,x)::l=>qJ (ct g p x) l
structure Si (g g2:aM) (all:List ab) (outs:List (Option ab)) (k:Nat) (p:Place) (x:ab):Prop where
 out:outs[k]?=some (some x)
 MP:bE g2 p=some .dead
 arg:(∃ z n cs,all[k]?=some (.a6 z p n)/\bE g p=some (.own z n cs))\/(∃ cs,all[k]?=some (.ptr p 0)/\bE g p=some (.obj cs))
 jx:∀ i,x≠.self i
section
variable {P:Program}{w:World}{I:a'}{T:Array Value}{g:aM}{Fs:Nat->a'}
theorem S2 (h:cB w I T g Fs) {z n:Nat}{p:Place}{cs:List ab}{v:Value}{F:a'}(aY:R w I (dz w T g) (.a6 z p n) v F) (aq:bE g p=some (.own z n cs)):dy w T p=some v:=by
 obtain ⟨⟨a,kI,cap,h1,rfl,aE⟩,_⟩:=aY.n3;obtain ⟨qO,qW,gI,hJ,mN⟩:=h.part aq (by simp);rw [h1] at gI;cases gI;obtain ⟨a2,r2,h',_⟩:=hJ.od;cases h';exact h1
theorem S1 (h:cB w I T g Fs) {p:Place}{cs:List ab}{v:Value}{F:a'}(aY:R w I (dz w T g) (.ptr p 0) v F) (aq:bE g p=some (.obj cs)):dy w T p=some v:=by
 obtain ⟨⟨u,ad,h1,af,rfl⟩,_⟩:=aY.n4;obtain ⟨qO,qW,gI,hJ,mN⟩:=h.part aq (by simp);rw [h1] at gI;cases gI;cases hJ with
 | ref J=>simp [ab.isRef] at J
 | obj=>simp only [addrOf,Option.some.injEq] at af; subst af; exact h1
theorem aau {g:aM}{p q:Place}{y:ab}(a_:bE g q=some .dead) (aq:bE g p=some .dead) (cS:p≠q):bE (ct g p y) q=some .dead:=by
 by_cases hr:q.root=p.root
 ·obtain ⟨r,pp⟩:=p;obtain ⟨c',tq⟩:=q;simp only at hr;subst hr;have FG:pp≠tq:=λe=>cS (by rw [e]);simp only [bE,ct,if_true] at *;cases J:g c' with
  | none=>rw [J] at aq; cases aq
  | some x =>
   rw [J] at aq a_;simp only [Option.map_some];have:∀ (pp tq:List Nat) (x:ab),pp≠tq->x.at pp=some .dead->x.at tq=some .dead->(x.setAt pp y).at tq=some .dead:=by
    intro pp
    induction pp with
    | nil =>
     intro tq x cS h1 af;simp only [ab.at,Option.some.injEq] at h1;subst h1;cases tq with
     | nil=>exact absurd rfl cS
     | cons k q=>simp [ab.at,ab.kids] at af
    | cons k pp aO =>
     intro tq x cS h1 af;cases tq with
     | nil =>
      simp only [ab.at,Option.some.injEq] at af;subst af;simp [ab.at,ab.kids] at h1
     | cons j q =>
      simp only [ab.at] at h1 af;cases hk:x.kids[k]? with
      | none=>rw [hk] at h1; cases h1
      | some c =>
       rw [hk] at h1;simp only at h1;have zW:x.setAt (k::pp) y=x.sI k (c.setAt pp y):=by simp only [ab.setAt,hk]
       rw [zW];have dv:k<x.kids.length:=(List.getElem?_eq_some_iff.1 hk).1;have JS:(x.sI k (c.setAt pp y)).kids=x.kids.set k (c.setAt pp y):=by
        cases x <;> simp [ab.sI,ab.kids] at dv ⊢
       simp only [ab.at,JS];by_cases gH:j=k
       ·subst gH;rw [List.getElem?_set_self dv];rw [hk] at af;exact aO q c (λe=>cS (by rw [e])) h1 af
       ·rw [List.getElem?_set_ne (Ne.symm gH)];exact af
   exact this pp tq x FG aq a_
 ·rw [GY hr]; exact a_
theorem jG.qJ:∀ (l:List (Place × ab)) (dm:Nat->a') (vs:Nat->Value) {g:aM}{Fs:Nat->a'},jG w I T g Fs->(l.map (·.1)).Nodup->(∀ (j:Nat) (p:Place) (x:ab),l[j]?=some (p,x)->bE g p=some .dead/\dy w T p=some (vs j)/\R w I (fp w T) x (vs j) (dm j)/\∀ i,x≠.self i) ->
  (∀ (j t c:Nat),j<l.length->dm j c->¬ Fs t c)->(∀ (j c:Nat),j<l.length->dm j c->¬ I c)->(∀ (i j c:Nat),i<l.length->j<l.length->dm i c->dm j c->i=j) ->
  ∃ bW,jG w I T (qJ g l) bW/\∀ t c,bW t c->Fs t c\/∃ j,j<l.length/\dm j c
 | [],_,_,g,Fs,bf,_,_,_,_,_=>⟨Fs,bf,λ_ _ h=>.inl h⟩
 | (p,x)::l,dm,vs,g,Fs,bf,eG,ah,pb,xq,nx=>by
  obtain ⟨h1,af,aE,bm⟩:=ah 0 p x rfl;obtain ⟨v,cq,hv,dt,c_,put⟩:=bf.part h1 (by simp);rw [af] at hv;cases hv;obtain ⟨fx,iZ,xa,B1⟩:=put x (dm 0) aE (λc aa aU=>absurd aU (pb 0 _ c (by simp) aa)) (λc aa=>xq 0 c (by simp) aa) (λt c _ aa=>pb 0 t c (by simp) aa) (λi e=>absurd e (bm i));have hL:∀ t c,fx t c->Fs t c\/dm 0 c:=by
   intro t c aa;by_cases au:t=p.root
   ·subst au;rcases (xa c).1 aa with ⟨h,_⟩ | h
    ·exact .inl h
    ·exact .inr h
   ·rw [B1 t au] at aa; exact .inl aa
  simp only [List.map_cons,List.nodup_cons] at eG;obtain ⟨jY,iw,Ft⟩:=jG.qJ l (λj=>dm (j+1)) (λj=>vs (j+1)) iZ eG.2 (λj q y ag=>by
    obtain ⟨aw,a2,a3⟩:=ah (j+1) q y (by simpa using ag);refine ⟨aau aw h1 ?_,a2,a3⟩;rintro rfl;exact eG.1 (List.mem_map.2 ⟨(p,y),List.mem_of_getElem? ag,rfl⟩))
   (λj t c ag aa aU=>by
    rcases hL t c aU with h | h
    ·exact pb (j+1) t c (by simpa using ag) aa h
    ·have:=nx (j+1) 0 c (by simpa using ag) (by simp) aa h; omega)
   (λj c ag aa=>xq (j+1) c (by simpa using ag) aa)
   (λi j c hi ag h1 af=>by have:=nx (i+1) (j+1) c (by simpa using hi) (by simpa using ag) h1 af; omega)
  refine ⟨jY,iw,λt c aa=>?_⟩;rcases Ft t c aa with h | ⟨j,ag,h⟩
  ·rcases hL t c h with h | h
   ·exact .inl h
   ·exact .inr ⟨0,by simp,h⟩
  ·exact .inr ⟨j+1,by simpa using ag,h⟩
end
inductive gX:ab->ab->Prop
 | refl {x:ab}:gX x x
 | Df {z:Nat}:gX .aS (.own z 0 [])
 | pe {x y:ab}(aC:cG x) (h:View (λ_=>none) x y):gX x y
 | own {z n:Nat}{cs cs':List ab}(ah:cs'.length=cs.length) (h:∀ (k:Nat) (x y:ab),cs[k]?=some x->cs'[k]?=some y->gX x y):gX (.own z n cs) (.own z n cs')
 | obj {cs cs':List ab}(ah:cs'.length=cs.length) (h:∀ (k:Nat) (x y:ab),cs[k]?=some x->cs'[k]?=some y->gX x y):gX (.obj cs) (.obj cs')
 | agg {cs cs':List ab}(ah:cs'.length=cs.length) (h:∀ (k:Nat) (x y:ab),cs[k]?=some x->cs'[k]?=some y->gX x y):gX (.agg cs) (.agg cs')
theorem View.up {g g':aM}(h:∀ t x,g t=some x->g' t=some x) {x y:ab}(hv:View g x y):View g' x y:=by
 induction hv with
 | qF=>exact .qF
 | self h1 af aE bm b7 dr=>exact .self h1 af aE bm b7 dr
 | mp=>exact .mp
 | gm aq=>exact .gm (k6 h aq)
 | agg ah _ aO=>exact .agg ah aO
 | own ah _ aO=>exact .own ah aO
 | obj ah _ aO=>exact .obj ah aO
 | cD ah _ aO=>exact .cD ah aO
 | a6 aq aC ah _ aO=>exact .a6 (k6 h aq) aC ah aO
 | sub aq aC ah _ aO=>exact .sub (k6 h aq) aC ah aO
 | ptr aq ao hk ah _ aO=>exact .ptr (k6 h aq) ao hk ah aO
 | rows aq ah _ aO=>exact .rows (aq.mono (λaq=>k6 h aq) h) ah aO
theorem View.jx {g:aM}{x y:ab}{j:Nat × Nat}(h:View g x y) (e:y=.self j):x=.self j:=by
 cases h <;> first | exact e | cases e
theorem gX.jx {x y:ab}{j:Nat × Nat}(h:gX x y) (e:y=.self j):x=.self j:=by
 cases h <;> first | exact e | exact View.jx ‹_› e | cases e
theorem Gk {F:ab->ab->Prop}{cs cs':List ab}(ah:cs'.length=cs.length) (h:∀ (k:Nat) (x y:ab),cs[k]?=some x->cs'[k]?=some y->F x y) (aH:∀ x y j,F x y->y=.self j->x=.self j) (k:Nat) (j:Nat × Nat) (hk:cs'[k]?=some (.self j)):cs[k]?=some (.self j):=by
 have aP:k<cs.length:=ah ▸ (List.getElem?_eq_some_iff.1 hk).1;rw [List.getElem?_eq_getElem aP];exact congrArg some (aH _ _ j (h k _ _ (List.getElem?_eq_getElem aP) hk) rfl)
theorem x1 {cs cs':List ab}(ah:cs'.length=cs.length) (aC:∀ x∈cs,cG x) (aO:∀ (k:Nat) (x y:ab),cs[k]?=some x->cs'[k]?=some y->cG x->cG y):∀ y∈cs',cG y:=by
 intro y ao;obtain ⟨k,hk⟩:=List.getElem?_of_mem ao;have dv:=(List.getElem?_eq_some_iff.1 hk).1;have J:=List.getElem?_eq_getElem (ah ▸ dv:k<cs.length)
 grind
section
variable {w:World}{I:a'}
theorem R.pe {ρ:ab->Value->Prop}{x y:ab}{v:Value}{F:a'}(aY:R w I ρ x v F) (aC:cG x) (h:View (λ_=>none) x y) (bc:∀ c,F c->¬ I c) (aP:∀ c,I c->c<w.heap.size) (jv:cF.q w I):R w (λc=>I c\/F c) ρ y v cg:=by
 have bf:jG w I #[v] (λt=>if t=0 then some x else none) (λt c=>t=0/\F c):=by
  refine ⟨λt z aW=>?_,λt au c aa=>?_,λt t' c aa et=>aa.1.trans et.1.symm,λt c aa=>bc c aa.2,aP,jv⟩
  ·by_cases aK:t=0
   ·subst aK;rw [if_pos rfl] at aW;cases aW;exact ⟨v,rfl,.tree ((aY.bn aC).zu λc=>⟨λh=>⟨rfl,h⟩,λh=>h.2⟩)⟩
   ·rw [if_neg aK] at aW; cases aW
  ·rw [if_pos aa.1] at au; cases au
 have:=View.Rg bf (h.up λ_ _ h=>by cases h) (aY.bn aC) (λc aa=>⟨0,rfl,aa⟩) ρ;exact this.oa λc aa=>by
  rcases aa with h | ⟨t,_,h⟩
  ·exact .inl h
  ·exact .inr h
theorem gX.bn {x y:ab}(h:gX x y):cG x->cG y:=by
 induction h with
 | refl=>exact id
 | Df=>exact λ_=>.own (by simp)
 | pe aC h =>
  intro _;have key:∀ {x y:ab},View (λ_=>none) x y->cG x->cG y:=by
   intro x y h
   induction h with
   | qF=>exact λ_=>.bl (by simp)
   | self h=>exact λ_=>h
   | mp=>exact λ_=>.imp
   | gm aq=>simp [bE] at aq
   | agg ah _ aO=>intro aC; cases aC with | agg aC=>exact .agg (x1 ah aC aO)
   | own ah _ aO=>intro aC; cases aC with | own aC=>exact .bl (x1 ah aC aO)
   | obj ah _ aO=>intro aC; cases aC with | obj aC=>exact .cx (x1 ah aC aO)
   | cD ah _ aO=>intro aC; cases aC with | cD h1 af=>exact .cD h1 (x1 ah af aO)
   | a6 aq=>simp [bE] at aq
   | sub aq=>simp [bE] at aq
   | ptr aq=>simp [bE] at aq
   | rows aq =>
    cases aq with
    | own aq=>simp [bE] at aq
    | bI au=>cases au
  grind
 | own ah _ aO=>intro aC; cases aC with | own aC=>exact .own (x1 ah aC aO)
 | obj ah _ aO=>intro aC; cases aC with | obj aC=>exact .obj (x1 ah aC aO)
 | agg ah _ aO=>intro aC; cases aC with | agg aC=>exact .agg (x1 ah aC aO)
theorem IX {ρ:ab->Value->Prop}{cs cs':List ab}{get:Nat->Option Value}{Fs:Nat->a'}{F B:a'}(ah:cs'.length=cs.length)
  (aN:∀ k,k<cs.length->∃ u,get k=some u)
  (aQ:∀ (j k c:Nat),j<cs.length->k<cs.length->Fs j c->Fs k c->j=k) (ar:∀ k c,k<cs.length->Fs k c->¬ B c) (aH:∀ c,F c↔B c\/∃ k,k<cs.length/\Fs k c)
  (aO:∀ (k:Nat) (x y:ab),cs[k]?=some x->cs'[k]?=some y->∀ u,get k=some u->∃ cU,(∀ c,cU c->Fs k c)/\R w (λc=>I c\/(Fs k c/\¬ cU c)) ρ y u cU) :
  ∃ qX:Nat->a',(∀ k c,k<cs'.length->qX k c->Fs k c)/\(∀ (k:Nat) (y:ab) (u:Value),cs'[k]?=some y->get k=some u->R w (λc=>I c\/(F c/\¬ (B c\/∃ j,j<cs'.length/\qX j c))) ρ y u (qX k)):=by
 have:∀ k,∃ G:a',k<cs.length->(∀ c,G c->Fs k c)/\∀ (y:ab) (u:Value),cs'[k]?=some y->get k=some u->R w (λc=>I c\/(Fs k c/\¬ G c)) ρ y u G:=by
  intro k;by_cases hk:k<cs.length
  ·have J:=List.getElem?_eq_getElem hk;have ao:=List.getElem?_eq_getElem (ah ▸ hk:k<cs'.length);obtain ⟨u,hu⟩:=aN k hk
   simp_all
  ·exact ⟨cg,λh=>absurd h hk⟩
 obtain ⟨qX,N6⟩:=Classical.axiomOfChoice this;refine ⟨qX,λk c hk=>(N6 k (ah ▸ hk)).1 c,λk y u ao hu=>?_⟩;have hk:k<cs'.length:=(List.getElem?_eq_some_iff.1 ao).1;have ih:k<cs.length:=ah ▸ hk;refine ((N6 k ih).2 y u ao hu).oa λc aa=>?_
 grind
theorem R.dN {ρ:ab->Value->Prop}{x y:ab}(h:gX x y):∀ {v:Value}{F:a'},R w I ρ x v F->cG x->(∀ c,F c->¬ I c)->(∀ c,I c->c<w.heap.size)->cF.q w I->∃ cU,(∀ c,cU c->F c)/\R w (λc=>I c\/(F c/\¬ cU c)) ρ y v cU:=by
 induction h with
 | refl=>exact λaY _ _ _ _=>⟨_,λ_ h=>h,aY.oa λ_ h=>.inl h⟩
 | Df =>
  intro v F aY _ _ _ _;have:=aY.rv;subst this;refine ⟨cg,λ_ h=>h.elim,.own (e:=0) (us:=[]) (Fs:=λ_=>cg) ⟨by simp,.inl ⟨rfl,rfl⟩⟩ rfl (by simp) (by simp) (λ_ _ _ _ _ h=>h.elim) (λ_ _ _ h=>h.elim) λc=>⟨λh=>h.elim,λh=>?_⟩⟩;rcases h with h | ⟨_,_,h⟩
  ·cases h
  ·exact h
 | pe aC h=>exact λaY _ bc aP jv=>⟨cg,λ_ h=>h.elim,(aY.pe aC h bc aP jv).oa λc aa=>aa.elim .inl λh=>.inr ⟨h,λh=>h⟩⟩
 | @own z n cs cs' ah _ aO =>
  intro v F aY aC bc aP jv;cases aY with
  | ref J=>simp [ab.isRef] at J
  | @own _ _ _ _ e us Fs _ aX hU h1 hr aQ ar aH =>
   cases aC with
   | own aC =>
    obtain ⟨qX,qq,B2⟩:=IX (get:=λk=>us[k]?) (B:=λc=>v.ownBlock=some c) ah (λk hk=>⟨_,List.getElem?_eq_getElem (hU ▸ hk)⟩) aQ (λk c hk aa e=>ar k c hk aa e) aH (λk x y J ao u hu=>aO k x y J ao (hr k x u J hu) (aC x (List.mem_of_getElem? J)) (λc aa=>bc c ((aH c).2 (.inr ⟨k,(List.getElem?_eq_some_iff.1 J).1,aa⟩))) aP jv);exact ⟨_,λc aa=>(aH c).2 (aa.imp id λ⟨k,hk,h⟩=>⟨k,ah ▸ hk,qq k c hk h⟩),
     .own aX (by rw [ah,hU]) h1 (λk y u ao hu=>B2 k y u ao hu) (λj k c ag hk af aE=>aQ j k c (ah ▸ ag) (ah ▸ hk) (qq j c ag af) (qq k c hk aE)) (λk c hk aa=>ar k c (ah ▸ hk) (qq k c hk aa)) (λc=>Iff.rfl)⟩
 | @obj cs cs' ah o' aO =>
  intro v F aY aC bc aP jv;cases aY with
  | ref J=>simp [ab.isRef] at J
  | @obj _ b e arr Fs _ aX hU h1 hr aQ ar aH av =>
   cases aC with
   | obj aC =>
    obtain ⟨qX,qq,B2⟩:=IX (get:=λk=>arr[k]?) (B:=λc=>c=b) ah (λk hk=>⟨_,Array.getElem?_eq_getElem (hU ▸ hk)⟩) aQ (λk c hk aa e=>ar k hk (e ▸ aa)) aH (λk x y J ao u hu=>aO k x y J ao (hr k x u J hu) (aC x (List.mem_of_getElem? J)) (λc aa=>bc c ((aH c).2 (.inr ⟨k,(List.getElem?_eq_some_iff.1 J).1,aa⟩))) aP jv);exact ⟨_,λc aa=>(aH c).2 (aa.imp id λ⟨k,hk,h⟩=>⟨k,ah ▸ hk,qq k c hk h⟩),
     .obj aX (by rw [ah,hU]) h1 (λk y u ao hu=>B2 k y u ao hu) (λj k c ag hk af aE=>aQ j k c (ah ▸ ag) (ah ▸ hk) (qq j c ag af) (qq k c hk aE)) (λk hk aa=>ar k (ah ▸ hk) (qq k b hk aa)) (λc=>Iff.rfl) (λk j u hk=>av k j u (Gk ah o' (λ_ _ _=>gX.jx) k j hk))⟩
 | @agg cs cs' ah _ aO =>
  intro v F aY aC bc aP jv;cases aY with
  | ref J=>simp [ab.isRef] at J
  | @agg _ vs Fs _ hU h1 hr aQ aH =>
   cases aC with
   | agg aC =>
    obtain ⟨qX,qq,B2⟩:=IX (get:=λk=>vs[k]?) (B:=λ_=>False) ah (λk hk=>⟨_,Array.getElem?_eq_getElem (hU ▸ hk)⟩) aQ (λk c hk aa e=>e) (λc=>(aH c).trans ⟨.inr,λh=>h.elim (λh=>h.elim) id⟩) (λk x y J ao u hu=>aO k x y J ao (hr k x u J hu) (aC x (List.mem_of_getElem? J)) (λc aa=>bc c ((aH c).2 ⟨k,(List.getElem?_eq_some_iff.1 J).1,aa⟩)) aP jv);refine ⟨λc=>∃ k,k<cs'.length/\qX k c,λc ⟨k,hk,h⟩=>(aH c).2 ⟨k,ah ▸ hk,qq k c hk h⟩,
     .agg (Fs:=qX) (by rw [ah,hU]) h1 (λk y u ao hu=>(B2 k y u ao hu).oa λc aa=>aa.imp id λ⟨h1,af⟩=>⟨h1,λh=>af (.inr h)⟩) (λj k c ag hk af aE=>aQ j k c (ah ▸ ag) (ah ▸ hk) (qq j c ag af) (qq k c hk aE)) (λc=>Iff.rfl)⟩
end
end Go.Own
