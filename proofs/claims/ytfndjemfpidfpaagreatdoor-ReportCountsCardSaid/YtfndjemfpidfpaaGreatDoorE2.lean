/- Parts of the proof that the last text states. -/
import Derived.Test.YtfndjemfpidfpaaGreatDoorE1
namespace Go.Own
open Go
set_option linter.unusedSectionVars false
variable [cw]
section
variable {w w':World}{I:a7}{T:Array Value}{g:aH}{Fs:Nat->a7}
theorem cG.KY (h:cG w I T g Fs) {t:Nat}{x:ab}(J:g t=some x):∃ v,T[t]?=some v/\dL w T ⟨t,[]⟩=some v/\ja w I (dG w T g) x v (Fs t):=by
 obtain ⟨v,hv,aU⟩:=h.rel t x J;exact ⟨v,hv,by simp [dL,hv,walk],aU⟩
theorem cG.app (h:cG w I T g Fs) {z n m:Nat}{p:Place}{bv dB:Value}{e cu:TypeId}{us news:List Value}(ka:dG w T g (.bD z p n 0 []) bv)
  (eR:∀ t bM ck bn cO,g t≠some (.bD bM p ck bn cO)) (A:yg w w' bv dB e cu z n m us news):cG w' I T g Fs/\∀ r v,dG w T g r v->dG w' T g r v:=by
 cases hY:bv.ownBlock with
 | none =>
  have same:∀ c,c<w.heap.size->w'.heap[c]?=w.heap[c]?:=λc aa=>A.eh.block c aa (by rw [hY]; simp);exact ⟨h.world (λt c aa=>same c (h.jC t c aa)) (λc aa=>same c (h.lt c aa)) A.eh.size,λr v ak=>h.FR (λ_ _=>rfl) (λt c aa=>same c (h.jC t c aa)) (λ_ _ h=>h) ak⟩
 | some b =>
  have s:DR w w' b (n * z):=by
   refine ⟨λc aa cN=>A.eh.block c aa (by rw [hY]; simpa using Ne.symm cN),?_⟩;obtain ⟨arr,iL,h1,af,aF,bk⟩:=A.sp b hY;exact ⟨arr,iL,e,h1,af,aF,bk⟩
  obtain ⟨t0,sz⟩:=h.D2 ka b hY;have a':∀ c,I c->c<w.heap.size/\c≠b:=λc aa=>⟨h.lt c aa,λe=>h.bf t0 b sz (e ▸ aa)⟩;obtain ⟨⟨wv,wx,IA,rfl⟩,dD⟩:=ka
  -- the home of the block
  have home:∃ N:Place->Prop,(∀ q bM ck cs' l_,bB g q=some (.own bM ck cs')->dL w T q=some l_->l_.ownBlock=some b->N q) /\
    (∀ q,N q->∀ t bM ck bn cO,g t=some (.bD bM q ck bn cO)->t=p.root/\p.path=[]) /\
    (∀ t bM ga ck bn cO,Fs t b->g t=some (.bD bM ga ck bn cO)->t=p.root/\p.path=[]) /\
    (∀ bM ga ck bn cO,p.path=[]->g p.root=some (.bD bM ga ck bn cO)->bM=z/\n=ck+bn) /\
    (∀ t x v,Fs t b->g t=some x->T[t]?=some v->R w I (dG w T g) x v (Fs t)->∃ q bM ck cs' hV,x.at q=some (.own bM ck cs')/\walk w v q=some hV/\hV.ownBlock=some b/\ck * bM<=n * z):=by
   rcases dD with ⟨cs,aw⟩ | ⟨gJ,gO,h3,m1,aek,cs,aw,aA,BQ⟩
   ·-- the base is a row of a tree
    obtain ⟨qe,qn,gr,hc,l1⟩:=h.part aw (by simp);rw [IA] at gr;cases gr;have mv:t0=p.root:=h.ep _ _ _ sz (l1 b (hc.p5 b hY));obtain ⟨dR,iw⟩:∃ dR,g p.root=some dR:=by
     unfold bB at aw;cases J:g p.root with
     | none=>rw [J] at aw; cases aw
     | some x=>exact ⟨x,rfl⟩
    have rr:dR.at p.path=some (.own z n cs):=by simpa [bB,iw] using aw
    have kX:∀ bM ga ck bn cO,g p.root≠some (.bD bM ga ck bn cO):=by
     intro bM ga ck bn cO br;rw [iw] at br;cases br;have:=(ab.ta rr).2;simp at this
    obtain ⟨v0,iS,fc⟩:=h.rel _ _ iw;have Ia:=fc.fW (λbM ga ck bn cO e=>kX bM ga ck bn cO (by rw [iw,e]));have BZ:walk w v0 p.path=some (.slice wv n wx):=by simpa [dL,iS] using IA
    refine ⟨λq=>q=p,?_,?_,?_,?_,?_⟩
    ·intro q bM ck cs' l_ ba sD wR;obtain ⟨QO,GC,vb,Ig,H5⟩:=h.part ba (by simp);rw [sD] at vb;cases vb;have ak:q.root=p.root:=(h.ep _ _ _ (H5 b (Ig.p5 b wR)) sz).trans mv;have Bh:dR.at q.path=some (.own bM ck cs'):=by simpa [bB,ak,iw] using ba
     have Jn:walk w v0 q.path=some l_:=by simpa [dL,ak,iS] using sD
     have:=R.Kn q.path p.path Ia Bh rr Jn BZ wR hY;cases q; cases p; simp_all
    ·rintro q rfl t bM ck bn cO br; exact absurd br (eR t bM ck bn cO)
    ·intro t bM ga ck bn cO h' br;have:t=p.root:=(h.ep _ _ _ h' sz).trans mv;rw [this] at br;exact absurd br (kX _ _ _ _ _)
    ·intro bM ga ck bn cO _ br; exact absurd br (kX _ _ _ _ _)
    ·intro t x v h' J hv aU;have:t=p.root:=(h.ep _ _ _ h' sz).trans mv;subst this;rw [iw] at J; cases J;rw [iS] at hv; cases hv;exact ⟨_,_,_,_,_,rr,BZ,hY,Nat.le_refl _⟩
   ·-- the base is behind an append itself
    obtain ⟨v0,iS,BX,fc⟩:=h.KY aw;have Xa:v0=.slice wv n wx:=by
     have:(⟨p.root,[]⟩:Place)=p:=by cases p; simp_all
     rw [this,IA] at BX;exact (Option.some.inj BX).symm
    subst Xa;obtain ⟨Sx,bP,ac_,aay,aem,fc⟩:=fc.vl;by_cases kv:Sx.ownBlock=some b
    ·obtain ⟨⟨ax,MB,Oq,rfl⟩,_⟩:=fc.ka;obtain ⟨l_,GC,sD,Ig,H5⟩:=h.part BQ (by simp);rw [Oq] at sD;cases sD;have mv:t0=gO.root:=h.ep _ _ _ sz (H5 b (Ig.p5 b kv));obtain ⟨dR,iw⟩:∃ dR,g gO.root=some dR:=by
      unfold bB at BQ;cases J:g gO.root with
      | none=>rw [J] at BQ; cases BQ
      | some x=>exact ⟨x,rfl⟩
     have rr:dR.at gO.path=some (.own z h3 cs):=by simpa [bB,iw] using BQ
     have kX:∀ bM ga ck bn cO,g gO.root≠some (.bD bM ga ck bn cO):=by
      intro bM ga ck bn cO br;rw [iw] at br;cases br;have:=(ab.ta rr).2;simp at this
     obtain ⟨v1,oc,rq⟩:=h.rel _ _ iw;have Vj:=rq.fW (λbM ga ck bn cO e=>kX bM ga ck bn cO (by rw [iw,e]));have BZ:walk w v1 gO.path=some (.slice ax h3 MB):=by simpa [dL,oc] using Oq
     refine ⟨λq=>q=gO,?_,?_,?_,?_,?_⟩
     ·intro q bM ck cs' l_ ba sD wR;obtain ⟨QO,Rn,vb,Ih,H6⟩:=h.part ba (by simp);rw [sD] at vb;cases vb;have ak:q.root=gO.root:=(h.ep _ _ _ (H6 b (Ih.p5 b wR)) sz).trans mv;have Bh:dR.at q.path=some (.own bM ck cs'):=by simpa [bB,ak,iw] using ba
      have Jn:walk w v1 q.path=some l_:=by simpa [dL,ak,oc] using sD
      have:=R.Kn q.path gO.path Vj Bh rr Jn BZ wR kv;cases q; cases gO; simp_all
     ·rintro q rfl t bM ck bn cO br; exact ⟨h.qV _ _ _ _ _ _ _ _ _ _ _ br aw,gJ⟩
     ·intro t bM ga ck bn cO h' br;have:t=gO.root:=(h.ep _ _ _ h' sz).trans mv;rw [this] at br;exact absurd br (kX _ _ _ _ _)
     ·intro bM ga ck bn cO _ br;rw [aw] at br; cases br; exact ⟨rfl,aA⟩
     ·intro t x v h' J hv aU;have:t=gO.root:=(h.ep _ _ _ h' sz).trans mv;subst this;rw [iw] at J; cases J;rw [oc] at hv; cases hv;exact ⟨_,_,_,_,_,rr,BZ,kv,Nat.mul_le_mul_right _ (by omega)⟩
    ·have mW:Fs p.root b:=(fc.aE b).2 ⟨hY,kv⟩;have mv:t0=p.root:=h.ep _ _ _ sz mW;refine ⟨λ_=>False,?_,λ_ h=>h.elim,?_,?_,?_⟩
     ·intro q bM ck cs' l_ ba sD wR;obtain ⟨QO,Rn,vb,Ih,H6⟩:=h.part ba (by simp);rw [sD] at vb;cases vb;have ak:q.root=p.root:=h.ep _ _ _ (H6 b (Ih.p5 b wR)) mW;unfold bB at ba;rw [ak,aw] at ba;have:=(ab.ta ba).2;simp at this
     ·intro t bM ga ck bn cO h' _; exact ⟨h.ep _ _ _ h' mW,gJ⟩
     ·intro bM ga ck bn cO _ br;rw [aw] at br; cases br; exact ⟨rfl,aA⟩
     ·intro t x v h' J hv aU;have:t=p.root:=h.ep _ _ _ h' mW;subst this;rw [aw] at J; cases J;exact aU.kX.elim
  obtain ⟨N,Nz,NA,NB,Ve,Vf⟩:=home
  -- rows of pends
  have pends:∀ t bM ga ck bn cO v yJ b0 th ie Fo,g t=some (.bD bM ga ck bn cO)->T[t]?=some v->GF w I (dG w T g) bM ga ck bn cO v (Fs t) yJ b0 th ie Fo ->
    (v.ownBlock=some b->(ck+bn) * bM<=n * z)/\(yJ.ownBlock=some b->ck * bM<=n * z):=by
   intro t bM ga ck bn cO v yJ b0 th ie Fo aL hv aU;by_cases au:t=p.root/\p.path=[]
   ·obtain ⟨rfl,gJ⟩:=au;obtain ⟨rfl,rfl⟩:=Ve _ _ _ _ _ gJ aL;exact ⟨λ_=>Nat.le_refl _,λ_=>Nat.mul_le_mul_right _ (by omega)⟩
   ·have qE:yJ.ownBlock≠some b:=by
     intro kT;obtain ⟨⟨a2,rk,Ot,rfl⟩,WJ⟩:=aU.ka;rcases WJ with ⟨cs2,af⟩ | ⟨aI,lk,Pc,m3,ael,ac6,af,aF,bk⟩
     ·exact au (NA ga (Nz ga _ _ _ _ af Ot kT) t _ _ _ _ aL)
     ·obtain ⟨v2,sC,On,mX⟩:=h.KY af;have w5:(⟨ga.root,[]⟩:Place)=ga:=by cases ga; simp_all
      rw [w5,Ot] at On;cases On;have Od:ga.root=p.root/\p.path=[]->False:=by
       rintro ⟨ak,gJ⟩;have:ga=p:=by cases ga; cases p; simp_all
       exact eR t bM ck bn cO (this ▸ aL)
      obtain ⟨Sy,eP,ada,aex,aen,mX⟩:=mX.vl;by_cases pK:Sy.ownBlock=some b
      ·obtain ⟨⟨a4,abu,Xe,rfl⟩,_⟩:=mX.ka;exact Od (NA lk (Nz lk _ _ _ _ bk Xe pK) _ _ _ _ _ af)
      ·exact Od (NB _ _ _ _ _ _ ((mX.aE b).2 ⟨kT,pK⟩) af)
    refine ⟨λBY=>?_,λkT=>absurd kT qE⟩;exact absurd (NB _ _ _ _ _ _ ((aU.aE b).2 ⟨BY,qE⟩) aL) au
  -- trees
  have aK:=h.jC;have trees:∀ t x v (ρ':ab->Value->Prop),(∀ x v,dG w T g x v->ρ' x v)->g t=some x->T[t]?=some v->R w I (dG w T g) x v (Fs t)->R w' I ρ' x v (Fs t)/\∀ r y,x.at r=some y->walk w' v r=walk w v r:=by
   intro t x v ρ' lg J hv aU;by_cases h':Fs t b
   ·obtain ⟨q,bM,ck,cs',hV,h1,af,aF,bk⟩:=Vf t x v h' J hv aU;exact aU.spare s a' lg h1 af aF bk
   ·have same:∀ c,Fs t c->w'.heap[c]?=w.heap[c]?:=λc aa=>s.other c (aK t c aa) λe=>h' (e ▸ aa);exact ⟨aU.frame (λc aa=>s.other c (a' c aa).1 (a' c aa).2) (λ_ h=>h) lg same,λr y ak=>R.pa r aU ak same⟩
  have val:∀ q y,bB g q=some y->dL w' T q=dL w T q:=by
   intro q y ba;unfold bB at ba;cases J:g q.root with
   | none=>rw [J] at ba; cases ba
   | some x =>
    rw [J] at ba;obtain ⟨v,hv,aU⟩:=h.rel _ _ J;cases aU with
    | tree aU=>have:=(trees _ x v _ (λ_ _ h=>h) J hv aU).2 q.path y ba; simp [dL,hv,this]
    | bD aU=>simp [dL,hv,(ab.ta ba).1,walk]
  have slot:∀ {q:Place}{x:ab},q.path=[]->g q.root=some x->dL w' T q=dL w T q:=by
   intro q x ba J;obtain ⟨v,hv,_⟩:=h.rel _ _ J;simp [dL,ba,walk]
  have refs:∀ r v,dG w T g r v->dG w' T g r v:=by
   rintro r v ⟨h1,af⟩;refine ⟨?_,af⟩;cases r <;> simp only [fO,gF] at h1 af ⊢
   case ptr q k=>obtain ⟨y,ai,_⟩:=af; rw [val q y ai]; exact h1
   case bo bM q ck =>
    rcases af with ⟨_,_,af,_⟩ | ⟨aI,_,_,_,_,af,_⟩
    ·rw [val q _ af]; exact h1
    ·rw [slot aI af]; exact h1
   case sub bM q lo ck=>obtain ⟨_,_,af,_⟩:=af; rw [val q _ af]; exact h1
   case gY q=>obtain ⟨_,af⟩:=af; rw [val q _ af]; exact h1
   case bD bM q ck bn cO =>
    rcases af with ⟨_,af⟩ | ⟨aI,_,_,_,_,_,af,_⟩
    ·rw [val q _ af]; exact h1
    ·rw [slot aI af]; exact h1
  refine ⟨⟨λt x J=>?_,h.kA,h.ep,h.bf,λc aa=>Nat.lt_of_lt_of_le (h.lt c aa) A.eh.size,h.qV,cw.keep h.g_ (λc aa=>s.other c (a' c aa).1 (a' c aa).2) λ_ h=>h⟩,refs⟩;obtain ⟨v,hv,aU⟩:=h.rel t x J;refine ⟨v,hv,?_⟩;cases aU with
  | tree aU=>exact .tree (trees t x v _ refs J hv aU).1
  | @bD bM ck bn ga cO _ yJ b0 th ie Fo _ aU =>
   obtain ⟨eG,qQ⟩:=pends t _ _ _ _ _ v yJ b0 th ie Fo J hv aU;refine .bD ⟨refs _ _ aU.ka,s.row aU.iq qQ,s.row aU.nb eG,aU.ah,aU.h1,λk x u J hu=>?_,aU.aE⟩;exact (aU.ak k x u J hu).frame (λc aa=>s.other c (a' c aa).1 (a' c aa).2) (λ_ h=>h) refs λc aa=>aa.elim
end
end Go.Own
namespace Go.Own
open Go
set_option linter.unusedSectionVars false
variable [cw]
def uv (w:World) (I:a7) (T:Array Value) (g:aH) (Fs:Nat->a7) (x:ab) (v:Value) (w':World):Prop :=
 ∃ F I',cG w' I' T g Fs/\ja w' I' (dG w' T g) x v F/\(∀ t c,F c->¬ Fs t c)/\(∀ c,F c->w.heap.size<=c/\¬ I' c)/\(∀ c,I c->I' c)/\(∀ c,I' c->I c\/w.heap.size<=c)/\Fr w w' (λc=>∃ t,Fs t c)/\(∀ z p n m new,x=.bD z p n m new->∀ t bM ck bn cO,g t≠some (.bD bM p ck bn cO))
inductive Src (g:aH):ab->Nat->Nat->List ab->Prop
 | bf {z m:Nat}{cs:List ab}:Src g (.bf z m cs) z m cs
 | bb {z:Nat}:Src g .bb z 0 []
 | bo {z m N:Nat}{q:Place}{cs:List ab}(ba:bB g q=some (.own z N cs)) (hm:m<=N):Src g (.bo z q m) z m ((cs.take (m * z)).mapIdx λi x=>fY 0 (q.push i) x)
 | sub {z lo m N:Nat}{q:Place}{cs:List ab}(ba:bB g q=some (.own z N cs)) (hm:lo+m<=N):Src g (.sub z q lo m) z m (((cs.drop (lo * z)).take (m * z)).mapIdx λi x=>fY 0 (q.push (lo * z+i)) x)
def jP (P:Program) (t e:TypeId) (z b:Nat):Bool :=
 match P.underlying t,P.info? e with
 | some (.slice b0),some i=>b0 == e&&i.size == z&&i.bytes == b&&z != 0&&(match i.zero with | some v=>v.cells.size == z | none=>false)
 | _,_=>false
section
variable {P:Program}{w:World}{I:a7}{T:Array Value}{g:aH}{Fs:Nat->a7}
theorem L_ {t e:TypeId}{z b:Nat}(h:jP P t e z b=true):∃ i dj,P.underlying t=some (.slice e)/\P.info? e=some i/\i.size=z/\i.bytes=b/\0<z/\i.zero=some dj/\dj.cells.size=z:=by
 unfold jP at h;cases hu:P.underlying t with
 | none=>simp [hu] at h
 | some d =>
  cases hi:P.info? e with
  | none=>cases d <;> simp [hu,hi] at h
  | some i =>
   cases d <;> simp [hu,hi] at h;obtain ⟨⟨⟨⟨rfl,h1⟩,af⟩,aF⟩,bk⟩:=h;cases aT:i.zero with
   | none=>simp [aT] at bk
   | some dj=>simp [aT] at bk; exact ⟨i,dj,rfl,rfl,h1,af,by omega,aT,bk⟩
theorem Src.sound (h:cG w I T g Fs) {y:ab}{v:Value}{z m:Nat}{cells:List ab}(av:Src g y z m cells) (aU:R w I (dG w T g) y v cd) :
  ∃ (a:Option Addr) (c:Nat) (news:List Value),v=.slice a m c/\news.length=m * z/\(0<m->0<z->a.isSome=true)/\(∀ ad,a=some ad->∀ (j:Nat) (u:Value),news[j]?=some u->w.cell? (ad.add j)=some u)/\Cells w I (dG w T g) cells news:=by
 have Pt:∀ {q:Place}{N:Nat}{cs:List ab}(lo:Nat) {a:Option Addr}{cap:Nat},bB g q=some (.own z N cs)->dL w T q=some (.slice a N cap)->lo+m<=N ->
   ∃ news:List Value,news.length=m * z/\(∀ ad,a=some ad->∀ (j:Nat) (u:Value),news[j]?=some u->w.cell? ⟨ad.block,lo * z+j,none⟩=some u)/\Cells w I (dG w T g) (((cs.drop (lo * z)).take (m * z)).mapIdx λi x=>fY 0 (q.push (lo * z+i)) x) news/\(0<m->0<z->∃ b,a=some ⟨b,0,none⟩):=by
  intro q N cs lo a cap ba hv hm;obtain ⟨dB,cD,iv,dv,_⟩:=h.part ba (by simp);rw [hv] at iv;cases iv;obtain ⟨cb,ml,ir,_,hlen,qH,_⟩:=dv.mC;cases ir;have adF:lo * z+m * z<=cs.length:=by rw [hlen,<- Nat.add_mul]; exact Nat.mul_le_mul_right _ hm
  have cell:∀ j,j<m * z->∃ b gj kF,a=some ⟨b,0,none⟩/\w.cell? ⟨b,lo * z+j,none⟩=some gj/\gj.oneCell'=true/\cs[lo * z+j]?=some kF/\R w I (dG w T g) (fY 0 (q.push (lo * z+j)) kF) gj cd:=by
   intro j ag;have fD:cs[lo * z+j]?=some cs[lo * z+j]:=List.getElem?_eq_getElem (by omega);obtain ⟨b,gj,ft,jt,m_,fw,bH,jU⟩:=dv.node (.inl rfl) fD;refine ⟨b,gj,_,?_,jt,fw,fD,FQ 0 (by rw [s',ba]; simp [ab.kids]) (by rw [x8,hv]; exact m_) jU⟩;cases a with
   | none=>simp [addrOf] at ft
   | some ad=>simp only [addrOf] at ft; rw [Option.some.inj ft]
  have tI:∃ news:List Value,news.length=m * z/\∀ j,j<m * z->∃ b gj kF,news[j]?=some gj/\a=some ⟨b,0,none⟩/\w.cell? ⟨b,lo * z+j,none⟩=some gj/\gj.oneCell'=true/\cs[lo * z+j]?=some kF/\R w I (dG w T g) (fY 0 (q.push (lo * z+j)) kF) gj cd:=by
   refine ⟨(List.range (m * z)).map λj=>(w.cell? ⟨(a.map (·.block)).getD 0,lo * z+j,none⟩).getD undef,by simp,λj ag=>?_⟩;obtain ⟨b,gj,kF,h1,af,aF,bk,b2⟩:=cell j ag;refine ⟨b,gj,kF,?_,h1,af,aF,bk,b2⟩;rw [List.getElem?_map,List.getElem?_range ag,h1];simp [af]
  obtain ⟨news,ah,aA⟩:=tI;refine ⟨news,ah,λad ft j u ag=>?_,⟨?_,λj u ag=>?_,λj x u J ag=>?_⟩,λBG JE=>?_⟩
  ·obtain ⟨b,gj,kF,h1,af,aF,_⟩:=aA j (by rw [<- ah]; exact (List.getElem?_eq_some_iff.1 ag).1);rw [h1] at ag; cases ag;rw [ft] at af; cases af;exact aF
  ·simp; omega
  ·obtain ⟨b,gj,kF,h1,af,aF,bk,_⟩:=aA j (by rw [<- ah]; exact (List.getElem?_eq_some_iff.1 ag).1);rw [h1] at ag; cases ag; exact bk
  ·obtain ⟨b,gj,kF,h1,af,aF,bk,b2,du⟩:=aA j (by rw [<- ah]; exact (List.getElem?_eq_some_iff.1 ag).1);rw [h1] at ag; cases ag;rw [List.getElem?_mapIdx,List.getElem?_take] at J
   split at J
   ·rw [List.getElem?_drop,b2] at J;simp only [Option.map_some,Option.some.injEq] at J;rw [<- J]; exact du
   ·cases J
  ·obtain ⟨b,_,_,h1,_⟩:=cell 0 (Nat.mul_pos BG JE);exact ⟨b,h1⟩
 cases av with
 | bf =>
  obtain ⟨a,cap,rfl,_,hlen,hm⟩:=aU.zm;by_cases aI:cells≠[]\/0<m
  ·obtain ⟨ad,us,rfl,a',kb,fw,aa,ak⟩:=hm aI;refine ⟨_,cap,(List.range cells.length).map us,rfl,by simp [hlen],by simp,λRN ft j u ag=>?_,⟨by simp,λj u ag=>?_,λj x u J ag=>?_⟩⟩
   ·cases ft;rw [List.getElem?_map] at ag;by_cases eV:j<cells.length
    ·rw [List.getElem?_range eV] at ag;simp only [Option.map_some,Option.some.injEq] at ag;obtain ⟨b,o,sp⟩:=ad;simp only at kb;subst kb;rw [add_eq,<- ag];exact aa j _ (List.getElem?_eq_getElem eV)
    ·rw [List.getElem?_eq_none (by simp; omega)] at ag; cases ag
   ·rw [List.getElem?_map] at ag;by_cases eV:j<cells.length
    ·rw [List.getElem?_range eV] at ag;simp only [Option.map_some,Option.some.injEq] at ag;rw [<- ag];exact fw j _ (List.getElem?_eq_getElem eV)
    ·rw [List.getElem?_eq_none (by simp; omega)] at ag; cases ag
   ·rw [List.getElem?_map] at ag;have eV:j<cells.length:=(List.getElem?_eq_some_iff.1 J).1;rw [List.getElem?_range eV] at ag;simp only [Option.map_some,Option.some.injEq] at ag;rw [<- ag];exact ak j x J
  ·have BG:m=0:=by omega
   have IB:cells=[]:=Classical.byContradiction λe=>aI (.inl e);subst BG IB;exact ⟨a,cap,[],rfl,by simp,by simp,by simp,by simp [Cells]⟩
 | bb =>
  rw [aU.p1];exact ⟨none,0,[],rfl,by simp,by simp,by simp,by simp [Cells]⟩
 | @bo _ _ N q cs ba hm =>
  obtain ⟨⟨a,j5,cap,h1,rfl,aF⟩,bk⟩:=aU.my;obtain ⟨dB,cD,iv,dv,_⟩:=h.part ba (by simp);obtain ⟨cb,ml,ir,_⟩:=dv.mC;rw [h1] at iv;cases iv;cases ir;obtain ⟨news,ah,aa,gB,aQ⟩:=Pt 0 ba h1 (by omega);simp only [Nat.zero_mul,List.drop_zero,Nat.zero_add] at gB aa;refine ⟨a,cap,news,rfl,ah,λaI Ep=>by obtain ⟨b,rfl⟩:=aQ aI Ep; rfl,λad ft j u ag=>?_,gB⟩;have tG:=aa ad ft j u ag;by_cases aI:0<m/\0<z
  ·obtain ⟨b,ao⟩:=aQ aI.1 aI.2;rw [ft] at ao; cases ao;rw [add_eq]; simpa using tG
  ·have:m * z=0:=by
    rcases Nat.eq_zero_or_pos m with h | h
    ·simp [h]
    ·rcases Nat.eq_zero_or_pos z with aR | aR
     ·simp [aR]
     ·exact absurd ⟨h,aR⟩ aI
   have:=(List.getElem?_eq_some_iff.1 ag).1;omega
 | @sub _ lo _ N q cs ba hm =>
  obtain ⟨⟨a,j5,cap,cb,ml,h1,rfl,_,aF,b2⟩,bk⟩:=aU.xn;obtain ⟨dB,cD,iv,dv,_⟩:=h.part ba (by simp);obtain ⟨a2,rk,ir,_⟩:=dv.mC;rw [h1] at iv;cases iv;cases ir;obtain ⟨news,ah,aa,gB,aQ⟩:=Pt lo ba h1 hm;refine ⟨cb,ml,news,rfl,ah,λaI _=>by obtain ⟨ad,_,rfl⟩:=b2 aI; rfl,λad ft j u ag=>?_,gB⟩;have aK:=(List.getElem?_eq_some_iff.1 ag).1;have aI:0<m:=(Nat.eq_zero_or_pos m).elim (λh=>by rw [h] at ah; omega) id

  have aT:0<z:=(Nat.eq_zero_or_pos z).elim (λh=>by rw [h] at ah; omega) id

  obtain ⟨RN,du,jh⟩:=b2 aI;obtain ⟨b,ao⟩:=aQ aI aT;rw [du] at ao; cases ao;rw [ft] at jh; cases jh;have tG:=aa _ du j u ag;rw [add_eq]; simpa using tG
end
end Go.Own
namespace Go.Own
open Go
set_option linter.unusedSectionVars false
variable [cw]
inductive AD (P:Program) (g:aH):Op->TypeId->ab->Prop
 | grow {s x:Operand}{t e ty:TypeId}{z b n m:Nat}{p:Place}{y:ab}{cells:List ab}(av:bp g s=some (.bo z p n)) (dD:gF g (.bD z p n 0 [])) (eR:∀ t bM ck bn cO,g t≠some (.bD bM p ck bn cO))
   (J:bp g x=some y) (rF:Src g y z m cells) (au:jP P t e z b=true) (mU:n+m<=4611686018427387904) (ao:(n+m) * b<=140737488355328) :
   AD P g (.call { callee:=.builtin .append,args:=#[s,x],argTypes:=#[t,t] }) ty (.bD z p n m cells)
 | nil {s x:Operand}{t e ty:TypeId}{z b m:Nat}{y:ab}{cells:List ab}(av:bp g s=some .bb)
   (J:bp g x=some y) (rF:Src g y z m cells) (au:jP P t e z b=true) (mU:m<=4611686018427387904) (ao:m * b<=140737488355328) :
   AD P g (.call { callee:=.builtin .append,args:=#[s,x],argTypes:=#[t,t] }) ty (.own z m cells)
inductive ch (P:Program) (g:aH):Op->TypeId->ab->Prop
 | eG {op:Op}{ty:TypeId}{x:ab}(h:c9 P g op ty x):ch P g op ty x
 | qQ {op:Op}{ty:TypeId}{x:ab}(h:ny P g op ty x):ch P g op ty x
 | FE {op:Op}{ty:TypeId}{x:ab}(h:uA P g op ty x):ch P g op ty x
 | lM {op:Op}{ty:TypeId}{x:ab}(h:AD P g op ty x):ch P g op ty x
section
variable {P:Program}{w:World}{I:a7}{T:Array Value}{g:aH}{Fs:Nat->a7}
theorem Cells.frame {w':World}{cells:List ab}{news:List Value}(aa:Cells w I (dG w T g) cells news) (a':∀ c,I c->w'.heap[c]?=w.heap[c]?) (ak:∀ r v,dG w T g r v->dG w' T g r v):Cells w' I (dG w' T g) cells news :=
 ⟨aa.1,aa.2.1,λk x u J hu=>(aa.2.2 k x u J hu).frame a' (λ_ h=>h) ak λ_ h=>h.elim⟩
theorem AD.sound (h:cG w I T g Fs) {a:Act}(aQ:a.tmps=T) {o:Oper}{kk:ab}(aw:AD P g o.op o.type kk) :
  ∃ v w',(execOp a.eval o).run P w=.ok (.value v) w'/\uv w I T g Fs kk v w':=by
 obtain ⟨dst,op,ty,pos,after,guard⟩:=o;simp only at aw;cases aw with
 | @grow s x t e _ z b n m p y cells av dD eR J rF au mU ao =>
  obtain ⟨i,dj,hu,hi,rfl,rfl,aI,aT,oh⟩:=L_ au;obtain ⟨⟨wv,N,wx,h1,af,aF⟩,bk⟩:=(kZ h av aQ).my;obtain ⟨Da,KP,news,u_,ah,BS,Jf,gB⟩:=rF.sound h (kZ h J aQ)
  -- the row of the base
  have jw:N=n/\∃ b0 us,w.ownsRow 0 b0 i.size (.slice wv n wx) n us:=by
   rcases dD with ⟨cs,aw⟩ | ⟨gJ,q,gv,m0,new,cs,aw,rfl,_⟩
   ·obtain ⟨dB,cD,iv,dv,_⟩:=h.part aw (by simp);rw [h1] at iv;cases iv;obtain ⟨cb,ml,ir,_⟩:=dv.mC;cases ir;cases dv with
    | own aM=>exact ⟨rfl,_,_,aM⟩
    | ref J=>simp [ab.isRef] at J
   ·obtain ⟨v0,iS,BX,fc⟩:=h.KY aw;have ba:(⟨p.root,[]⟩:Place)=p:=by cases p; simp_all
    rw [ba,h1] at BX;cases BX;obtain ⟨bv,bP,cu,us,aeo,fc⟩:=fc.vl;have bc:N=gv+m0:=by
     obtain ⟨_,br⟩:=fc.nb;rcases br with ⟨br,aA⟩ | ⟨g,cap,cur,br,_⟩
     ·cases br; omega
     ·cases br; rfl
    subst bc;exact ⟨rfl,_,_,fc.nb⟩
  obtain ⟨rfl,b0,us,iq⟩:=jw;have ka:dG w T g (.bD i.size p N 0 []) (.slice wv N wx):=⟨⟨wv,wx,h1,rfl⟩,dD⟩;obtain ⟨dB,w',cu,h2,A⟩:=P1 (P:=P) (w:=w) t ty e b0 i dj hu hi aT oh aI iq (a:=Da) (c:=KP) (m:=m) (news:=news) (λhm=>BS hm aI) ah Jf (λu hu=>by
   obtain ⟨k,hk,rfl⟩:=List.mem_iff_getElem.1 hu;exact gB.2.1 k _ (List.getElem?_eq_getElem hk)) (by unfold maxLen; omega) ao
  obtain ⟨a_,hrefs⟩:=h.app ka eR A;refine ⟨dB,w',by simp [execOp,resolve,invoke,builtin,af,u_,h2],(λc=>dB.ownBlock=some c/\(Value.slice wv N wx).ownBlock≠some c),I,a_,?_,?_,?_,λ_ h=>h,λ_ h=>.inl h,?_,?_⟩
  ·have a':∀ c,I c->w'.heap[c]?=w.heap[c]?:=by
    intro c aa;refine A.eh.block c (h.lt c aa) λao=>?_;obtain ⟨t,au⟩:=h.D2 ka c ao;exact h.bf t c au aa
   have kU:=gB.frame a' hrefs;exact .bD ⟨hrefs _ _ ka,A.iy,A.new,kU.1,kU.2.1,kU.2.2,λc=>Iff.rfl⟩
  ·rintro t c ⟨lD,tD⟩ aV;rcases A.fG c lD with h | aR
   ·exact tD h
   ·have:=h.jC t c aV; omega
  ·rintro c ⟨lD,tD⟩;rcases A.fG c lD with aR | aR
   ·exact absurd aR tD
   ·exact ⟨aR,λhi=>by have:=h.lt c hi; omega⟩
  ·exact A.eh.mono λc _ aa=>h.D2 ka c aa
  ·intro bM PD ck bn cO he;cases he;exact eR
 | @nil s x t e _ z b m y cells av J rF au mU ao =>
  obtain ⟨i,dj,hu,hi,rfl,rfl,aI,aT,oh⟩:=L_ au;have af:=(kZ h av aQ).p1;obtain ⟨Da,KP,news,u_,ah,BS,Jf,gB⟩:=rF.sound h (kZ h J aQ);obtain ⟨dB,w',cu,h2,A⟩:=P1 (P:=P) (w:=w) t ty e e i dj hu hi aT oh aI (World.ownsRow_nil w 0 e i.size) (a:=Da) (c:=KP) (m:=m) (news:=news) (λhm=>BS hm aI) ah Jf (λu hu=>by
   obtain ⟨k,hk,rfl⟩:=List.mem_iff_getElem.1 hu;exact gB.2.1 k _ (List.getElem?_eq_getElem hk)) (by unfold maxLen; omega) (by simpa using ao)
  have same:∀ c,c<w.heap.size->w'.heap[c]?=w.heap[c]?:=λc aa=>A.eh.block c aa (by simp [Value.ownBlock]);have rB:=A.new;simp only [Nat.zero_add,List.nil_append] at rB;have kU:=gB.frame (λc aa=>same c (h.lt c aa)) λr v ak=>h.FR (λ_ _=>rfl) (λt c aa=>same c (h.jC t c aa)) (λ_ _ h=>h) ak;have hblk:∀ c,dB.ownBlock=some c->w.heap.size<=c:=λc aa=>(A.fG c aa).elim (λh=>by simp [Value.ownBlock] at h) id;refine ⟨dB,w',by simp [execOp,resolve,invoke,builtin,af,u_,h2],(λc=>dB.ownBlock=some c),I,h.world (λt c aa=>same c (h.jC t c aa)) (λc aa=>same c (h.lt c aa)) A.eh.size,?_,?_,λc aa=>⟨hblk c aa,λhi=>by have:=h.lt c hi; have:=hblk c aa; omega⟩,λ_ h=>h,λ_ h=>.inl h,?_,?_⟩
  ·exact .tree (.own (Fs:=λ_=>cd) rB kU.1 kU.2.1 kU.2.2 (λ_ _ _ _ _ h=>h.elim) (λ_ _ _ h=>h.elim) λc=>⟨.inl,λh=>h.elim id λ⟨_,_,h⟩=>h.elim⟩)
  ·intro t c aa aV; have:=hblk c aa; have:=h.jC t c aV; omega
  ·exact A.eh.mono λc _ aa=>by simp [Value.ownBlock] at aa
  ·intro bM PD ck bn cO he; cases he
theorem ch.sound (h:cG w I T g Fs) {a:Act}(aQ:a.tmps=T) {o:Oper}{kk:ab}(aw:ch P g o.op o.type kk) :
  ∃ v w',(execOp a.eval o).run P w=.ok (.value v) w'/\uv w I T g Fs kk v w':=by
 have Cq:∀ {v:Value}{F:a7},R w I (dG w T g) kk v F->∀ z p n m new,kk=.bD z p n m new->∀ t bM ck bn cO,g t≠some (.bD bM p ck bn cO):=by
  rintro v F aU z p n m new rfl;exact aU.kX.elim
 cases aw with
 | eG aw =>
  obtain ⟨v,ak,aU⟩:=aw.sound h aQ;exact ⟨v,w,ak,cd,I,h,.tree aU,λ_ _ h=>h.elim,λ_ h=>h.elim,λ_ h=>h,λ_ h=>.inl h,Fr.refl _ _,Cq aU⟩
 | FE aw =>
  obtain ⟨v,ak,aU⟩:=aw.sound h aQ;exact ⟨v,w,ak,cd,I,h,.tree aU,λ_ _ h=>h.elim,λ_ h=>h.elim,λ_ h=>h,λ_ h=>.inl h,Fr.refl _ _,Cq aU⟩
 | qQ aw =>
  obtain ⟨v,rT,ak,aU⟩:=aw.sound h aQ;refine ⟨v,_,ak,_,I,h.alloc rT,.tree aU,λt c aa aV=>?_,λc aa=>⟨by rw [aa]; exact Nat.le_refl _,λhi=>by have:=h.lt c hi; omega⟩,λ_ h=>h,λ_ h=>.inl h,Fr.alloc w rT _ (by
   obtain ⟨o,h1,af⟩:=aU.Zb w.heap.size rfl;rw [pr] at h1;cases h1;exact af),?_⟩
  ·have:=h.jC t c aV; omega
  ·rintro z p n m new rfl; exact aU.kX.elim
 | lM aw=>exact aw.sound h aQ
end
end Go.Own
namespace Go.Own
open Go
set_option linter.unusedSectionVars false
variable [cw]
inductive cK:ab->Prop
 | lit {v:Value}:cK (.lit v)
 | bb:cK .bb
 | dead:cK .dead
 | self {k:Nat × Nat}:cK (.self k)
 | bf {z n:Nat}{cs:List ab}(h:∀ x∈cs,cK x):cK (.bf z n cs)
 | own {z n:Nat}{cs:List ab}(h:∀ x∈cs,cK x):cK (.own z n cs)
 | obj {cs:List ab}(h:∀ x∈cs,cK x):cK (.obj cs)
 | agg {cs:List ab}(h:∀ x∈cs,cK x):cK (.agg cs)
 | bI {cs:List ab}(h:∀ x∈cs,cK x):cK (.bI cs)
 | cL {cs:List ab}(h:∀ x∈cs,cK x):cK (.cL cs)
 | dc {fn:Fn}{a b:List ab}(h1:∀ x∈a,cK x) (af:∀ x∈b,cK x):cK (.dc fn a b)
 | mp {p:Array MapEntry->Nat->Prop}:cK (.mp p)
 | dt {t:Nat}{us:List Value}:cK (.dt t us)
 | imp {p:Array MapEntry->Nat->Prop}:cK (.imp p)
inductive jL:ab->Prop
 | lit {v:Value}:jL (.lit v)
 | bb:jL .bb
 | dead:jL .dead
 | self {k:Nat × Nat}:jL (.self k)
 | own {z n:Nat}{cs:List ab}(h:∀ x∈cs,jL x):jL (.own z n cs)
 | obj {cs:List ab}(h:∀ x∈cs,jL x):jL (.obj cs)
 | agg {cs:List ab}(h:∀ x∈cs,jL x):jL (.agg cs)
 | bI {cs:List ab}(h:∀ x∈cs,jL x):jL (.bI cs)
 | mp {p:Array MapEntry->Nat->Prop}:jL (.mp p)
 | dt {t:Nat}{us:List Value}:jL (.dt t us)
theorem jL.bh {x:ab}(h:jL x):cK x:=by
 induction h with
 | lit=>exact .lit
 | bb=>exact .bb
 | dead=>exact .dead
 | self=>exact .self
 | own _ aJ=>exact .own aJ
 | obj _ aJ=>exact .obj aJ
 | agg _ aJ=>exact .agg aJ
 | bI _ aJ=>exact .bI aJ
 | mp=>exact .mp
 | dt=>exact .dt
inductive Rows (g:aH):Place->Nat->Nat->List ab->Prop
 | own {p:Place}{z n:Nat}{cs:List ab}(aw:bB g p=some (.own z n cs)):Rows g p z n cs
 | bD {t z n m:Nat}{q:Place}{new cs:List ab}(au:g t=some (.bD z q n m new)) (ba:Rows g q z n cs):Rows g ⟨t,[]⟩ z (n+m) (cs++new)
theorem Rows.mono {g g':aH}(h:∀ {p:Place}{y:ab},bB g p=some y->bB g' p=some y) {p:Place}{z n:Nat}{cs:List ab}(ak:Rows g p z n cs) (af:∀ t x,g t=some x->g' t=some x):Rows g' p z n cs:=by
 induction ak with
 | own aw=>exact .own (h aw)
 | bD au _ aJ=>exact .bD (af _ _ au) aJ
inductive View (g:aH):ab->ab->Prop
 | self {x:ab}(h:cK x) (J:∀ z n cs,x≠.own z n cs) (aM:∀ cs,x≠.obj cs) (aQ:∀ cs,x≠.agg cs) (au:∀ cs,x≠.bI cs) (hm:(∀ p,x≠.mp p)/\∀ t us,x≠.dt t us):View g x x
 | mp {p:Array MapEntry->Nat->Prop}:View g (.mp p) (.imp p)
 | gY {p:Place}{q:Array MapEntry->Nat->Prop}(aw:bB g p=some (.mp q)):View g (.gY p) (.imp q)
 | p3 {z:Nat}:View g .bb (.bf z 0 [])
 | agg {cs cs':List ab}(ah:cs'.length=cs.length) (h:∀ (k:Nat) (x y:ab),cs[k]?=some x->cs'[k]?=some y->View g x y):View g (.agg cs) (.agg cs')
 | own {z n:Nat}{cs cs':List ab}(ah:cs'.length=cs.length) (h:∀ (k:Nat) (x y:ab),cs[k]?=some x->cs'[k]?=some y->View g x y):View g (.own z n cs) (.bf z n cs')
 | obj {cs cs':List ab}(ah:cs'.length=cs.length) (h:∀ (k:Nat) (x y:ab),cs[k]?=some x->cs'[k]?=some y->View g x y):View g (.obj cs) (.cL cs')
 | bo {z n N:Nat}{p:Place}{cs cs':List ab}(aw:bB g p=some (.own z N cs)) (aA:n<=N) (ah:cs'.length=(cs.take (n * z)).length) (h:∀ (k:Nat) (x y:ab),(cs.take (n * z))[k]?=some x->cs'[k]?=some y->View g x y):View g (.bo z p n) (.bf z n cs')
 | sub {z lo n N:Nat}{p:Place}{cs cs':List ab}(aw:bB g p=some (.own z N cs)) (aA:lo+n<=N) (ah:cs'.length=((cs.drop (lo * z)).take (n * z)).length) (h:∀ (k:Nat) (x y:ab),((cs.drop (lo * z)).take (n * z))[k]?=some x->cs'[k]?=some y->View g x y):View g (.sub z p lo n) (.bf z n cs')
 | ptr {p:Place}{k z n:Nat}{y:ab}{cs cs':List ab}(aw:bB g p=some y) (ai:y=.own z n cs\/y=.obj cs) (hk:k<cs.length) (ah:cs'.length=(cs.drop k).length) (h:∀ (j:Nat) (x y:ab),(cs.drop k)[j]?=some x->cs'[j]?=some y->View g x y):View g (.ptr p k) (.cL cs')
 | dc {fn:Fn}{cs cs':List ab}(ah:cs'.length=cs.length) (h:∀ (k:Nat) (x y:ab),cs[k]?=some x->cs'[k]?=some y->View g x y):View g (.dc fn [] cs) (.dc fn [] cs')
 | rows {z n:Nat}{p:Place}{cs cs':List ab}(aw:Rows g p z n cs) (ah:cs'.length=cs.length) (h:∀ (k:Nat) (x y:ab),cs[k]?=some x->cs'[k]?=some y->View g x y):View g (.bo z p n) (.bf z n cs')
section
variable {P:Program}{w:World}{I:a7}{T:Array Value}{g:aH}{Fs:Nat->a7}
theorem R.bh {ρ ρ':ab->Value->Prop}{x:ab}{v:Value}{F:a7}(h:R w I ρ x v F):cK x->R w I ρ' x v F:=by
 induction h with
 | lit h aE=>exact λ_=>.lit h aE
 | bb aE=>exact λ_=>.bb aE
 | dead aE=>exact λ_=>.dead aE
 | j0 aE=>exact λ_=>.j0 aE
 | @ref x _ _ J h aE=>intro aA; cases aA <;> simp [ab.isRef] at J
 | hd aE=>exact λ_=>.hd aE
 | bf aE kx a' av ah h1 aa ak aJ=>exact λaA=>.bf aE kx a' av ah h1 aa λk x J=>aJ k x J (by cases aA with | bf h=>exact h x (List.mem_of_getElem? J))
 | cL aE a' av h1 aa ak aJ=>exact λaA=>.cL aE a' av h1 aa λk x J=>aJ k x J (by cases aA with | cL h=>exact h x (List.mem_of_getElem? J))
 | own aM ah h1 ak aP ao aE aJ=>exact λaA=>.own aM ah h1 (λk x u J hu=>aJ k x u J hu (by cases aA with | own h=>exact h x (List.mem_of_getElem? J))) aP ao aE
 | obj aM ah h1 ak aP ao aE av aJ=>exact λaA=>.obj aM ah h1 (λk x u J hu=>aJ k x u J hu (by cases aA with | obj h=>exact h x (List.mem_of_getElem? J))) aP ao aE av
 | agg ah h1 ak aP aE aJ=>exact λaA=>.agg ah h1 (λk x u J hu=>aJ k x u J hu (by cases aA with | agg h=>exact h x (List.mem_of_getElem? J))) aP aE
 | bI ah ak aP aE aJ=>exact λaA=>.bI ah (λk x u J hu=>aJ k x u J hu (by cases aA with | bI h=>exact h x (List.mem_of_getElem? J))) aP aE
 | mp aM aw aE=>exact λ_=>.mp aM aw aE
 | dt aM h1 aE=>exact λ_=>.dt aM h1 aE
 | imp aE a' aM aw=>exact λ_=>.imp aE a' aM aw
 | dc aE h1 af iR hr f' fL=>exact λaA=>.dc aE h1 af (λk x u J hu=>f' k x u J hu (by cases aA with | dc h _=>exact h x (List.mem_of_getElem? J))) (λk x u J hu=>fL k x u J hu (by cases aA with | dc _ h=>exact h x (List.mem_of_getElem? J)))
theorem R.nj {ρ:ab->Value->Prop}{I':a7}{x:ab}{v:Value}{F:a7}(h:R w I ρ x v F) (a':∀ c,I c->I' c):R w I' ρ x v F :=
 h.frame (λ_ _=>rfl) a' (λ_ _ h=>h) λ_ _=>rfl
theorem R.kY {ρ ρ':ab->Value->Prop}{I':a7}{x:ab}{v:Value}{F:a7}(h:R w I ρ x v F):jL x->R w I' ρ' x v F:=by
 induction h with
 | lit h aE=>exact λ_=>.lit h aE
 | bb aE=>exact λ_=>.bb aE
 | dead aE=>exact λ_=>.dead aE
 | j0 aE=>exact λ_=>.j0 aE
 | @ref x _ _ J h aE=>intro aA; cases aA <;> simp [ab.isRef] at J
 | hd=>intro aA; cases aA
 | bf=>intro aA; cases aA
 | cL=>intro aA; cases aA
 | own aM ah h1 ak aP ao aE aJ=>exact λaA=>.own aM ah h1 (λk x u J hu=>aJ k x u J hu (by cases aA with | own h=>exact h x (List.mem_of_getElem? J))) aP ao aE
 | obj aM ah h1 ak aP ao aE av aJ=>exact λaA=>.obj aM ah h1 (λk x u J hu=>aJ k x u J hu (by cases aA with | obj h=>exact h x (List.mem_of_getElem? J))) aP ao aE av
 | agg ah h1 ak aP aE aJ=>exact λaA=>.agg ah h1 (λk x u J hu=>aJ k x u J hu (by cases aA with | agg h=>exact h x (List.mem_of_getElem? J))) aP aE
 | bI ah ak aP aE aJ=>exact λaA=>.bI ah (λk x u J hu=>aJ k x u J hu (by cases aA with | bI h=>exact h x (List.mem_of_getElem? J))) aP aE
 | dc=>intro aA; cases aA
 | mp aM aw aE=>exact λ_=>.mp aM aw aE
 | dt aM h1 aE=>exact λ_=>.dt aM h1 aE
 | imp=>intro aA; cases aA
theorem R.zy {ρ:ab->Value->Prop}{z n:Nat}{cs:List ab}{v:Value}{F:a7}(h:R w I ρ (.own z n cs) v F):∃ (a:Option Addr) (cap:Nat) (us:Nat->Value) (bH:Nat->a7),v=.slice a n cap/\n<=cap/\cs.length=n * z /\
  (∀ ad,a=some ad->∃ b,ad=⟨b,0,none⟩/\F b)/\(∀ (k:Nat) (x:ab),cs[k]?=some x->∃ b,a=some ⟨b,0,none⟩/\w.cell? ⟨b,k,none⟩=some (us k)/\(us k).oneCell'=true/\R w I ρ x (us k) (bH k)/\∀ c,bH k c->F c):=by
 have aI:=h;cases h with
 | ref J=>simp [ab.isRef] at J
 | @own _ _ _ _ e us Fs _ aM ah h1 ak aP ao aE =>
  obtain ⟨a,cap,rfl,aA,hlen,qH,rE⟩:=aI.mC;refine ⟨a,cap,λk=>us.getD k undef,Fs,rfl,aA,hlen,λad ft=>?_,λk x hk=>?_⟩
  ·obtain ⟨BM,BN⟩:=qH ad ft;obtain ⟨b,o,sp⟩:=ad;simp only at BM BN;subst BM BN;exact ⟨b,rfl,(aE b).2 (.inl (by rw [ft]; rfl))⟩
  ·have aK:k<cs.length:=(List.getElem?_eq_some_iff.1 hk).1;have hu:us[k]?=some us[k]:=List.getElem?_eq_getElem (ah ▸ aK);obtain ⟨b,u,ft,jt,m_,fw,_⟩:=aI.node (.inl rfl) hk;have:a=some ⟨b,0,none⟩:=by
    cases a with
    | none=>simp [addrOf] at ft
    | some ad=>simp only [addrOf] at ft; rw [Option.some.inj ft]
   grind [ow]
theorem R.Fv {ρ:ab->Value->Prop}{y:ab}{v:Value}{F:a7}{z n:Nat}{cs:List ab}(h:R w I ρ y v F) (ai:y=.own z n cs\/y=.obj cs) {ad:Addr}(aQ:addrOf v=some ad):F ad.block:=by
 rcases ai with rfl | rfl
 ·obtain ⟨a,cap,rfl,_⟩:=h.mC;refine h.p5 _ ?_;cases a with
  | none=>simp [addrOf] at aQ
  | some a=>simp only [addrOf,Option.some.injEq] at aQ; subst aQ; rfl
 ·cases h with
  | ref J=>simp [ab.isRef] at J
  | obj aM ah h1 ak aP ao aE=>simp only [addrOf,Option.some.injEq] at aQ; subst aQ; exact (aE _).2 (.inl rfl)
theorem YR {w:World}{e b0:TypeId}{z n:Nat}{v:Value}{us ie:List Value}(h:w.ownsRow 0 e z v n us) (aR:w.ownsRow 0 b0 z v n ie):us=ie:=by
 obtain ⟨h1,af⟩:=h;obtain ⟨aF,bk⟩:=aR;rcases af with ⟨rfl,rfl⟩ | ⟨b,cap,cur,rfl,_,br,_,_,_,au⟩
 ·grind
 grind
theorem Rows.sound {ρ:ab->Value->Prop}(H1:∀ t z q n m new,g t=some (.bD z q n m new)->∃ v,T[t]?=some v/\ja w I ρ (.bD z q n m new) v (Fs t))
  (Rr:∀ p z n cs,bB g p=some (.own z n cs)->∃ v cD,dL w T p=some v/\R w I ρ (.own z n cs) v cD/\∀ c,cD c->Fs p.root c) (Az:∀ z p n v,ρ (.bD z p n 0 []) v->dL w T p=some v) {p:Place}{z n:Nat}{cs:List ab}(h:Rows g p z n cs) :
  ∃ v e us,dL w T p=some v/\w.ownsRow 0 e z v n us/\us.length=cs.length/\(∀ (k:Nat) (u:Value),us[k]?=some u->u.oneCell'=true)/\(∀ c,v.ownBlock=some c->∃ t,Fs t c) /\
   (∀ (k:Nat) (x:ab) (u:Value),cs[k]?=some x->us[k]?=some u->∃ bH,R w I ρ x u bH/\∀ c,bH c->∃ t,Fs t c):=by
 induction h with
 | @own p z n cs aw =>
  obtain ⟨v,cD,hv,aU,aE⟩:=Rr p z n cs aw;cases aU with
  | ref J=>simp [ab.isRef] at J
  | @own _ _ _ _ e us bH _ aM ah h1 ak aP ao lC =>
   grind
 | @bD t z n m q new cs au _ aJ =>
  obtain ⟨v,hv,aU⟩:=H1 t z q n m new au;obtain ⟨v0,e,us,iS,aM,ah,h1,ao,ak⟩:=aJ;cases aU with
  | tree aU=>exact aU.kX.elim
  | @bD _ _ _ _ _ _ bv bP cu aay news _ aU =>
   have e0:=Az _ _ _ _ aU.ka;rw [iS] at e0;cases e0;have:=YR aM aU.iq;subst this;refine ⟨v,cu,us++news,by simp [dL,hv,walk],aU.nb,by rw [List.length_append,List.length_append,ah,aU.ah],λk u hu=>?_,λc aa=>?_,λk x u J hu=>?_⟩
   ·by_cases hk:k<us.length
    ·grind
    ·rw [List.getElem?_append_right (by omega)] at hu; exact aU.h1 _ u hu
   ·by_cases ru:v0.ownBlock=some c
    ·grind
    ·exact ⟨t,(aU.aE c).2 ⟨aa,ru⟩⟩
   ·by_cases hk:k<us.length
    ·grind
    ·rw [List.getElem?_append_right (by omega)] at J;rw [List.getElem?_append_right (by omega),ah] at hu;exact ⟨_,aU.ak _ x u J hu,λc aa=>aa.elim⟩
theorem PV {ρ':ab->Value->Prop}{e:TypeId}{z n N cap:Nat}{a:Option Addr}{us:List Value}{cs cs':List ab}(aM:w.ownsRow 0 e z (.slice a N cap) n us) (hlen:us.length=cs.length) (h1:∀ (k:Nat) (u:Value),us[k]?=some u->u.oneCell'=true) (ao:∀ c,(Value.slice a N cap).ownBlock=some c->∃ t,Fs t c) (ah:cs'.length=cs.length)
  (ak:∀ (k:Nat) (x y:ab) (u:Value),cs[k]?=some x->cs'[k]?=some y->us[k]?=some u->R w (λc=>I c\/∃ t,Fs t c) ρ' y u cd):R w (λc=>I c\/∃ t,Fs t c) ρ' (.bf z n cs') (.slice a n cap) cd:=by
 obtain ⟨N7,aM⟩:=aM;rcases aM with ⟨e0,aI⟩ | ⟨b,rk,cur,bP,_,br,EP,aa,av,au⟩
 ·cases e0;subst aI;have kU:cs'=[]:=List.eq_nil_of_length_eq_zero (by rw [ah,<- hlen,N7]; simp);subst kU;exact .hd λ_ h=>h
 ·cases bP;refine .bf (us:=λk=>us.getD k undef) (λ_ h=>h) EP (.inr (ao b rfl)) rfl (by rw [ah,<- hlen,N7]) (λk y ai=>?_) (λk y ai=>?_) λk y ai=>?_
  all_goals
   have hk:k<us.length:=by rw [hlen,<- ah]; exact (List.getElem?_eq_some_iff.1 ai).1
   have hu:us[k]?=some us[k]:=List.getElem?_eq_getElem hk;have aL:us.getD k undef=us[k]:=by simp [List.getD,hu]
  ·grind
  ·rw [aL];have zj:∀ u,us[k]?=some u->w.cell? ⟨b,k,none⟩=some u:=λu zj=>by
    rw [<- au,List.getElem?_take] at zj
    split at zj
    ·simpa [World.cell?,br] using zj
    grind
   grind
  grind
theorem View.sound (h:cG w I T g Fs) {x x':ab}(hv:View g x x'):∀ {v:Value}{F:a7},R w I (dG w T g) x v F->(∀ c,F c->∃ t,Fs t c)->∀ ρ',R w (λc=>I c\/∃ t,Fs t c) ρ' x' v cd:=by
 induction hv with
 | p3 =>
  intro v F aU aE ρ';have:=aU.p1;subst this;exact .hd λ_ h=>h
 | mp =>
  intro v F aU aE ρ';cases aU with
  | ref J=>simp [ab.isRef] at J
  | mp aM aw ao=>exact .imp (λ_ h=>h) (.inr (aE _ ((ao _).2 rfl))) aM aw
 | gY aw =>
  intro v F aU aE ρ';cases aU with
  | ref _ ak _ =>
   obtain ⟨⟨b,ao,rfl⟩,_⟩:=ak;obtain ⟨dB,cD,iv,dv,dq⟩:=h.part aw (by simp);rw [ao] at iv;cases iv;cases dv with
   | ref J=>simp [ab.isRef] at J
   | mp aM aw ao=>exact .imp (λ_ h=>h) (.inr ⟨_,dq _ ((ao _).2 rfl)⟩) aM aw
 | self aA h1 af aF bk b2 =>
  intro v F aU aE ρ';refine ((aU.bh aA).nj λc aa=>.inl aa).empty ?_;cases aU with
  | mp=>exact absurd rfl (b2.1 _)
  | dt=>exact absurd rfl (b2.2 _ _)
  | lit _ aE | bb aE | dead aE | j0 aE | ref _ _ aE | hd aE | bf aE | cL aE | dc aE | imp aE=>exact aE
  | own=>exact absurd rfl (h1 _ _ _)
  | obj=>exact absurd rfl (af _)
  | agg=>exact absurd rfl (aF _)
  | bI=>exact absurd rfl (bk _)
 | @agg cs cs' ah _ aJ =>
  intro v F aU aE ρ';cases aU with
  | ref J=>simp [ab.isRef] at J
  | @agg _ vs bH _ hp h1 ak aP lC =>
   refine .agg (Fs:=λ_=>cd) (by rw [ah,hp]) h1 (λk y u ai hu=>?_) (λ_ _ _ _ _ h=>h.elim) (λc=>⟨λh=>h.elim,λ⟨_,_,h⟩=>h⟩);have hk:k<cs.length:=by rw [<- ah]; exact (List.getElem?_eq_some_iff.1 ai).1
   have J:=List.getElem?_eq_getElem hk;exact aJ k _ y J ai (ak k _ u J hu) (λc aa=>aE c ((lC c).2 ⟨k,hk,aa⟩)) ρ'
 | @dc fn cs cs' ah _ aJ =>
  intro v F aU aE ρ';cases aU with
  | ref J=>simp [ab.isRef] at J
  | @dc _ _ _ v1 v2 _ mW h1 af iR hr =>
   refine .dc (λ_ h=>h) h1 (by rw [ah,af]) (λk x u J=>by simp at J) (λk y u ai hu=>?_);have hk:k<cs.length:=by rw [<- ah]; exact (List.getElem?_eq_some_iff.1 ai).1
   have J:=List.getElem?_eq_getElem hk;exact aJ k _ y J ai (hr k _ u J hu) (λc aa=>aa.elim) ρ'
 | @own z n cs cs' ah _ aJ =>
  intro v F aU aE ρ';obtain ⟨a,cap,us,bH,rfl,aA,hlen,aQ,aa⟩:=aU.zy;cases a with
  | none =>
   have gB:cs=[]:=by
    cases cs with
    | nil=>rfl
    | cons c cs=>obtain ⟨b,ao,_⟩:=aa 0 c rfl; cases ao
   subst gB;have kU:cs'=[]:=List.eq_nil_of_length_eq_zero (by simpa using ah);subst kU;have l4:n=0:=by
    cases aU with
    | ref J=>simp [ab.isRef] at J
    | own aM =>
     obtain ⟨_,br⟩:=aM;rcases br with ⟨br,aI⟩ | ⟨b,c2,cur,br,_⟩
     ·exact aI
     ·cases br
   subst l4;exact .hd λ_ h=>h
  | some ad =>
   obtain ⟨b,rfl,il⟩:=aQ ad rfl;refine .bf (us:=us) (λ_ h=>h) aA (.inr (aE b il)) rfl (by rw [ah,hlen]) (λk y ai=>?_) (λk y ai=>?_) λk y ai=>?_
   all_goals
    have hk:k<cs.length:=by rw [<- ah]; exact (List.getElem?_eq_some_iff.1 ai).1
    have J:=List.getElem?_eq_getElem hk;obtain ⟨ig,kT,h1,af,aF,bk⟩:=aa k _ J;cases kT
   ·exact af
   ·simpa using h1
   ·exact aJ k _ y J ai aF (λc aa=>aE c (bk c aa)) ρ'
 | @obj cs cs' ah _ aJ =>
  intro v F aU aE ρ';cases aU with
  | ref J=>simp [ab.isRef] at J
  | @obj _ b e arr bH _ aM hp h1 ak aP ao lC =>
   refine .cL (us:=λk=>arr.getD k undef) (λ_ h=>h) (.inr (aE b ((lC b).2 (.inl rfl)))) rfl (λk y ai=>?_) (λk y ai=>?_) λk y ai=>?_
   all_goals
    have hk:k<cs.length:=by rw [<- ah]; exact (List.getElem?_eq_some_iff.1 ai).1
    have J:=List.getElem?_eq_getElem hk;have hu:arr[k]?=some arr[k]:=Array.getElem?_eq_getElem (hp ▸ hk)
   ·simpa [hu] using h1 k _ hu
   ·simp [World.cell?,aM,hu]
   ·simpa [hu] using aJ k _ y J ai (ak k _ _ J hu) (λc aa=>aE c ((lC c).2 (.inr ⟨k,hk,aa⟩))) ρ'
 | @bo z n N p cs cs' aw aA ah _ aJ =>
  intro v F aU aE ρ';obtain ⟨⟨a,j5,cap,h1,rfl,aF⟩,_⟩:=aU.my;obtain ⟨qe,qn,gr,hc,l1⟩:=h.part aw (by simp);rw [h1] at gr;cases gr;obtain ⟨a2,rk,us,bH,ir,kx,hlen,aQ,aa⟩:=hc.zy;cases ir;have hle:n * z<=N * z:=Nat.mul_le_mul_right _ aA;have cell:∀ k,k<cs'.length->∃ x b,(cs.take (n * z))[k]?=some x/\a=some ⟨b,0,none⟩/\w.cell? ⟨b,k,none⟩=some (us k)/\(us k).oneCell'=true/\R w I (dG w T g) x (us k) (bH k)/\∀ c,bH k c->qn c:=by
   intro k hk;rw [ah,List.length_take] at hk;have J:cs[k]?=some cs[k]:=List.getElem?_eq_getElem (by omega);obtain ⟨b,r⟩:=aa k _ J;exact ⟨_,b,by rw [List.getElem?_take,if_pos (by omega)]; exact J,r⟩
  cases a with
  | none =>
   have kU:cs'=[]:=by
    cases cs' with
    | nil=>rfl
    | cons c l=>obtain ⟨_,b,_,ao,_⟩:=cell 0 (by simp); cases ao
   subst kU;obtain ⟨_,_,ir,_,_,_,rE⟩:=hc.mC;cases ir;have l4:n=0:=by
    rcases Nat.eq_zero_or_pos n with aI | aI
    ·exact aI
    ·have:=rE (by omega); simp at this
   subst l4;exact .hd λ_ h=>h
  | some ad =>
   obtain ⟨b,rfl,il⟩:=aQ ad rfl;refine .bf (us:=us) (λ_ h=>h) (by omega) (.inr ⟨_,l1 b il⟩) rfl (by rw [ah,List.length_take,hlen]; omega) (λk y ai=>?_) (λk y ai=>?_) λk y ai=>?_
   all_goals
    obtain ⟨x,ig,J,kT,bk,b2,du,jh⟩:=cell k (List.getElem?_eq_some_iff.1 ai).1;cases kT
   ·exact b2
   ·simpa using bk
   ·exact aJ k x y J ai du (λc aa=>⟨_,l1 c (jh c aa)⟩) ρ'
 | @sub z lo n N p cs cs' aw aA ah _ aJ =>
  intro v F aU aE ρ';obtain ⟨⟨a,j5,cap,cb,ml,h1,rfl,I5,aF,b2⟩,_⟩:=aU.xn;obtain ⟨qe,qn,gr,hc,l1⟩:=h.part aw (by simp);rw [h1] at gr;cases gr;obtain ⟨a2,rk,us,bH,ir,kx,hlen,aQ,aa⟩:=hc.zy;cases ir;have hle:lo * z+n * z<=N * z:=by rw [<- Nat.add_mul]; exact Nat.mul_le_mul_right _ aA
  have hp:cs'.length=n * z:=by rw [ah,List.length_take,List.length_drop,hlen]; omega
  have cell:∀ k,k<cs'.length->∃ x b,((cs.drop (lo * z)).take (n * z))[k]?=some x/\a=some ⟨b,0,none⟩/\w.cell? ⟨b,lo * z+k,none⟩=some (us (lo * z+k))/\(us (lo * z+k)).oneCell'=true/\R w I (dG w T g) x (us (lo * z+k)) (bH (lo * z+k))/\∀ c,bH (lo * z+k) c->qn c:=by
   intro k hk;have J:cs[lo * z+k]?=some cs[lo * z+k]:=List.getElem?_eq_getElem (by omega);obtain ⟨b,r⟩:=aa _ _ J;exact ⟨_,b,by rw [List.getElem?_take,if_pos (by omega),List.getElem?_drop]; exact J,r⟩
  by_cases l4:n=0
  ·subst l4;have kU:cs'=[]:=List.eq_nil_of_length_eq_zero (by simpa using hp);subst kU;exact .hd λ_ h=>h
  ·obtain ⟨ad,rfl,rfl⟩:=b2 (by omega);obtain ⟨b,rfl,il⟩:=aQ ad rfl;refine .bf (us:=λk=>us (lo * z+k)) (λ_ h=>h) I5 (.inr ⟨_,l1 b il⟩) rfl hp (λk y ai=>?_) (λk y ai=>?_) λk y ai=>?_
   all_goals
    obtain ⟨x,ig,J,kT,bk,HX,du,jh⟩:=cell k (List.getElem?_eq_some_iff.1 ai).1;cases kT
   ·exact HX
   ·simpa using bk
   ·exact aJ k x y J ai du (λc aa=>⟨_,l1 c (jh c aa)⟩) ρ'
 | @ptr p k z n y cs cs' aw ai hk ah _ aJ =>
  intro v F aU aE ρ';obtain ⟨⟨u,ad,h1,af,rfl⟩,_⟩:=aU.mz;obtain ⟨qe,qn,gr,hc,l1⟩:=h.part aw (by rcases ai with rfl | rfl <;> simp);rw [h1] at gr;cases gr;have cell:∀ j,j<cs'.length->∃ gj kF wg,w.cell? ⟨ad.block,k+j,none⟩=some gj/\gj.oneCell'=true/\(cs.drop k)[j]?=some kF/\R w I (dG w T g) kF gj wg/\(∀ c,wg c->∃ t,Fs t c):=by
   intro j ag;rw [ah,List.length_drop] at ag;have fD:cs[k+j]?=some cs[k+j]:=List.getElem?_eq_getElem (by omega);obtain ⟨b,gj,ft,jt,m_,fw,_⟩:=hc.node ai fD;rw [af] at ft;cases ft;have fR:bB g (p.push (k+j))=some cs[k+j]:=by rw [s',aw]; rcases ai with rfl | rfl <;> simp [ab.kids]
   by_cases hq:∃ bM ga ck bn cO,cs[k+j]=.bD bM ga ck bn cO
   ·obtain ⟨bM,ga,ck,bn,cO,hq⟩:=hq;obtain ⟨b,aaA,_,_,Bu,_,bH,jU⟩:=hc.node ai fD;rw [hq] at jU;exact jU.kX.elim
   ·obtain ⟨x_,GB,rG,Ic,lC⟩:=h.part fR (λbM ga ck bn cO e=>hq ⟨_,_,_,_,_,e⟩);rw [x8,h1] at rG;simp only [Option.bind_some] at rG;rw [m_] at rG;cases rG;exact ⟨gj,_,GB,jt,fw,by rw [List.getElem?_drop]; exact fD,Ic,λc aa=>⟨_,lC c aa⟩⟩
  obtain ⟨b,gj,ft,_⟩:=hc.node ai (List.getElem?_eq_getElem hk);rw [af] at ft;cases ft;have hblk:∃ t,Fs t b:=⟨_,l1 b (hc.Fv ai af)⟩;refine .cL (us:=λj=>(w.cell? ⟨b,k+j,none⟩).getD undef) (λ_ h=>h) (.inr hblk) rfl (λj hL sH=>?_) (λj hL sH=>?_) λj hL sH=>?_
  all_goals
   obtain ⟨gj,kF,wg,c1,c2,kQ,c4,kr⟩:=cell j (List.getElem?_eq_some_iff.1 sH).1
  ·simpa [c1] using c2
  ·simp [c1]
  ·simpa [c1] using aJ j kF hL kQ sH c4 kr ρ'
 | @rows z n p cs cs' aw ah _ aJ =>
  intro v F aU aE ρ';obtain ⟨a,j5,cap,h1,rfl,aF⟩:=aU.my.1;obtain ⟨v0,e,us,iS,aM,hlen,k',ao,ak⟩:=Rows.sound (w:=w) (I:=I) (T:=T) (Fs:=Fs) (λt z q n m new au=>h.rel t _ au) (λp z n cs aw=>h.part aw (by simp)) (λz p n v hv=>by obtain ⟨⟨a,cap,h1,rfl⟩,_⟩:=hv; exact h1) aw;rw [h1] at iS;cases iS;refine PV aM hlen k' ao ah λk x y u J ai hu=>?_;obtain ⟨bH,jU,eD⟩:=ak k x u J hu;exact aJ k x y J ai jU eD ρ'
end
end Go.Own
namespace Go.Own
open Go
set_option linter.unusedSectionVars false
variable [cw]
def re (args:List ab):aH:=λt=>args[t]?
def h4 (outs:List (Option ab)) (res:ab):aH:=λt=>if t=outs.length then some res else (outs[t]?).join
structure kM (w:World) (I U:a7) (w':World) (I' U':a7):Prop where
 eh:Fr w w' U
 more:∀ c,I c->I' c
 new:∀ c,I' c->I c\/U c\/w.heap.size<=c
 own:∀ c,U' c->U c\/w.heap.size<=c
def bO (P:Program) (f:FuncId) (args:List ab) (outs:List (Option ab)) (res:ab):Prop :=
 outs.length=args.length/\∀ (w:World) (I:a7) (vs:List Value) (Fs:Nat->a7),vs.length=args.length->cG w I vs.toArray (re args) Fs ->
  Calls P f vs.toArray w λe w'=>∃ v I' b5,e=.returned v/\cG w' I' (vs++[v]).toArray (h4 outs res) b5/\kM w I (λc=>∃ t,Fs t c) w' I' (λc=>∃ t,b5 t c)
def gU (P:Program) (f:FuncId):Bool :=
 match P.funcs[f]? with
 | some fn => fn.name != "runtime.NumGoroutine" && fn.body.isSome
 | none=>false
inductive cF (P:Program) (g:aH):Op->ab->Prop
 | plain {c:Operand}{xs:Array Operand}{fT:Array TypeId}{f:FuncId}{first caps ys:List ab}{res:ab}(aa:bp g c=some (.dc (.func f) first caps)) (J:hz g xs.toList=some ys) (aV:gU P f=true)
   (aA:∀ y∈first++ys++caps,cK y) (gH:bO P f (first++ys++caps) ((first++ys++caps).map λ_=>none) res) (ak:cK res):cF P g (.call { callee:=.value c,args:=xs,argTypes:=fT }) res
 | Fg {c:Operand}{xs:Array Operand}{fT:Array TypeId}{f:FuncId}{first caps ys args:List ab}{res:ab}(aa:bp g c=some (.dc (.func f) first caps)) (J:hz g xs.toList=some ys) (aV:gU P f=true)
   (ah:args.length=(first++ys++caps).length) (hv:∀ (k:Nat) (x y:ab),(first++ys++caps)[k]?=some x->args[k]?=some y->View g x y) (gH:bO P f args (args.map λ_=>none) res) (ak:jL res) :
   cF P g (.call { callee:=.value c,args:=xs,argTypes:=fT }) res
section
variable {P:Program}{w:World}{I:a7}{T:Array Value}{g:aH}{Fs:Nat->a7}
theorem AX {f:FuncId}(h:gU P f=true) (args:Array Value):(callFunc f args).run P w=.ok (.enter f args) w:=by
 unfold gU at h;cases aV:P.funcs[f]? with
 | none=>simp [aV] at h
 | some fn =>
  simp [aV] at h;obtain ⟨h1,af⟩:=h;cases ao:fn.body with
  | none=>simp [ao] at af
  | some c=>simp [callFunc,aV,h1,ao]
theorem D9 (h:cG w I T g Fs) {a:Act}(aQ:a.tmps=T) {c:Operand}{xs:Array Operand}{f:FuncId}{first caps ys:List ab}(aa:bp g c=some (.dc (.func f) first caps)) (J:hz g xs.toList=some ys) :
  ∃ v1 v2:Array Value,a.eval c=.func (.func f) v1 v2/\(first++ys++caps).length=(v1++xs.map a.eval++v2).toList.length /\
   ∀ (k:Nat) (x:ab) (u:Value),(first++ys++caps)[k]?=some x->(v1++xs.map a.eval++v2).toList[k]?=some u->R w I (dG w T g) x u cd:=by
 have Ey:=kZ h aa aQ;obtain ⟨ah,ak⟩:=Cx h aQ J;generalize so:a.eval c=aey at Ey;cases Ey with
 | ref J=>simp [ab.isRef] at J
 | @dc _ _ _ v1 v2 _ _ h1 af iR hr =>
  have hlen:xs.size=ys.length:=by rw [<- Array.length_toList,ah]
  refine ⟨v1,v2,rfl,by simp [h1,af,hlen],λk x u pZ oY=>?_⟩;simp only [Array.toList_append,Array.toList_map] at oY;by_cases eX:k<first.length
  ·rw [List.append_assoc,List.getElem?_append_left eX] at pZ;rw [List.append_assoc,List.getElem?_append_left (by simp; omega)] at oY;exact iR k x u pZ (by simpa using oY)
  ·rw [List.append_assoc,List.getElem?_append_right (by omega)] at pZ;rw [List.append_assoc,List.getElem?_append_right (by simp; omega)] at oY;simp only [Array.length_toList,<- h1] at oY;by_cases fK:k - first.length<ys.length
   ·rw [List.getElem?_append_left fK] at pZ;rw [List.getElem?_append_left (by simp; omega),List.getElem?_map] at oY;cases JD:xs.toList[k - first.length]? with
    | none=>rw [JD] at oY; cases oY
    | some o=>rw [JD] at oY; cases oY; exact ak _ x o pZ JD
   ·rw [List.getElem?_append_right (by omega)] at pZ;rw [List.getElem?_append_right (by simp; omega)] at oY;simp only [List.length_map,Array.length_toList] at oY;rw [hlen] at oY;exact hr _ x u pZ (by simpa using oY)
theorem cG.args {I':a7}(h:cG w I T g Fs) (nF:∀ c,I c->I' c) (a':∀ c,I' c->I c\/∃ t,Fs t c) {args:List ab}{vs:List Value}(ah:args.length=vs.length)
  (ak:∀ (ρ':ab->Value->Prop) (k:Nat) (x:ab) (u:Value),args[k]?=some x->vs[k]?=some u->R w I' ρ' x u cd):cG w I' vs.toArray (re args) (λ_=>cd):=by
 refine ⟨λt x J=>?_,λ_ _ _ h=>h,λ_ _ _ h=>h.elim,λ_ _ h=>h.elim,λc aa=>?_,λt t' z p n m new bM ck bn cO h1 af=>?_,cw.keep h.g_ (λ_ _=>rfl) nF⟩
 ·have au:t<args.length:=(List.getElem?_eq_some_iff.1 J).1;have hu:vs[t]?=some vs[t]:=List.getElem?_eq_getElem (ah ▸ au);exact ⟨vs[t],by rw [List.getElem?_toArray]; exact hu,.tree (ak _ t x _ J hu)⟩
 ·rcases a' c aa with aR | ⟨t,aR⟩
  ·exact h.lt c aR
  ·exact h.jC t c aR
 ·have au:t<args.length:=(List.getElem?_eq_some_iff.1 h1).1;exact (ak (λ_ _=>False) t _ _ h1 (List.getElem?_eq_getElem (ah ▸ au))).kX.elim
theorem cF.sound (h:cG w I T g Fs) {a:Act}(aQ:a.tmps=T) {o:Oper}{kk:ab}(aw:cF P g o.op kk) {K:Act->World->Prop}{Q:Exit->Act->World->Prop}
  (dk:∀ v w',uv w I T g Fs kk v w'->K (a.put o.dst v) w'):o.wp P a w K Q:=by
 obtain ⟨dst,op,ty,pos,after,guard⟩:=o;simp only at aw dk;have Cq:cK kk->∀ z p n m new,kk=.bD z p n m new->∀ t bM ck bn cO,g t≠some (.bD bM p ck bn cO):=by
  rintro aA z p n m new rfl;cases aA
 have last:∀ {args:List ab}{res:ab}{v:Value}{vs:List Value}{w':World}{I':a7}{b5:Nat->a7},vs.length=args.length->cG w' I' (vs++[v]).toArray (h4 (args.map λ_=>none) res) b5->ja w' I' (dG w' (vs++[v]).toArray (h4 (args.map λ_=>none) res)) res v (b5 args.length)/\∀ t,t≠args.length->∀ c,¬ b5 t c:=by
  intro args res v vs w' I' b5 ah a_;constructor
  ·obtain ⟨u,hu,aU⟩:=a_.rel args.length res (by simp [h4]);have:u=v:=by
    rw [<- ah] at hu;simpa using hu.symm
   subst this; exact aU
  ·intro t au c aa;refine a_.kA t ?_ c aa;have sy:t≠(args.map λ_=>(none:Option ab)).length:=by simpa using au
   simp only [h4,if_neg sy,List.getElem?_map];cases args[t]? <;> rfl
 cases aw with
 | @plain c xs fT f first caps ys _ aa J aV aA gH ak =>
  obtain ⟨v1,v2,so,ah,mo⟩:=D9 h aQ aa J;have h2:(execOp a.eval { dst:=dst,op:=.call { callee:=.value c,args:=xs,argTypes:=fT },type:=ty,pos:=pos,after:=after,guard:=guard }).run P w=.ok (.enter f (v1++xs.map a.eval++v2)) w:=by
   simp [execOp,resolve,Deferred.ofValue,so,invoke,AX aV]
  have a_:=h.args (I':=I) (λ_ h=>h) (λc aa=>.inl aa) ah λρ' k x u J hu=>(mo k x u J hu).bh (aA x (List.mem_of_getElem? J));have n9:=gH.2 w I (v1++xs.map a.eval++v2).toList _ ah.symm a_;unfold Oper.wp Oper.upon;simp only [h2];rw [Array.toArray_toList] at n9;refine Calls.mono n9 ?_;rintro e w' ⟨v,I',b5,rfl,eL,bQ⟩;obtain ⟨zg,eR⟩:=last ah.symm eL;have fC:Fr w w' (λ_=>False):=bQ.eh.mono λb _ ⟨_,ao⟩=>ao;refine dk v w' ⟨b5 (first++ys++caps).length,I',?_,?_,?_,?_,bQ.more,?_,fC.mono λ_ _ h=>h.elim,Cq ak⟩
  ·have:=h.world (w':=w') (λt c aa=>fC.block c (h.jC t c aa) (λh=>h)) (λc aa=>fC.block c (h.lt c aa) λh=>h) fC.size;refine ⟨λt x J=>?_,this.kA,this.ep,λt c aa hi=>?_,eL.lt,this.qV,eL.g_⟩
   ·obtain ⟨v,hv,aU⟩:=this.rel t x J;exact ⟨v,hv,aU.frame (λ_ _=>rfl) bQ.more (λ_ _ h=>h) (λ_ _ _ _ _ _ _=>rfl) λ_ _=>rfl⟩
   ·rcases bQ.new c hi with aR | ⟨_,aR⟩ | aR
    ·exact h.bf t c aa aR
    ·exact aR
    ·have:=h.jC t c aa; omega
  ·exact .tree ((zg.fW (by rintro z p n m new rfl; cases ak)).bh ak)
  ·intro t c aa qF;rcases bQ.own c ⟨_,aa⟩ with ⟨_,aR⟩ | aR
   ·exact aR
   ·have:=h.jC t c qF; omega
  ·intro c aa;rcases bQ.own c ⟨_,aa⟩ with ⟨_,aR⟩ | aR
   ·exact aR.elim
   ·exact ⟨aR,eL.bf _ c aa⟩
  ·intro c aa;rcases bQ.new c aa with aR | ⟨_,aR⟩ | aR
   ·exact .inl aR
   ·exact aR.elim
   ·exact .inr aR
 | @Fg c xs fT f first caps ys args _ aa J aV za hv gH ak =>
  obtain ⟨v1,v2,so,ah,mo⟩:=D9 h aQ aa J;have h2:(execOp a.eval { dst:=dst,op:=.call { callee:=.value c,args:=xs,argTypes:=fT },type:=ty,pos:=pos,after:=after,guard:=guard }).run P w=.ok (.enter f (v1++xs.map a.eval++v2)) w:=by
   simp [execOp,resolve,Deferred.ofValue,so,invoke,AX aV]
  have hp:args.length=(v1++xs.map a.eval++v2).toList.length:=by rw [za,ah]
  have a_:=h.args (I':=λc=>I c\/∃ t,Fs t c) (λ_ h=>.inl h) (λc aa=>aa) hp λρ' k x u J hu=>by
   have hk:k<(first++ys++caps).length:=by rw [<- za]; exact (List.getElem?_eq_some_iff.1 J).1
   have iw:=List.getElem?_eq_getElem hk;exact (hv k _ x iw J).sound h (mo k _ u iw hu) (λ_ h=>h.elim) ρ'
  have n9:=gH.2 w _ (v1++xs.map a.eval++v2).toList _ hp.symm a_;unfold Oper.wp Oper.upon;simp only [h2];rw [Array.toArray_toList] at n9;refine Calls.mono n9 ?_;rintro e w' ⟨v,I',b5,rfl,eL,bQ⟩;obtain ⟨zg,eR⟩:=last hp.symm eL;have fC:Fr w w' (λ_=>False):=bQ.eh.mono λb _ ⟨_,ao⟩=>ao;refine dk v w' ⟨b5 args.length,I,?_,?_,?_,?_,λ_ h=>h,λ_ h=>.inl h,fC.mono λ_ _ h=>h.elim,Cq ak.bh⟩
  ·exact h.world (w':=w') (λt c aa=>fC.block c (h.jC t c aa) (λh=>h)) (λc aa=>fC.block c (h.lt c aa) λh=>h) fC.size
  ·exact .tree ((zg.fW (by rintro z p n m new rfl; cases ak)).kY ak)
  ·intro t c aa qF;rcases bQ.own c ⟨_,aa⟩ with ⟨_,aR⟩ | aR
   ·exact aR
   ·have:=h.jC t c qF; omega
  ·intro c aa;rcases bQ.own c ⟨_,aa⟩ with ⟨_,aR⟩ | aR
   ·exact aR.elim
   ·exact ⟨aR,λhi=>by have:=h.lt c hi; omega⟩
end
end Go.Own
namespace Go.Own
open Go
set_option linter.unusedSectionVars false
variable [cw]
structure jb (w:World) (I:a7) (T:Array Value) (g:aH) (Fs:Nat->a7):Prop where
 rel:∀ t x,g t=some x->∃ v,T[t]?=some v/\ja w I (fO w T) x v (Fs t)
 kA:∀ t,g t=none->∀ c,¬ Fs t c
 ep:∀ t t' c,Fs t c->Fs t' c->t=t'
 bf:∀ t c,Fs t c->¬ I c
 lt:∀ c,I c->c<w.heap.size
 g_:cw.q w I
def cp (g:aH) (p:Place) (y:ab):aH:=λt=>if t=p.root then (g t).map λx=>x.setAt p.path y else g t
inductive eo (g:aH):ab->Prop
 | bh {x:ab}(h:cK x):eo g x
 | ref {x:ab}(J:x.isRef=true) (h:gF g x):eo g x
 | own {z n:Nat}{cs:List ab}(h:∀ x∈cs,eo g x):eo g (.own z n cs)
 | obj {cs:List ab}(h:∀ x∈cs,eo g x):eo g (.obj cs)
 | agg {cs:List ab}(h:∀ x∈cs,eo g x):eo g (.agg cs)
 | bI {cs:List ab}(h:∀ x∈cs,eo g x):eo g (.bI cs)
 | dc {fn:Fn}{a b:List ab}(h1:∀ x∈a,eo g x) (af:∀ x∈b,eo g x):eo g (.dc fn a b)
 | bD {z n m:Nat}{p:Place}{new:List ab}(aw:gF g (.bD z p n 0 [])) (h:∀ x∈new,eo g x):eo g (.bD z p n m new)
section
variable {w:World}{I:a7}{T:Array Value}{g:aH}{Fs:Nat->a7}
theorem R.bR {x:ab}{v:Value}{F:a7}(h:R w I (fO w T) x v F):eo g x->R w I (dG w T g) x v F:=by
 induction h with
 | lit h aE=>exact λ_=>.lit h aE
 | bb aE=>exact λ_=>.bb aE
 | dead aE=>exact λ_=>.dead aE
 | j0 aE=>exact λ_=>.j0 aE
 | @ref x _ _ J h aE =>
  intro hk;refine .ref J ⟨h,?_⟩ aE;cases hk with
  | ref _ h=>exact h
  | bh h=>cases h <;> simp [ab.isRef] at J
  | _=>simp [ab.isRef] at J
 | hd aE=>exact λ_=>.hd aE
 | mp aM aw aE=>exact λ_=>.mp aM aw aE
 | dt aM h1 aE=>exact λ_=>.dt aM h1 aE
 | imp aE a' aM aw=>exact λ_=>.imp aE a' aM aw
 | bf aE kx a' av ah h1 aa ak aJ =>
  intro hk;cases hk with
  | ref J=>simp [ab.isRef] at J
  | bh h=>cases h with | bf h=>exact .bf aE kx a' av ah h1 aa λk x J=>aJ k x J (.bh (h x (List.mem_of_getElem? J)))
 | cL aE a' av h1 aa ak aJ =>
  intro hk;cases hk with
  | ref J=>simp [ab.isRef] at J
  | bh h=>cases h with | cL h=>exact .cL aE a' av h1 aa λk x J=>aJ k x J (.bh (h x (List.mem_of_getElem? J)))
 | own aM ah h1 ak aP ao aE aJ =>
  intro hk;refine .own aM ah h1 (λk x u J hu=>aJ k x u J hu ?_) aP ao aE;cases hk with
  | ref J=>simp [ab.isRef] at J
  | bh h=>cases h with | own h=>exact .bh (h x (List.mem_of_getElem? J))
  | own h=>exact h x (List.mem_of_getElem? J)
 | obj aM ah h1 ak aP ao aE av aJ =>
  intro hk;refine .obj aM ah h1 (λk x u J hu=>aJ k x u J hu ?_) aP ao aE av;cases hk with
  | ref J=>simp [ab.isRef] at J
  | bh h=>cases h with | obj h=>exact .bh (h x (List.mem_of_getElem? J))
  | obj h=>exact h x (List.mem_of_getElem? J)
 | agg ah h1 ak aP aE aJ =>
  intro hk;refine .agg ah h1 (λk x u J hu=>aJ k x u J hu ?_) aP aE;cases hk with
  | ref J=>simp [ab.isRef] at J
  | bh h=>cases h with | agg h=>exact .bh (h x (List.mem_of_getElem? J))
  | agg h=>exact h x (List.mem_of_getElem? J)
 | bI ah ak aP aE aJ =>
  intro hk;refine .bI ah (λk x u J hu=>aJ k x u J hu ?_) aP aE;cases hk with
  | ref J=>simp [ab.isRef] at J
  | bh h=>cases h with | bI h=>exact .bh (h x (List.mem_of_getElem? J))
  | bI h=>exact h x (List.mem_of_getElem? J)
 | @dc fn first caps v1 v2 F aE h1 af iR hr f' fL =>
  intro hk;have:(∀ x∈first,eo g x)/\∀ x∈caps,eo g x:=by
   cases hk with
   | ref J=>simp [ab.isRef] at J
   | bh h=>cases h with | dc h1 af=>exact ⟨λx J=>.bh (h1 x J),λx J=>.bh (af x J)⟩
   | dc h1 af=>exact ⟨h1,af⟩
  exact .dc aE h1 af (λk x u J hu=>f' k x u J hu (this.1 x (List.mem_of_getElem? J))) (λk x u J hu=>fL k x u J hu (this.2 x (List.mem_of_getElem? J)))
theorem ja.bR {x:ab}{v:Value}{F:a7}(h:ja w I (fO w T) x v F) (hk:eo g x):ja w I (dG w T g) x v F:=by
 cases h with
 | tree h=>exact .tree (h.bR hk)
 | bD h =>
  cases hk with
  | bh h=>cases h
  | ref J=>simp [ab.isRef] at J
  | bD aw aA=>exact .bD ⟨⟨h.ka,aw⟩,h.iq,h.nb,h.ah,h.h1,λk x u J hu=>(h.ak k x u J hu).bR (aA x (List.mem_of_getElem? J)),h.aE⟩
theorem cG.mG (h:cG w I T g Fs):jb w I T g Fs :=
  ⟨λt x J=>by
    obtain ⟨v,hv,aU⟩:=h.rel t x J;refine ⟨v,hv,?_⟩;cases aU with
    | tree aU=>exact .tree (aU.frame (λ_ _=>rfl) (λ_ h=>h) (λ_ _ h=>h.1) λ_ _=>rfl)
    | bD aU=>exact .bD ⟨aU.ka.1,aU.iq,aU.nb,aU.ah,aU.h1,λk x u J hu=>(aU.ak k x u J hu).frame (λ_ _=>rfl) (λ_ h=>h) (λ_ _ h=>h.1) λ_ _=>rfl,aU.aE⟩,
   h.kA,h.ep,h.bf,h.lt,h.g_⟩
theorem jb.aat (h:jb w I T g Fs) {g':aH}(aL:∀ t x,g' t=some x->g t=some x) (hk:∀ t x,g' t=some x->eo g' x)
  (aw:∀ t t' z p n m new bM ck bn cO,g' t=some (.bD z p n m new)->g' t'=some (.bD bM p ck bn cO)->t=t'):cG w I T g' (λt c=>g' t≠none/\Fs t c):=by
 refine ⟨λt x J=>?_,λt au c aa=>aa.1 au,λt t' c aa dW=>h.ep t t' c aa.2 dW.2,λt c aa=>h.bf t c aa.2,h.lt,aw,h.g_⟩;obtain ⟨v,hv,aU⟩:=h.rel t x (aL t x J);have:Fs t=λc=>g' t≠none/\Fs t c:=by
  funext c;exact propext ⟨λaa=>⟨by rw [J]; simp,aa⟩,λaa=>aa.2⟩
 refine ⟨v,hv,?_⟩;rw [<- this];exact aU.bR (hk t x J)
theorem jb.part (h:jb w I T g Fs) {p:Place}{y:ab}(aw:bB g p=some y) (ai:∀ z q n m new,y≠.bD z q n m new):∃ v cD,dL w T p=some v/\R w I (fO w T) y v cD/\(∀ c,cD c->Fs p.root c) /\
  ∀ (y':ab) (iH:a7),R w I (fO w T) y' v iH->(∀ c,iH c->Fs p.root c->cD c)->(∀ c,iH c->¬ I c)->(∀ t c,t≠p.root->iH c->¬ Fs t c)->(∀ j,y'=.self j->y=.self j) ->
   ∃ b5,jb w I T (cp g p y') b5/\(∀ c,b5 p.root c↔(Fs p.root c/\¬ cD c)\/iH c)/\∀ t,t≠p.root->b5 t=Fs t:=by
 unfold bB at aw;cases J:g p.root with
 | none=>rw [J] at aw; cases aw
 | some x =>
  rw [J] at aw;obtain ⟨v,hv,aU⟩:=h.rel _ _ J;replace aU:=aU.fW (by
   rintro z q n m new rfl;exact ai _ _ _ _ _ (ab.ta aw).2)
  obtain ⟨hV,cD,hw,dv,dq,eS,kB⟩:=R.focus p.path aU aw;refine ⟨hV,cD,by simp [dL,hv,hw],dv,dq,λy' iH h_ mq a' N_ lH=>?_⟩;obtain ⟨cW,Ib,oQ⟩:=kB w I (fO w T) y' iH ⟨λ_ _=>rfl,λ_ _ _=>rfl,λ_ h=>h,λ_ _ h=>h⟩ h_ mq lH;refine ⟨λt=>if t=p.root then cW else Fs t,⟨λt x' fD=>?_,λt au c=>?_,λt t' c aa dW=>?_,λt c aa=>?_,h.lt,h.g_⟩,λc=>by simp [oQ c],λt au=>by simp [au]⟩
  ·by_cases hs:t=p.root
   ·subst hs;have Xn:x.setAt p.path y'=x':=by simpa [cp,J] using fD
    subst Xn;exact ⟨v,hv,.tree (by simpa using Ib)⟩
   ·simp only [cp,if_neg hs] at fD;simpa [hs] using h.rel t x' fD
  ·by_cases hs:t=p.root
   ·subst hs; simp [cp,J] at au
   ·simp only [cp,if_neg hs] at au; simpa [hs] using h.kA t au c
  ·by_cases h1:t=p.root <;> by_cases af:t'=p.root <;> simp only [h1,af,if_true,if_false] at aa dW
   ·rw [h1,af]
   ·rcases (oQ c).1 aa with ⟨aF,_⟩ | aF
    ·rw [h1]; exact h.ep _ _ _ aF dW
    ·exact absurd dW (N_ t' c af aF)
   ·rcases (oQ c).1 dW with ⟨aF,_⟩ | aF
    ·rw [af]; exact h.ep _ _ _ aa aF
    ·exact absurd aa (N_ t c h1 aF)
   ·exact h.ep _ _ _ aa dW
  ·by_cases h1:t=p.root <;> simp only [h1,if_true,if_false] at aa
   ·rcases (oQ c).1 aa with ⟨aF,_⟩ | aF
    ·exact h.bf _ c aF
    ·exact a' c aF
   ·exact h.bf t c aa
end
end Go.Own
namespace Go.Own
open Go
set_option linter.unusedSectionVars false
variable [cw]
inductive Take:aH->List ab->List ab->aH->Prop
 | bh {g:aH}{xs:List ab}(h:∀ x∈xs,cK x):Take g xs xs g
 | cons {g g':aH}{x:ab}{xs xs':List ab}(h:cK x) (au:Take g xs xs' g'):Take g (x::xs) (x::xs') g'
 | bo {g g1 g':aH}{z n N:Nat}{p:Place}{cs cs' xs xs':List ab}(aw:bB g p=some (.own z N cs)) (aA:n<=N) (h1:Take (cp g p .dead) (cs.take (n * z)) cs' g1) (af:Take g1 xs xs' g') :
   Take g (.bo z p n::xs) (.own z n cs'::xs') g'
 | bD {g g1 g':aH}{z n m t:Nat}{q:Place}{cs new cs' xs xs':List ab}(au:g t=some (.bD z q n m new)) (aw:bB g q=some (.own z n cs)) (ba:q.root≠t) (h1:Take (cp (cp g ⟨t,[]⟩ .dead) q .dead) (cs++new) cs' g1) (af:Take g1 xs xs' g') :
   Take g (.bo z ⟨t,[]⟩ (n+m)::xs) (.own z (n+m) cs'::xs') g'
 | zz {g g1 g':aH}{z n m t lL m2 t2:Nat}{q:Place}{cs new zv cs' xs xs':List ab}(au:g t=some (.bD z ⟨t2,[]⟩ n m new)) (Oj:g t2=some (.bD z q lL m2 zv)) (aA:n=lL+m2) (aw:bB g q=some (.own z lL cs)) (ba:q.root≠t) (qI:q.root≠t2) (Ji:t≠t2)
   (h1:Take (cp (cp (cp g ⟨t,[]⟩ .dead) ⟨t2,[]⟩ .dead) q .dead) (cs++zv++new) cs' g1) (af:Take g1 xs xs' g') :
   Take g (.bo z ⟨t,[]⟩ (n+m)::xs) (.own z (n+m) cs'::xs') g'
 | obj {g g1 g':aH}{p:Place}{cs cs' xs xs':List ab}(aw:bB g p=some (.obj cs)) (h1:Take (cp g p .dead) cs cs' g1) (af:Take g1 xs xs' g'):Take g (.ptr p 0::xs) (.obj cs'::xs') g'
 | mp {g g1 g':aH}{p:Place}{q:Array MapEntry->Nat->Prop}{xs xs':List ab}(aw:bB g p=some (.mp q)) (h1:Take (cp g p .dead) [] [] g1) (af:Take g1 xs xs' g'):Take g (.gY p::xs) (.mp q::xs') g'
 | agg {g g1 g':aH}{cs cs' xs xs':List ab}(h1:Take g cs cs' g1) (af:Take g1 xs xs' g'):Take g (.agg cs::xs) (.agg cs'::xs') g'
 | bI {g g1 g':aH}{cs cs' xs xs':List ab}(h1:Take g cs cs' g1) (af:Take g1 xs xs' g'):Take g (.bI cs::xs) (.bI cs'::xs') g'
structure Hand (w:World) (I:a7) (ρ:ab->Value->Prop) (Fs:Nat->a7) (xs:List ab) (vs:List Value) (dm:Nat->a7):Prop where
 len:xs.length=vs.length
 rel:∀ (k:Nat) (x:ab) (u:Value),xs[k]?=some x->vs[k]?=some u->R w I ρ x u (dm k)
 ep:∀ (j k c:Nat),j<xs.length->k<xs.length->dm j c->dm k c->j=k
 off:∀ (k t c:Nat),k<xs.length->dm k c->¬ Fs t c
 bf:∀ (k c:Nat),k<xs.length->dm k c->¬ I c
def lv (Fs:Nat->a7) (n:Nat) (dm:Nat->a7):a7:=λc=>(∃ t,Fs t c)\/∃ k,k<n/\dm k c
section
variable {w:World}{I:a7}{T:Array Value}
theorem Take.length {g g':aH}{xs xs':List ab}(h:Take g xs xs' g'):xs'.length=xs.length:=by
 induction h with
 | bh=>rfl
 | cons _ _ aJ=>simp [aJ]
 | bo _ _ _ _ _ aJ=>simp [aJ]
 | bD _ _ _ _ _ _ aJ=>simp [aJ]
 | zz _ _ _ _ _ _ _ _ _ _ aJ=>simp [aJ]
 | obj _ _ _ _ aJ=>simp [aJ]
 | mp _ _ _ _ aJ=>simp [aJ]
 | agg _ _ _ aJ=>simp [aJ]
 | bI _ _ _ aJ=>simp [aJ]
theorem Take.self {g g':aH}{xs xs':List ab}(h:Take g xs xs' g'):∀ (k:Nat) (j:Nat × Nat),xs'[k]?=some (.self j)->xs[k]?=some (.self j):=by
 have step:∀ {x x':ab}{xs xs':List ab},(∀ j,x'=.self j->x=.self j)->(∀ (k:Nat) (j:Nat × Nat),xs'[k]?=some (.self j)->xs[k]?=some (.self j))->∀ (k:Nat) (j:Nat × Nat),(x'::xs')[k]?=some (.self j)->(x::xs)[k]?=some (.self j):=by
  intro x x' xs xs' h1 af k j h;cases k with
  | zero=>simp only [List.getElem?_cons_zero,Option.some.injEq] at h ⊢; exact h1 j h
  | succ k=>exact af k j h
 induction h with
 | bh=>exact λ_ _ h=>h
 | cons _ _ aJ=>exact step (λ_ h=>h) aJ
 | bo _ _ _ _ _ aJ=>exact step (λ_ h=>by cases h) aJ
 | bD _ _ _ _ _ _ aJ=>exact step (λ_ h=>by cases h) aJ
 | zz _ _ _ _ _ _ _ _ _ _ aJ=>exact step (λ_ h=>by cases h) aJ
 | obj _ _ _ _ aJ=>exact step (λ_ h=>by cases h) aJ
 | mp _ _ _ _ aJ=>exact step (λ_ h=>by cases h) aJ
 | agg _ _ _ aJ=>exact step (λ_ h=>by cases h) aJ
 | bI _ _ _ aJ=>exact step (λ_ h=>by cases h) aJ
theorem Take.Cv {g g':aH}{xs xs':List ab}(h:Take g xs xs' g') (aM:∀ x∈xs,r8 x):∀ x∈xs',r8 x:=by
 induction h with
 | bh=>exact aM
 | cons _ _ aJ =>
  intro x J;rcases List.mem_cons.1 J with rfl | J
  ·exact aM _ (by simp)
  ·exact aJ (λx h=>aM x (by simp [h])) x J
 | bo _ _ _ _ _ aJ | bD _ _ _ _ _ _ aJ | zz _ _ _ _ _ _ _ _ _ _ aJ | obj _ _ _ _ aJ | mp _ _ _ _ aJ | bI _ _ _ aJ =>
  intro x J;rcases List.mem_cons.1 J with rfl | J
  ·intro cs e; cases e
  ·exact aJ (λx h=>aM x (by simp [h])) x J
 | agg h1 _ _ aJ =>
  intro x J;rcases List.mem_cons.1 J with rfl | J
  ·intro cs e;cases e;exact λk j hk=>aM _ (List.mem_cons_self ..) _ rfl k j (h1.self k j hk)
  ·exact aJ (λx h=>aM x (by simp [h])) x J
theorem Hand.cons {ρ:ab->Value->Prop}{Fs:Nat->a7}{x:ab}{v:Value}{F:a7}{xs:List ab}{vs:List Value}{dm:Nat->a7}(h:Hand w I ρ Fs xs vs dm) (J:R w I ρ x v F)
  (aP:∀ k c,k<xs.length->F c->¬ dm k c) (aM:∀ t c,F c->¬ Fs t c) (hi:∀ c,F c->¬ I c):Hand w I ρ Fs (x::xs) (v::vs) (λk=>match k with | 0=>F | k+1=>dm k):=by
 refine ⟨by simp [h.len],λk y u ai hu=>?_,λj k c ag hk h1 af=>?_,λk t c hk aa=>?_,λk c hk aa=>?_⟩
 ·cases k with
  | zero=>simp at ai hu; subst ai hu; exact J
  | succ k=>simp at ai hu; exact h.rel k y u ai hu
 ·cases j <;> cases k
  ·rfl
  ·exact absurd af (aP _ c (by simpa using hk) h1)
  ·exact absurd h1 (aP _ c (by simpa using ag) af)
  ·rw [h.ep _ _ c (by simpa using ag) (by simpa using hk) h1 af]
 ·cases k with
  | zero=>exact aM t c aa
  | succ k=>exact h.off k t c (by simpa using hk) aa
 ·cases k with
  | zero=>exact hi c aa
  | succ k=>exact h.bf k c (by simpa using hk) aa
theorem Hand.tail {ρ:ab->Value->Prop}{Fs:Nat->a7}{x:ab}{v:Value}{xs:List ab}{vs:List Value}{dm:Nat->a7}(h:Hand w I ρ Fs (x::xs) (v::vs) dm):Hand w I ρ Fs xs vs (λk=>dm (k+1)) :=
  ⟨by simpa using h.len,λk y u ai hu=>h.rel (k+1) y u ai hu,λj k c ag hk h1 af=>by have:=h.ep (j+1) (k+1) c (by simpa using ag) (by simpa using hk) h1 af; omega,
   λk t c hk aa=>h.off (k+1) t c (by simpa using hk) aa,λk c hk aa=>h.bf (k+1) c (by simpa using hk) aa⟩
theorem rS {x:ab}{xs:List ab}(h:cK x) (aJ:∀ y∈xs,cK y):∀ y∈x::xs,cK y:=by
 intro y ai;rcases List.mem_cons.1 ai with rfl | ai
 ·exact h
 ·exact aJ y ai
theorem Take.Ct {g g':aH}{xs xs':List ab}(h:Take g xs xs' g'):∀ x∈xs',cK x:=by
 induction h with
 | bh h=>exact h
 | cons h _ aJ=>exact rS h aJ
 | bo _ _ _ _ f' fL=>exact rS (.own f') fL
 | bD _ _ _ _ _ f' fL=>exact rS (.own f') fL
 | zz _ _ _ _ _ _ _ _ _ f' fL=>exact rS (.own f') fL
 | obj _ _ _ f' fL=>exact rS (.obj f') fL
 | mp _ _ _ _ fL=>exact rS .mp fL
 | agg _ _ f' fL=>exact rS (.agg f') fL
 | bI _ _ f' fL=>exact rS (.bI f') fL
def GI (w:World) (I:a7) (T:Array Value) (g:aH) (xs xs':List ab) (g':aH):Prop :=
 ∀ {Fs:Nat->a7}{vs:List Value}{dm:Nat->a7},jb w I T g Fs->Hand w I (fO w T) Fs xs vs dm ->
  ∃ b5 i',jb w I T g' b5/\Hand w I (fO w T) b5 xs' vs i'/\∀ c,lv b5 xs'.length i' c->lv Fs xs.length dm c
theorem Kv {w:World}{e b0:TypeId}{z n:Nat}{v:Value}{us ie:List Value}(h:w.ownsRow 0 e z v n us) (aR:w.ownsRow 0 b0 z v n ie):us=ie:=by
 obtain ⟨h1,af⟩:=h;obtain ⟨k',HU⟩:=aR;rcases af with ⟨rfl,rfl⟩ | ⟨b,cap,cur,rfl,_,aL,_,_,_,au⟩
 ·simp at h1 k'; rw [h1,k']
 ·rcases HU with ⟨br,_⟩ | ⟨ig,ml,ac7,br,_,EG,_,_,_,sy⟩
  ·cases br
  ·cases br;rw [aL] at EG;cases EG;rw [<- au,<- sy]
theorem Take.node {g1 g2 g':aH}{Fs fN:Nat->a7}{B H0:a7}{cs cs' xs xs':List ab}{us vs:List Value}{bH dm:Nat->a7}{X:ab}{v0:Value}
  (a_:jb w I T g1 fN) (hH:Hand w I (fO w T) fN cs us bH) (fB:∀ c,B c->(∃ t,Fs t c)/\(∀ t,¬ fN t c)/\(∀ k,k<cs.length->¬ bH k c)/\¬ I c)
  (gi:∀ c,lv fN cs.length bH c->(∃ t,Fs t c)\/H0 c) (c0:Hand w I (fO w T) Fs xs vs dm) (uR:∀ c,H0 c->(∀ t,¬ Fs t c)/\∀ k,k<xs.length->¬ dm k c)
  (f':GI w I T g1 cs cs' g2) (fL:GI w I T g2 xs xs' g')
  (build:∀ i':Nat->a7,(∀ (k:Nat) (x:ab) (u:Value),cs'[k]?=some x->us[k]?=some u->R w I (fO w T) x u (i' k))->(∀ (j k c:Nat),j<cs'.length->k<cs'.length->i' j c->i' k c->j=k) ->
   (∀ k c,k<cs'.length->i' k c->¬ B c)->R w I (fO w T) X v0 (λc=>B c\/∃ k,k<cs'.length/\i' k c)) :
  ∃ b5 i',jb w I T g' b5/\Hand w I (fO w T) b5 (X::xs') (v0::vs) i'/\∀ c,lv b5 (X::xs').length i' c->(∃ t,Fs t c)\/H0 c\/∃ k,k<xs.length/\dm k c:=by
 obtain ⟨j4,H1,hI,Eu,Bf⟩:=f' a_ hH;have YG:∀ k t c,k<xs.length->dm k c->¬ j4 t c:=by
  intro k t c hk aa aV;rcases gi c (Bf c (.inl ⟨t,aV⟩)) with ⟨t',h⟩ | h
  ·exact c0.off k t' c hk aa h
  ·exact (uR c h).2 k hk aa
 obtain ⟨we,Az,yV,U5,NI⟩:=fL hI (⟨c0.len,c0.rel,c0.ep,YG,c0.bf⟩:Hand w I (fO w T) j4 xs vs dm);have UQ:∀ k c,k<cs'.length->H1 k c->¬ B c:=by
  intro k c hk aa ao;obtain ⟨_,h1,af,_⟩:=fB c ao;rcases Bf c (.inr ⟨k,hk,aa⟩) with ⟨t,h⟩ | ⟨j,ag,h⟩
  ·exact h1 t h
  ·exact af j ag h
 have tt:=build H1 Eu.rel Eu.ep UQ
 -- the node's blocks: apart from all else
 have key:∀ c,(B c\/∃ k,k<cs'.length/\H1 k c)->(∀ t,¬ j4 t c)/\(∀ k,k<xs.length->¬ dm k c)/\¬ I c/\((∃ t,Fs t c)\/H0 c):=by
  rintro c (ao | ⟨k,hk,aa⟩)
  ·obtain ⟨⟨t0,aI⟩,h1,af,aF⟩:=fB c ao;refine ⟨λt aV=>?_,λk hk aa=>c0.off k t0 c hk aa aI,aF,.inl ⟨t0,aI⟩⟩;rcases Bf c (.inl ⟨t,aV⟩) with ⟨t',h⟩ | ⟨j,ag,h⟩
   ·exact h1 t' h
   ·exact af j ag h
  ·have av:=gi c (Bf c (.inr ⟨k,hk,aa⟩));refine ⟨λt aV=>Eu.off k t c hk aa aV,λj ag NN=>?_,Eu.bf k c hk aa,av⟩;rcases av with ⟨t,h⟩ | h
   ·exact c0.off j t c ag NN h
   ·exact (uR c h).2 j ag NN
 have fin:∀ c,(B c\/∃ k,k<cs'.length/\H1 k c)->(∀ t,¬ we t c)/\∀ k,k<xs'.length->¬ Az k c:=by
  intro c aa;obtain ⟨h1,af,_,_⟩:=key c aa;have none:¬ lv we xs'.length Az c:=by
   intro h;rcases NI c h with ⟨t,h⟩ | ⟨k,hk,h⟩
   ·exact h1 t h
   ·exact af k hk h
  exact ⟨λt h=>none (.inl ⟨t,h⟩),λk hk h=>none (.inr ⟨k,hk,h⟩)⟩
 refine ⟨we,_,yV,U5.cons tt (λk c hk aa=>(fin c aa).2 k hk) (λt c aa=>(fin c aa).1 t) (λc aa=>(key c aa).2.2.1),?_⟩;have back:∀ c,lv we xs'.length Az c->(∃ t,Fs t c)\/H0 c\/∃ k,k<xs.length/\dm k c:=by
  intro c h;rcases NI c h with ⟨t,h⟩ | h
  ·rcases gi c (Bf c (.inl ⟨t,h⟩)) with h | h
   ·exact .inl h
   ·exact .inr (.inl h)
  ·exact .inr (.inr h)
 rintro c (h | ⟨k,hk,aa⟩)
 ·exact back c (.inl h)
 ·cases k with
  | zero =>
   rcases (key c aa).2.2.2 with h | h
   ·exact .inl h
   ·exact .inr (.inl h)
  | succ k=>exact back c (.inr ⟨k,by simpa using hk,aa⟩)
end
end Go.Own
namespace Go.Own
open Go
set_option linter.unusedSectionVars false
variable [cw]
section
variable {w:World}{I:a7}{T:Array Value}
theorem jb.kill {g:aH}{Fs:Nat->a7}(h:jb w I T g Fs) (t:Nat):∃ b5,jb w I T (cp g ⟨t,[]⟩ .dead) b5/\(∀ c,¬ b5 t c)/\∀ s,s≠t->b5 s=Fs s:=by
 refine ⟨λs=>if s=t then cd else Fs s,⟨λs x J=>?_,λs av c=>?_,λs cY c aa dW=>?_,λs c aa=>?_,h.lt,h.g_⟩,λc=>by simp,λs av=>by simp [av]⟩
 ·by_cases bQ:s=t
  ·subst bQ;simp only [cp,if_pos] at J;cases aL:g s with
   | none=>rw [aL] at J; cases J
   | some y =>
    rw [aL] at J;have:x=.dead:=by simpa [ab.setAt] using J.symm
    subst this;obtain ⟨v,hv,_⟩:=h.rel s y aL;exact ⟨v,hv,.tree (.dead (by simp))⟩
  ·simp only [cp,if_neg bQ] at J; simpa [bQ] using h.rel s x J
 ·by_cases bQ:s=t
  ·simp [bQ]
  ·simp only [cp,if_neg bQ] at av; simpa [bQ] using h.kA s av c
 ·by_cases h1:s=t <;> by_cases af:cY=t <;> simp [h1,af,cd] at aa dW;exact h.ep _ _ _ aa dW
 ·by_cases h1:s=t <;> simp [h1,cd] at aa;exact h.bf _ _ aa
theorem R.uZ {ρ:ab->Value->Prop}{Fs:Nat->a7}{x:ab}{v:Value}{xs:List ab}{vs:List Value}{dm:Nat->a7}(h:Hand w I ρ Fs (x::xs) (v::vs) dm):∀ c,dm 0 c->(∀ t,¬ Fs t c)/\∀ k,k<xs.length->¬ dm (k+1) c:=by
 intro c aa;refine ⟨λt=>h.off 0 t c (by simp) aa,λk hk hS=>?_⟩;have:=h.ep 0 (k+1) c (by simp) (by simpa using hk) aa hS;omega
theorem lv.head {Fs:Nat->a7}{x:ab}{xs:List ab}{dm:Nat->a7}{c:Nat}(h:(∃ t,Fs t c)\/dm 0 c\/∃ k,k<xs.length/\dm (k+1) c):lv Fs (x::xs).length dm c:=by
 rcases h with h | h | ⟨k,hk,h⟩
 ·exact .inl h
 ·exact .inr ⟨0,by simp,h⟩
 ·exact .inr ⟨k+1,by simpa using hk,h⟩
theorem FZ {g:aH}{p:Place}{y:ab}{q:Place}(h:q.root≠p.root):bB (cp g p y) q=bB g q:=by
 grind [bB,cp]
theorem x0 {g:aH}{p:Place}{y:ab}{t:Nat}(h:t≠p.root):cp g p y t=g t:=by
 grind [cp]
theorem PB {a:Option Addr}{n cap ck ml:Nat}:(Value.slice a n cap).ownBlock=(Value.slice a ck ml).ownBlock:=by cases a <;> rfl
theorem YS {e:TypeId}{z n N:Nat}{a:Option Addr}{cap:Nat}{us:List Value}(h:w.ownsRow 0 e z (.slice a N cap) N us) (aA:n<=N):w.ownsRow 0 e z (.slice a n cap) n (us.take (n * z)):=by
 have hle:n * z<=N * z:=Nat.mul_le_mul_right _ aA;obtain ⟨hu,br⟩:=h;refine ⟨by rw [List.length_take,hu]; omega,?_⟩
 grind
theorem Take.sound {g g':aH}{xs xs':List ab}(h:Take g xs xs' g'):GI w I T g xs xs' g':=by
 induction h with
 | bh h=>exact λ{Fs vs dm} a_ hH=>⟨Fs,dm,a_,hH,λ_ h=>h⟩
 | @cons g g' x xs xs' J _ aJ =>
  intro Fs vs dm a_ hH;cases vs with
  | nil=>have:=hH.len; simp at this
  | cons v vs =>
   obtain ⟨b5,i',eL,U4,fv⟩:=aJ a_ hH.tail;have aI:=R.uZ hH;have off:∀ c,dm 0 c->¬ lv b5 xs'.length i' c:=by
    intro c aa ao;rcases fv c ao with ⟨t,h⟩ | ⟨k,hk,h⟩
    ·exact (aI c aa).1 t h
    ·exact (aI c aa).2 k hk h
   refine ⟨b5,_,eL,U4.cons (hH.rel 0 x v rfl rfl) (λk c hk aa h=>off c aa (.inr ⟨k,hk,h⟩)) (λt c aa h=>off c aa (.inl ⟨t,h⟩)) (λc aa=>hH.bf 0 c (by simp) aa),?_⟩;rintro c (h | ⟨k,hk,h⟩)
   ·rcases fv c (.inl h) with h | ⟨j,ag,h⟩
    ·exact .inl h
    ·exact .inr ⟨j+1,by simpa using ag,h⟩
   ·cases k with
    | zero=>exact .inr ⟨0,by simp,h⟩
    | succ k =>
     rcases fv c (.inr ⟨k,by simpa using hk,h⟩) with h | ⟨j,ag,h⟩
     ·exact .inl h
     ·exact .inr ⟨j+1,by simpa using ag,h⟩
 | @bo g g1 g' z n N p cs cs' xs xs' aw aA t1 _ f' fL =>
  intro Fs vs dm a_ hH;cases vs with
  | nil=>have:=hH.len; simp at this
  | cons v vs =>
   obtain ⟨qe,cD,gr,hc,dq,kB⟩:=a_.part aw (by simp);obtain ⟨a,j5,cap,h1,rfl,aF⟩:=(hH.rel 0 _ v rfl rfl).my;rw [h1] at gr;cases gr;obtain ⟨a2,rk,ir,_⟩:=hc.mC;cases ir;obtain ⟨fN,iP,iR,hr⟩:=kB .dead cd (.dead λ_ h=>h) (λ_ h=>h.elim) (λ_ h=>h.elim) (λ_ _ _ h=>h.elim) (λ_ h=>by cases h);have la:∀ t c,fN t c->Fs t c/\¬ cD c:=by
    intro t c aa;by_cases au:t=p.root
    ·subst au;rcases (iR c).1 aa with h | h
     ·exact h
     ·exact h.elim
    ·rw [hr t au] at aa;exact ⟨aa,λei=>au (a_.ep _ _ _ aa (dq c ei))⟩
   cases hc with
   | ref J=>simp [ab.isRef] at J
   | @own _ _ _ _ e us bH _ aM ah k' ak aP ao aE =>
    have EW:∀ k,k<(cs.take (n * z)).length->k<cs.length:=λk hk=>by rw [List.length_take] at hk; omega
    have eD:∀ k c,k<(cs.take (n * z)).length->bH k c->cD c:=λk c hk aa=>(aE c).2 (.inr ⟨k,EW k hk,aa⟩);have js:Hand w I (fO w T) fN (cs.take (n * z)) (us.take (n * z)) bH:=by
     refine ⟨by simp [ah],λk x u J hu=>?_,λj k c ag hk=>aP j k c (EW j ag) (EW k hk),λk t c hk aa aV=>(la t c aV).2 (eD k c hk aa),λk c hk aa=>a_.bf _ c (dq c (eD k c hk aa))⟩;rw [List.getElem?_take] at J hu
     split at J
     ·rename_i di; rw [if_pos di] at hu; exact ak k x u J hu
     ·cases J
    have jw:=YS aM aA;obtain ⟨b5,i',ax,a2,a3⟩:=Take.node (g1:=cp g p .dead) (Fs:=Fs) (B:=λc=>(Value.slice a n cap).ownBlock=some c) (H0:=dm 0) (X:=.own z n cs') (v0:=.slice a n cap) iP js
     (λc aa=>by
      have ei:cD c:=(aE c).2 (.inl (by rw [<- aa]; exact PB));exact ⟨⟨_,dq c ei⟩,λt aV=>(la t c aV).2 ei,λk hk hS=>ao k c (EW k hk) hS (by rw [<- aa]; exact PB),a_.bf _ c (dq c ei)⟩)
     (λc aa=>by
      rcases aa with ⟨t,h⟩ | ⟨k,hk,h⟩
      ·exact .inl ⟨t,(la t c h).1⟩
      ·exact .inl ⟨_,dq c (eD k c hk h)⟩)
     hH.tail (R.uZ hH) f' fL (λyo fF fQ je=>by
      refine .own jw (by rw [t1.length]; simp [ah]) (λk u hu=>?_) fF fQ (λk c hk aa h=>je k c hk aa h) λc=>Iff.rfl;rw [List.getElem?_take] at hu
      split at hu
      ·exact k' k u hu
      ·cases hu)
    exact ⟨b5,i',ax,a2,λc aa=>lv.head (a3 c aa)⟩
 | @bD g g1 g' z n m t q cs new cs' xs xs' au aw ba t1 _ f' fL =>
  intro Fs vs dm a_ hH;cases vs with
  | nil=>have:=hH.len; simp at this
  | cons v vs =>
   obtain ⟨a,j5,cap,h1,rfl,aF⟩:=(hH.rel 0 _ v rfl rfl).my;obtain ⟨v0,iS,fc⟩:=a_.rel t _ au;simp only [dL,iS,walk,Option.some.injEq] at h1;subst h1;obtain ⟨bv,e,cu,us,news,fc⟩:=fc.vl;have bc:j5=n+m:=by
    obtain ⟨_,br⟩:=fc.nb;rcases br with ⟨br,aI⟩ | ⟨_,_,_,br,_⟩
    ·cases br; omega
    ·cases br; rfl
   subst bc;obtain ⟨Rp,Im,eX,fK⟩:=a_.kill t;have I_:bB (cp g ⟨t,[]⟩ .dead) q=some (.own z n cs):=by rw [FZ (by simpa using ba)]; exact aw
   obtain ⟨qe,cD,gr,hc,dq,kB⟩:=Im.part I_ (by simp);obtain ⟨cb,ml,bk,rfl⟩:=fc.ka;rw [bk] at gr;cases gr;obtain ⟨fN,iP,iR,hr⟩:=kB .dead cd (.dead λ_ h=>h) (λ_ h=>h.elim) (λ_ h=>h.elim) (λ_ _ _ h=>h.elim) (λ_ h=>by cases h);have pI:∀ c,cD c->Fs q.root c:=λc aa=>by have:=dq c aa; rwa [fK _ ba] at this
   have la:∀ s c,fN s c->Fs s c/\¬ cD c/\s≠t:=by
    intro s c aa;have bQ:s≠t:=by
     rintro rfl;by_cases u9:s=q.root
     ·exact ba u9.symm
     ·rw [hr s u9] at aa; exact eX c aa
    by_cases av:s=q.root
    ·subst av;rcases (iR c).1 aa with h | h
     ·exact ⟨by have:=h.1; rwa [fK _ ba] at this,h.2,bQ⟩
     ·exact h.elim
    ·rw [hr s av,fK s bQ] at aa;exact ⟨aa,λei=>av (a_.ep _ _ _ aa (pI c ei)),bQ⟩
   cases hc with
   | ref J=>simp [ab.isRef] at J
   | @own _ _ _ _ b0 ie bH _ aM ah k' ak aP ao aE =>
    have:=Kv aM fc.iq;subst this;have eD:∀ k c,k<cs.length->bH k c->cD c:=λk c hk aa=>(aE c).2 (.inr ⟨k,hk,aa⟩);have js:Hand w I (fO w T) fN (cs++new) (ie++news) (λk=>if k<cs.length then bH k else cd):=by
     refine ⟨by simp [ah,fc.ah],λk x u J hu=>?_,λj k c ag hk aa dW=>?_,λk s c hk aa aV=>?_,λk c hk aa=>?_⟩
     ·by_cases di:k<cs.length
      ·rw [List.getElem?_append_left di] at J;rw [List.getElem?_append_left (by omega)] at hu;simpa [di] using ak k x u J hu
      ·rw [List.getElem?_append_right (by omega)] at J;rw [List.getElem?_append_right (by omega),<- ah] at hu;simpa [di] using fc.ak _ x u J hu
     ·by_cases eV:j<cs.length <;> by_cases di:k<cs.length <;> simp [eV,di,cd] at aa dW;exact aP j k c eV di aa dW
     ·by_cases di:k<cs.length <;> simp [di,cd] at aa;exact (la s c aV).2.1 (eD k c di aa)
     ·by_cases di:k<cs.length <;> simp [di,cd] at aa;exact a_.bf _ c (pI c (eD k c di aa))
    obtain ⟨b5,i',ax,a2,a3⟩:=Take.node (g1:=cp (cp g ⟨t,[]⟩ .dead) q .dead) (Fs:=Fs) (B:=λc=>(Value.slice a (n+m) cap).ownBlock=some c) (H0:=dm 0) (X:=.own z (n+m) cs') (v0:=.slice a (n+m) cap) iP js
     (λc aa=>by
      by_cases ru:(Value.slice cb n ml).ownBlock=some c
      ·have ei:cD c:=(aE c).2 (.inl ru);refine ⟨⟨_,pI c ei⟩,λs aV=>(la s c aV).2.1 ei,λk hk hS=>?_,a_.bf _ c (pI c ei)⟩;by_cases di:k<cs.length <;> simp [di,cd] at hS;exact ao k c di hS ru
      ·have EX:Fs t c:=(fc.aE c).2 ⟨aa,ru⟩;refine ⟨⟨_,EX⟩,λs aV=>(la s c aV).2.2 (a_.ep _ _ _ (la s c aV).1 EX),λk hk hS=>?_,a_.bf _ c EX⟩;by_cases di:k<cs.length <;> simp [di,cd] at hS;exact ba (a_.ep _ _ _ (pI c (eD k c di hS)) EX))
     (λc aa=>by
      rcases aa with ⟨s,h⟩ | ⟨k,hk,h⟩
      ·exact .inl ⟨s,(la s c h).1⟩
      ·by_cases di:k<cs.length <;> simp [di,cd] at h;exact .inl ⟨_,pI c (eD k c di h)⟩)
     hH.tail (R.uZ hH) f' fL (λyo fF fQ je=>by
      refine .own fc.nb (by rw [t1.length]; simp [ah,fc.ah]) (λk u hu=>?_) fF fQ (λk c hk aa h=>je k c hk aa h) λc=>Iff.rfl;by_cases di:k<ie.length
      ·rw [List.getElem?_append_left di] at hu; exact k' k u hu
      ·rw [List.getElem?_append_right (by omega)] at hu; exact fc.h1 _ u hu)
    exact ⟨b5,i',ax,a2,λc aa=>lv.head (a3 c aa)⟩
 | @zz g g1 g' z n m t lL m2 t2 q cs new zv cs' xs xs' au Oj aA aw ba qI Ji t1 _ f' fL =>
  subst aA;intro Fs vs dm a_ hH;cases vs with
  | nil=>have:=hH.len; simp at this
  | cons v vs =>
   obtain ⟨a,j5,cap,h1,rfl,aF⟩:=(hH.rel 0 _ v rfl rfl).my;obtain ⟨v0,iS,fc⟩:=a_.rel t _ au;simp only [dL,iS,walk,Option.some.injEq] at h1;subst h1;obtain ⟨bv,e,cu,us,news,fc⟩:=fc.vl;have bc:j5=lL+m2+m:=by
    obtain ⟨_,br⟩:=fc.nb;rcases br with ⟨br,aI⟩ | ⟨_,_,_,br,_⟩
    ·cases br; omega
    ·cases br; rfl
   subst bc;obtain ⟨v2,sC,mX⟩:=a_.rel t2 _ Oj;obtain ⟨Mr,b0,th,aaz,Kl,mX⟩:=mX.vl;have ka:bv=v2:=by
    obtain ⟨ax,MB,b2,rfl⟩:=fc.ka;simp only [dL,sC,walk,Option.some.injEq] at b2;exact b2.symm
   subst ka;have iu:us=aaz++Kl:=Kv fc.iq mX.nb;subst iu;obtain ⟨abc,Vp,Wt,IU⟩:=a_.kill t;obtain ⟨Rp,Im,eX,fK⟩:=Vp.kill t2;have I_:bB (cp (cp g ⟨t,[]⟩ .dead) ⟨t2,[]⟩ .dead) q=some (.own z lL cs):=by rw [FZ (by simpa using qI),FZ (by simpa using ba)]; exact aw
   obtain ⟨qe,cD,gr,hc,dq,kB⟩:=Im.part I_ (by simp);obtain ⟨cb,ml,bk,rfl⟩:=mX.ka;rw [bk] at gr;cases gr;obtain ⟨fN,iP,iR,hr⟩:=kB .dead cd (.dead λ_ h=>h) (λ_ h=>h.elim) (λ_ h=>h.elim) (λ_ _ _ h=>h.elim) (λ_ h=>by cases h);have pI:∀ c,cD c->Fs q.root c:=λc aa=>by have:=dq c aa; rwa [fK _ qI,IU _ ba] at this
   have la:∀ s c,fN s c->Fs s c/\¬ cD c/\s≠t/\s≠t2:=by
    intro s c aa;have ob:s≠t2:=by
     rintro rfl;by_cases u9:s=q.root
     ·exact qI u9.symm
     ·rw [hr s u9] at aa; exact eX c aa
    have bQ:s≠t:=by
     rintro rfl;by_cases u9:s=q.root
     ·exact ba u9.symm
     ·rw [hr s u9,fK s ob] at aa; exact Wt c aa
    by_cases av:s=q.root
    ·subst av;rcases (iR c).1 aa with h | h
     ·exact ⟨by have:=h.1; rwa [fK _ qI,IU _ ba] at this,h.2,bQ,ob⟩
     ·exact h.elim
    ·rw [hr s av,fK s ob,IU s bQ] at aa;exact ⟨aa,λei=>av (a_.ep _ _ _ aa (pI c ei)),bQ,ob⟩
   cases hc with
   | ref J=>simp [ab.isRef] at J
   | @own _ _ _ _ eP ie bH _ aM ah k' ak aP ao aE =>
    have:=Kv aM mX.iq;subst this;have eD:∀ k c,k<cs.length->bH k c->cD c:=λk c hk aa=>(aE c).2 (.inr ⟨k,hk,aa⟩);have js:Hand w I (fO w T) fN (cs++zv++new) (ie++Kl++news) (λk=>if k<cs.length then bH k else cd):=by
     have hx:=mX.ah;have Cg:=fc.ah;refine ⟨by simp [ah,hx,Cg],λk x u J hu=>?_,λj k c ag hk aa dW=>?_,λk s c hk aa aV=>?_,λk c hk aa=>?_⟩
     ·rw [List.append_assoc] at J hu;by_cases di:k<cs.length
      ·rw [List.getElem?_append_left di] at J;rw [List.getElem?_append_left (by omega)] at hu;simpa [di] using ak k x u J hu
      ·rw [List.getElem?_append_right (by omega)] at J;rw [List.getElem?_append_right (by omega),<- ah] at hu;simp only [di,if_false];by_cases IX:k - cs.length<zv.length
       ·rw [List.getElem?_append_left IX] at J;rw [List.getElem?_append_left (by omega)] at hu;exact mX.ak _ x u J hu
       ·rw [List.getElem?_append_right (by omega)] at J;rw [List.getElem?_append_right (by omega),<- hx] at hu;exact fc.ak _ x u J hu
     ·by_cases eV:j<cs.length <;> by_cases di:k<cs.length <;> simp [eV,di,cd] at aa dW;exact aP j k c eV di aa dW
     ·by_cases di:k<cs.length <;> simp [di,cd] at aa;exact (la s c aV).2.1 (eD k c di aa)
     ·by_cases di:k<cs.length <;> simp [di,cd] at aa;exact a_.bf _ c (pI c (eD k c di aa))
    have Qv:∀ s c,Fs s c->s=t\/s=t2->(∃ s,Fs s c)/\(∀ s,¬ fN s c)/\(∀ k,k<(cs++zv++new).length->¬ (if k<cs.length then bH k else cd) c)/\¬ I c:=by
     intro s c aa av;refine ⟨⟨_,aa⟩,λcY aV=>?_,λk hk hS=>?_,a_.bf _ c aa⟩
     ·obtain ⟨f1,_,f2,f3⟩:=la cY c aV;have:=a_.ep _ _ _ f1 aa;rcases av with rfl | rfl
      ·exact f2 this
      ·exact f3 this
     ·by_cases di:k<cs.length <;> simp [di,cd] at hS;have:=a_.ep _ _ _ (pI c (eD k c di hS)) aa;rcases av with rfl | rfl
      ·exact ba this
      ·exact qI this
    obtain ⟨b5,i',ax,a2,a3⟩:=Take.node (g1:=cp (cp (cp g ⟨t,[]⟩ .dead) ⟨t2,[]⟩ .dead) q .dead) (Fs:=Fs) (B:=λc=>(Value.slice a (lL+m2+m) cap).ownBlock=some c) (H0:=dm 0) (X:=.own z (lL+m2+m) cs') (v0:=.slice a (lL+m2+m) cap) iP js
     (λc aa=>by
      by_cases ru:bv.ownBlock=some c
      ·by_cases Ix:(Value.slice cb lL ml).ownBlock=some c
       ·have ei:cD c:=(aE c).2 (.inl Ix);refine ⟨⟨_,pI c ei⟩,λs aV=>(la s c aV).2.1 ei,λk hk hS=>?_,a_.bf _ c (pI c ei)⟩;by_cases di:k<cs.length <;> simp [di,cd] at hS;exact ao k c di hS Ix
       ·exact Qv t2 c ((mX.aE c).2 ⟨ru,Ix⟩) (.inr rfl)
      ·exact Qv t c ((fc.aE c).2 ⟨aa,ru⟩) (.inl rfl))
     (λc aa=>by
      rcases aa with ⟨s,h⟩ | ⟨k,hk,h⟩
      ·exact .inl ⟨s,(la s c h).1⟩
      ·by_cases di:k<cs.length <;> simp [di,cd] at h;exact .inl ⟨_,pI c (eD k c di h)⟩)
     hH.tail (R.uZ hH) f' fL (λyo fF fQ je=>by
      refine .own fc.nb (by rw [t1.length]; simp [ah,mX.ah,fc.ah]) (λk u hu=>?_) fF fQ (λk c hk aa h=>je k c hk aa h) λc=>Iff.rfl;rw [List.append_assoc] at hu;by_cases di:k<ie.length
      ·rw [List.getElem?_append_left di] at hu; exact k' k u hu
      ·rw [List.getElem?_append_right (by omega)] at hu;by_cases IX:k - ie.length<Kl.length
       ·rw [List.getElem?_append_left IX] at hu; exact mX.h1 _ u hu
       ·rw [List.getElem?_append_right (by omega)] at hu; exact fc.h1 _ u hu)
    exact ⟨b5,i',ax,a2,λc aa=>lv.head (a3 c aa)⟩
 | @obj g g1 g' p cs cs' xs xs' aw t1 _ f' fL =>
  intro Fs vs dm a_ hH;cases vs with
  | nil=>have:=hH.len; simp at this
  | cons v vs =>
   obtain ⟨qe,cD,gr,hc,dq,kB⟩:=a_.part aw (by simp);obtain ⟨u,ad,h1,af,rfl⟩:=(hH.rel 0 _ v rfl rfl).mz;rw [h1] at gr;cases gr;obtain ⟨fN,iP,iR,hr⟩:=kB .dead cd (.dead λ_ h=>h) (λ_ h=>h.elim) (λ_ h=>h.elim) (λ_ _ _ h=>h.elim) (λ_ h=>by cases h);have la:∀ t c,fN t c->Fs t c/\¬ cD c:=by
    intro t c aa;by_cases au:t=p.root
    ·subst au;rcases (iR c).1 aa with h | h
     ·exact h
     ·exact h.elim
    ·rw [hr t au] at aa;exact ⟨aa,λei=>au (a_.ep _ _ _ aa (dq c ei))⟩
   cases hc with
   | ref J=>simp [ab.isRef] at J
   | @obj _ b e arr bH _ aM ah k' ak aP ao aE av =>
    simp only [addrOf,Option.some.injEq] at af;subst af;have eD:∀ k c,k<cs.length->bH k c->cD c:=λk c hk aa=>(aE c).2 (.inr ⟨k,hk,aa⟩);have js:Hand w I (fO w T) fN cs arr.toList bH :=
     ⟨by simp [ah],λk x u J hu=>ak k x u J (by simpa using hu),aP,λk t c hk aa aV=>(la t c aV).2 (eD k c hk aa),λk c hk aa=>a_.bf _ c (dq c (eD k c hk aa))⟩
    obtain ⟨b5,i',ax,a2,a3⟩:=Take.node (g1:=cp g p .dead) (Fs:=Fs) (B:=λc=>c=b) (H0:=dm 0) (X:=.obj cs') (v0:=.pointer (some ⟨b,0,none⟩)) iP js
     (λc aa=>by
      subst aa;have ei:cD c:=(aE c).2 (.inl rfl);exact ⟨⟨_,dq c ei⟩,λt aV=>(la t c aV).2 ei,λk hk hS=>ao k hk hS,a_.bf _ c (dq c ei)⟩)
     (λc aa=>by
      rcases aa with ⟨t,h⟩ | ⟨k,hk,h⟩
      ·exact .inl ⟨t,(la t c h).1⟩
      ·exact .inl ⟨_,dq c (eD k c hk h)⟩)
     hH.tail (R.uZ hH) f' fL (λyo fF fQ je=>by
      refine .obj aM (by rw [t1.length,ah]) k' (λk x u J hu=>fF k x u J (by simpa using hu)) fQ (λk hk h=>je k b hk h rfl) (λc=>Iff.rfl) λk j u hk=>av k j u (t1.self k j hk))
    exact ⟨b5,i',ax,a2,λc aa=>lv.head (a3 c aa)⟩
 | @mp g g1 g' p q xs xs' aw t1 _ f' fL =>
  intro Fs vs dm a_ hH;cases vs with
  | nil=>have:=hH.len; simp at this
  | cons v vs =>
   obtain ⟨qe,cD,gr,hc,dq,kB⟩:=a_.part aw (by simp);have hm:=hH.rel 0 _ v rfl rfl;cases hm with
   | ref _ hm _ =>
   obtain ⟨GZ,h1,rfl⟩:=hm;rw [h1] at gr;cases gr;obtain ⟨fN,iP,iR,hr⟩:=kB .dead cd (.dead λ_ h=>h) (λ_ h=>h.elim) (λ_ h=>h.elim) (λ_ _ _ h=>h.elim) (λ_ h=>by cases h);have la:∀ t c,fN t c->Fs t c/\¬ cD c:=by
    intro t c aa;by_cases au:t=p.root
    ·subst au;rcases (iR c).1 aa with h | h
     ·exact h
     ·exact h.elim
    ·rw [hr t au] at aa;exact ⟨aa,λei=>au (a_.ep _ _ _ aa (dq c ei))⟩
   cases hc with
   | ref J=>simp [ab.isRef] at J
   | @mp _ b es clock _ aM ba aE =>
    have js:Hand w I (fO w T) fN [] [] (λ_=>cd) :=
     ⟨rfl,λk x u J=>by simp at J,λ_ _ _ _ _ h=>h.elim,λ_ _ _ _ h=>h.elim,λ_ _ _ h=>h.elim⟩
    obtain ⟨b5,i',ax,a2,a3⟩:=Take.node (g1:=cp g p .dead) (Fs:=Fs) (B:=λc=>c=b) (H0:=dm 0) (X:=.mp q) (v0:=.map (some b)) iP js
     (λc aa=>by
      subst aa;have ei:cD c:=(aE c).2 rfl;exact ⟨⟨_,dq c ei⟩,λt aV=>(la t c aV).2 ei,λk hk _=>by simp at hk,a_.bf _ c (dq c ei)⟩)
     (λc aa=>by
      rcases aa with ⟨t,h⟩ | ⟨k,hk,h⟩
      ·exact .inl ⟨t,(la t c h).1⟩
      ·exact h.elim)
     hH.tail (R.uZ hH) f' fL (λyo fF fQ je=>by
      refine .mp aM ba λc=>⟨λh=>h.elim id λ⟨_,hk,_⟩=>by simp at hk,.inl⟩)
    exact ⟨b5,i',ax,a2,λc aa=>lv.head (a3 c aa)⟩
 | @agg g g1 g' cs cs' xs xs' t1 _ f' fL =>
  intro Fs vs dm a_ hH;cases vs with
  | nil=>have:=hH.len; simp at this
  | cons v vs =>
   have J:=hH.rel 0 _ v rfl rfl;have aI:=R.uZ hH;cases J with
   | ref J=>simp [ab.isRef] at J
   | @agg _ us bH _ ah k' ak aP aE =>
    have eD:∀ k c,k<cs.length->bH k c->dm 0 c:=λk c hk aa=>(aE c).2 ⟨k,hk,aa⟩;obtain ⟨b5,i',ax,a2,a3⟩:=Take.node (g1:=g) (Fs:=Fs) (B:=cd) (H0:=dm 0) (X:=.agg cs') (v0:=.agg us) a_
     (⟨by simp [ah],λk x u J hu=>ak k x u J (by simpa using hu),aP,λk t c hk aa=>(aI c (eD k c hk aa)).1 t,λk c hk aa=>hH.bf 0 c (by simp) (eD k c hk aa)⟩:Hand w I (fO w T) Fs cs us.toList bH)
     (λc aa=>aa.elim)
     (λc aa=>by
      rcases aa with h | ⟨k,hk,h⟩
      ·exact .inl h
      ·exact .inr (eD k c hk h))
     hH.tail aI f' fL (λyo fF fQ je=>by
      refine .agg (by rw [t1.length,ah]) k' (λk x u J hu=>fF k x u J (by simpa using hu)) fQ λc=>⟨λh=>h.elim (λh=>h.elim) id,.inr⟩)
    exact ⟨b5,i',ax,a2,λc aa=>lv.head (a3 c aa)⟩
 | @bI g g1 g' cs cs' xs xs' t1 _ f' fL =>
  intro Fs vs dm a_ hH;cases vs with
  | nil=>have:=hH.len; simp at this
  | cons v vs =>
   have J:=hH.rel 0 _ v rfl rfl;have aI:=R.uZ hH;cases J with
   | ref J=>simp [ab.isRef] at J
   | @bI _ us bH _ ah ak aP aE =>
    have eD:∀ k c,k<cs.length->bH k c->dm 0 c:=λk c hk aa=>(aE c).2 ⟨k,hk,aa⟩;obtain ⟨b5,i',ax,a2,a3⟩:=Take.node (g1:=g) (Fs:=Fs) (B:=cd) (H0:=dm 0) (X:=.bI cs') (v0:=.tuple us) a_
     (⟨by simp [ah],λk x u J hu=>ak k x u J (by simpa using hu),aP,λk t c hk aa=>(aI c (eD k c hk aa)).1 t,λk c hk aa=>hH.bf 0 c (by simp) (eD k c hk aa)⟩:Hand w I (fO w T) Fs cs us.toList bH)
     (λc aa=>aa.elim)
     (λc aa=>by
      rcases aa with h | ⟨k,hk,h⟩
      ·exact .inl h
      ·exact .inr (eD k c hk h))
     hH.tail aI f' fL (λyo fF fQ je=>by
      refine .bI (by rw [t1.length,ah]) (λk x u J hu=>fF k x u J (by simpa using hu)) fQ λc=>⟨λh=>h.elim (λh=>h.elim) id,.inr⟩)
    exact ⟨b5,i',ax,a2,λc aa=>lv.head (a3 c aa)⟩
end
end Go.Own
namespace Go.Own
open Go
set_option linter.unusedSectionVars false
variable [cw]
inductive j7 (me:ab->Prop):ab->Prop
 | bh {x:ab}(h:cK x):j7 me x
 | ref {x:ab}(J:x.isRef=true) (h:me x):j7 me x
 | own {z n:Nat}{cs:List ab}(h:∀ x∈cs,j7 me x):j7 me (.own z n cs)
 | obj {cs:List ab}(h:∀ x∈cs,j7 me x):j7 me (.obj cs)
 | agg {cs:List ab}(h:∀ x∈cs,j7 me x):j7 me (.agg cs)
 | bI {cs:List ab}(h:∀ x∈cs,j7 me x):j7 me (.bI cs)
 | dc {fn:Fn}{a b:List ab}(h1:∀ x∈a,j7 me x) (af:∀ x∈b,j7 me x):j7 me (.dc fn a b)
def z8:ab->Option Place
 | .ptr p _=>some p
 | .bo _ p _=>some p
 | .sub _ p _ _=>some p
 | .bD _ p _ _ _=>some p
 | .gY p=>some p
 | _=>none
def Clear (p:Place) (k m:Nat) (r:ab):Prop:=∀ q,z8 r=some q->q.root=p.root->∀ j dr,q.path=p.path++j::dr->j<k\/k+m<=j
def ew {α:Type}(l:List α) (k:Nat) (c:List α):List α:=l.take k++c++l.drop (k+c.length)
theorem q3 {α:Type}{l:List α}{k:Nat}{c:List α}(h:k+c.length<=l.length):(ew l k c).length=l.length:=by
 simp [ew]; omega
theorem q2 {α:Type}{l:List α}{k:Nat}{c:List α}(h:k+c.length<=l.length) (j:Nat):(ew l k c)[j]?=if k<=j/\j<k+c.length then c[j - k]? else l[j]?:=by
 unfold ew;rw [List.append_assoc];by_cases h1:j<k
 ·rw [List.getElem?_append_left (by simp; omega),List.getElem?_take,if_pos h1,if_neg (by omega)]
 ·rw [List.getElem?_append_right (by simp; omega)];have:(l.take k).length=k:=by simp; omega
  rw [this];by_cases af:j<k+c.length
  ·rw [List.getElem?_append_left (by omega),if_pos ⟨by omega,af⟩]
  ·rw [List.getElem?_append_right (by omega),List.getElem?_drop,if_neg (by omega)];congr 1; omega
theorem Z1 {α:Type}{l:List α}{k:Nat}{c:List α}{m:Nat}(h:k+c.length<=m) (hm:m<=l.length):(ew l k c).take m=ew (l.take m) k c:=by
 have h1:k+c.length<=(l.take m).length:=by rw [List.length_take]; omega
 apply List.ext_getElem?;intro j;rw [List.getElem?_take,q2 h1,q2 (l:=l) (by omega),List.getElem?_take];by_cases ag:j<m
 ·rw [if_pos ag,if_pos ag]
 ·rw [if_neg ag,if_neg ag,if_neg (by omega)]
def ab.ew (x:ab) (k:Nat) (c:List ab):ab :=
 match x with
 | .own z n cs=>.own z n (Own.ew cs k c)
 | .obj cs=>.obj (Own.ew cs k c)
 | x=>x
section
variable {w:World}{I:a7}{T:Array Value}{g:aH}{Fs:Nat->a7}
theorem R.C6 {ρ:ab->Value->Prop}{me:ab->Prop}{x:ab}{v:Value}{F:a7}(h:R w I ρ x v F):j7 me x->R w I (λr u=>ρ r u/\me r) x v F:=by
 induction h with
 | lit h aE=>exact λ_=>.lit h aE
 | bb aE=>exact λ_=>.bb aE
 | dead aE=>exact λ_=>.dead aE
 | j0 aE=>exact λ_=>.j0 aE
 | @ref x _ _ J h aE =>
  intro hk;refine .ref J ⟨h,?_⟩ aE;cases hk with
  | ref _ h=>exact h
  | bh h=>cases h <;> simp [ab.isRef] at J
  | _=>simp [ab.isRef] at J
 | hd aE=>exact λ_=>.hd aE
 | mp aM aw aE=>exact λ_=>.mp aM aw aE
 | dt aM h1 aE=>exact λ_=>.dt aM h1 aE
 | imp aE a' aM aw=>exact λ_=>.imp aE a' aM aw
 | bf aE kx a' av ah h1 aa ak aJ =>
  intro hk;cases hk with
  | ref J=>simp [ab.isRef] at J
  | bh h=>cases h with | bf h=>exact .bf aE kx a' av ah h1 aa λk x J=>aJ k x J (.bh (h x (List.mem_of_getElem? J)))
 | cL aE a' av h1 aa ak aJ =>
  intro hk;cases hk with
  | ref J=>simp [ab.isRef] at J
  | bh h=>cases h with | cL h=>exact .cL aE a' av h1 aa λk x J=>aJ k x J (.bh (h x (List.mem_of_getElem? J)))
 | own aM ah h1 ak aP ao aE aJ =>
  intro hk;refine .own aM ah h1 (λk x u J hu=>aJ k x u J hu ?_) aP ao aE;cases hk with
  | ref J=>simp [ab.isRef] at J
  | bh h=>cases h with | own h=>exact .bh (h x (List.mem_of_getElem? J))
  | own h=>exact h x (List.mem_of_getElem? J)
 | obj aM ah h1 ak aP ao aE av aJ =>
  intro hk;refine .obj aM ah h1 (λk x u J hu=>aJ k x u J hu ?_) aP ao aE av;cases hk with
  | ref J=>simp [ab.isRef] at J
  | bh h=>cases h with | obj h=>exact .bh (h x (List.mem_of_getElem? J))
  | obj h=>exact h x (List.mem_of_getElem? J)
 | agg ah h1 ak aP aE aJ =>
  intro hk;refine .agg ah h1 (λk x u J hu=>aJ k x u J hu ?_) aP aE;cases hk with
  | ref J=>simp [ab.isRef] at J
  | bh h=>cases h with | agg h=>exact .bh (h x (List.mem_of_getElem? J))
  | agg h=>exact h x (List.mem_of_getElem? J)
 | bI ah ak aP aE aJ =>
  intro hk;refine .bI ah (λk x u J hu=>aJ k x u J hu ?_) aP aE;cases hk with
  | ref J=>simp [ab.isRef] at J
  | bh h=>cases h with | bI h=>exact .bh (h x (List.mem_of_getElem? J))
  | bI h=>exact h x (List.mem_of_getElem? J)
 | @dc fn first caps v1 v2 F aE h1 af iR hr f' fL =>
  intro hk;have:(∀ x∈first,j7 me x)/\∀ x∈caps,j7 me x:=by
   cases hk with
   | ref J=>simp [ab.isRef] at J
   | bh h=>cases h with | dc h1 af=>exact ⟨λx J=>.bh (h1 x J),λx J=>.bh (af x J)⟩
   | dc h1 af=>exact ⟨h1,af⟩
  exact .dc aE h1 af (λk x u J hu=>f' k x u J hu (this.1 x (List.mem_of_getElem? J))) (λk x u J hu=>fL k x u J hu (this.2 x (List.mem_of_getElem? J)))
theorem jb.store (a_:jb w I T g Fs) {p:Place}{nd:ab}{z n:Nat}{cs:List ab}(aw:bB g p=some nd) (e7:nd=.own z n cs\/nd=.obj cs) {k:Nat}{cs':List ab}(hk:k+cs'.length<=cs.length)
  {ie:List Value}{dm:Nat->a7}(hH:Hand w I (fO w T) Fs cs' ie dm) (mr:∀ x∈cs',cK x) (lH:nd=.obj cs->uz cs') (fw:∀ (j:Nat) (u:Value),ie[j]?=some u->u.oneCell'=true)
  {g2:aH}(BA:∀ t x,g2 t=some x->cp g p (nd.ew k cs') t=some x)
  (BR:∀ t x,g2 t=some x->∀ y,g t=some y->j7 (λr=>gF g r/\Clear p k cs'.length r/\gF g2 r) y) (lG:∀ t z q n m new,g2 t≠some (.bD z q n m new)) (mv:g2 p.root≠none) {b:Nat}{v:Value}
  (hv:dL w T p=some v) (ao:addrOf v=some ⟨b,0,none⟩) {e:TypeId}{arr:Array Value}(ku:w.heap[b]?=some (.cells arr e (0,0))) :
  ∃ b5,cG (w.setRow b (ew arr.toList k ie).toArray) I T g2 b5/\∀ t c,b5 t c->Fs t c\/∃ j,j<cs'.length/\dm j c:=by
 have kX:∀ z q n m new,nd≠.bD z q n m new:=by rcases e7 with rfl | rfl <;> simp
 have hlen:=hH.len;have r0:∀ c,c≠b->(w.setRow b (ew arr.toList k ie).toArray).heap[c]?=w.heap[c]?:=λc aa=>setRow_other w b c _ aa;have La:(w.setRow b (ew arr.toList k ie).toArray).heap[b]?=some (.cells (ew arr.toList k ie).toArray e (0,0)):=setRow_heap w b arr _ e (0,0) ku;have aeA:(w.setRow b (ew arr.toList k ie).toArray).heap.size=w.heap.size:=by simp
 generalize xa:w.setRow b (ew arr.toList k ie).toArray=w' at *
 -- the slot of the node
 obtain ⟨dR,iw⟩:∃ dR,g p.root=some dR:=by
  unfold bB at aw;cases J:g p.root with
  | none=>rw [J] at aw; cases aw
  | some x=>exact ⟨x,rfl⟩
 have rr:dR.at p.path=some nd:=by simpa [bB,iw] using aw
 obtain ⟨v0,iS,fc⟩:=a_.rel _ _ iw;have Ia:=fc.fW (by rintro z q n m new rfl; exact kX _ _ _ _ _ (ab.ta rr).2);have ky:j7 (λr=>gF g r/\Clear p k cs'.length r/\gF g2 r) dR:=by
  cases af:g2 p.root with
  | none=>exact absurd af mv
  | some y=>exact BR _ _ af _ iw
 let Ls:ab->Value->Prop:=λr u=>fO w T r u/\gF g r/\Clear p k cs'.length r/\gF g2 r;have rq:R w I Ls dR v0 (Fs p.root):=Ia.C6 ky;obtain ⟨hV,cD,hw,dv,dq,eS,kB⟩:=R.focus p.path rq rr;have Xi:hV=v:=by simp only [dL,iS,hw,Option.some.injEq] at hv; exact hv
 subst Xi;have n5:cD b:=dv.Fv (z:=z) (n:=n) e7 ao;have same:∀ t c,Fs t c->c≠b->w'.heap[c]?=w.heap[c]?:=λ_ c _ aa=>r0 c aa;have yU:∀ c,I c->w'.heap[c]?=w.heap[c]?:=λc aa=>r0 c λe=>a_.bf _ b (dq b n5) (e ▸ aa);have N':∀ t,t≠p.root->¬ Fs t b:=λt au h=>au (a_.ep _ _ _ h (dq b n5))
 -- ways that are clear of the cells
 obtain ⟨aaP,aaQ⟩:=eS w' λc aa aA=>r0 c λe=>aA (e ▸ n5);have OV:∀ (ρ':ab->Value->Prop),(∀ x v,Ls x v->ρ' x v)->(∃ cW,R w' I ρ' (nd.ew k cs') hV cW/\∀ c,cW c->cD c\/∃ j,j<cs'.length/\dm j c)/\∀ j dr y,(j<k\/k+cs'.length<=j)->nd.at (j::dr)=some y->walk w' hV (j::dr)=walk w hV (j::dr):=by
  intro ρ' lg;have new:∀ (j:Nat) (x:ab) (u:Value),cs'[j]?=some x->ie[j]?=some u->R w' I ρ' x u (dm j):=by
   intro j x u J hu;have ag:j<cs'.length:=(List.getElem?_eq_some_iff.1 J).1;have:=(hH.rel j x u J hu).bh (ρ':=ρ') (mr x (List.mem_of_getElem? J));exact this.frame yU (λ_ h=>h) (λ_ _ h=>h) λc aa=>r0 c λe=>hH.off j p.root b ag (e ▸ aa) (dq b n5)
  rcases e7 with rfl | rfl
  ·cases dv with
   | ref J=>simp [ab.isRef] at J
   | @own _ _ _ _ b0 us bH _ aM ah h1 ak aP hY aE =>
    obtain ⟨iu,br⟩:=aM;rcases br with ⟨rfl,_⟩ | ⟨ig,cap,cur,rfl,ox,iW,qW,o6,z7,xT⟩
    ·simp [addrOf] at ao
    ·simp only [addrOf,Option.some.injEq,Addr.mk.injEq,and_true] at ao;subst ao;rw [ku] at iW;cases iW;have NP:n * z<=arr.toList.length:=by
      rw [<- iu,<- xT,List.length_take] ; simp; omega
     have aeb:us.length=cs.length:=ah.symm;have mu:w'.ownsRow 0 e z (.slice (some ⟨ig,0,none⟩) n cap) n (ew us k ie):=by
      refine ⟨by rw [q3 (by omega),iu],.inr ⟨ig,cap,_,rfl,ox,La,qW,o6,?_,?_⟩⟩
      ·rw [List.size_toArray,q3 (by omega),Array.length_toList,z7]
      ·show (ew arr.toList k ie).take (n * z)=_;rw [Z1 (by omega) NP,xT]
     have Nt:∀ j,j<cs.length->¬ bH j ig:=λj ag h=>hY j ig ag h rfl;have eD:∀ j c,j<cs.length->bH j c->Fs p.root c:=λj c ag aa=>dq c ((aE c).2 (.inr ⟨j,ag,aa⟩));refine ⟨⟨_,.own (Fs:=λj=>if k<=j/\j<k+cs'.length then dm (j - k) else bH j) mu (by rw [q3 hk,q3 (by omega),ah]) (λj u hu=>?_) (λj x u J hu=>?_) (λi j c hi ag aa dW=>?_) (λj c ag aa va=>?_) (λc=>Iff.rfl),λc aa=>?_⟩,λj dr y ag ai=>?_⟩
     ·rw [q2 (by omega)] at hu
      split at hu
      ·exact fw _ u hu
      ·exact h1 j u hu
     ·rw [q2 hk] at J;rw [q2 (by omega),<- hlen] at hu;by_cases fV:k<=j/\j<k+cs'.length
      ·rw [if_pos fV] at J hu;simpa [fV] using new (j - k) x u J hu
      ·rw [if_neg fV] at J hu;have eV:j<cs.length:=(List.getElem?_eq_some_iff.1 J).1;rw [if_neg fV];exact (ak j x u J hu).frame yU (λ_ h=>h) lg λc aa=>r0 c λe=>Nt j eV (e ▸ aa)
     ·rw [q3 hk] at hi ag;by_cases h1:k<=i/\i<k+cs'.length <;> by_cases af:k<=j/\j<k+cs'.length <;> simp only [h1,af,if_false] at aa dW
      ·have:=hH.ep (i - k) (j - k) c (by omega) (by omega) (by simpa using aa) (by simpa using dW);omega
      ·exact absurd (eD j c ag dW) (hH.off (i - k) _ c (by omega) (by simpa using aa))
      ·exact absurd (eD i c hi aa) (hH.off (j - k) _ c (by omega) (by simpa using dW))
      ·exact aP i j c hi ag aa dW
     ·rw [q3 hk] at ag;by_cases h1:k<=j/\j<k+cs'.length
      ·rw [if_pos h1] at aa;simp only [Value.ownBlock,Option.some.injEq] at va;subst va;exact hH.off (j - k) p.root ig (by omega) aa (dq ig n5)
      ·rw [if_neg h1] at aa; exact hY j c ag aa va
     ·rcases aa with aa | ⟨j,ag,aa⟩
      ·exact .inl ((aE c).2 (.inl aa))
      ·rw [q3 hk] at ag;by_cases h1:k<=j/\j<k+cs'.length
       ·rw [if_pos h1] at aa; exact .inr ⟨j - k,by omega,aa⟩
       ·rw [if_neg h1] at aa; exact .inl ((aE c).2 (.inr ⟨j,ag,aa⟩))
     ·obtain ⟨c,n_,aa⟩:=ab.uD ai;simp only [ab.kids] at n_;have eV:j<cs.length:=(List.getElem?_eq_some_iff.1 n_).1;have hu:us[j]?=some us[j]:=List.getElem?_eq_getElem (by omega);have m_:child w (.slice (some ⟨ig,0,none⟩) n cap) j=some us[j]:=by
       refine ow (e:=e) (z:=z) (n:=n) (us:=us) ⟨iu,.inr ⟨ig,cap,arr,rfl,ox,ku,qW,o6,z7,xT⟩⟩ hu
      have Bu:child w' (.slice (some ⟨ig,0,none⟩) n cap) j=some us[j]:=by
       refine ow mu ?_;rw [q2 (by omega),if_neg (by omega)]; exact hu
      have:=R.pa (w':=w') dr (ak j c _ n_ hu) aa λc aa=>r0 c λe=>Nt j eV (e ▸ aa);simp [walk,m_,Bu,this]
  ·cases dv with
   | ref J=>simp [ab.isRef] at J
   | @obj _ ig b0 iL bH _ aM ah h1 ak aP hY aE av =>
    simp only [addrOf,Option.some.injEq,Addr.mk.injEq,and_true] at ao;subst ao;rw [ku] at aM;cases aM;have wL:cs.length=arr.toList.length:=by simp [ah]
    have eD:∀ j c,j<cs.length->bH j c->Fs p.root c:=λj c ag aa=>dq c ((aE c).2 (.inr ⟨j,ag,aa⟩));refine ⟨⟨_,.obj (Fs:=λj=>if k<=j/\j<k+cs'.length then dm (j - k) else bH j) La (by rw [q3 hk,List.size_toArray,q3 (by omega),wL]) (λj u hu=>?_) (λj x u J hu=>?_) (λi j c hi ag aa dW=>?_) (λj ag aa=>?_) (λc=>Iff.rfl) (λi j u hi hu=>?_),λc aa=>?_⟩,λj dr y ag ai=>?_⟩
    ·rw [List.getElem?_toArray,q2 (by omega)] at hu
     split at hu
     ·exact fw _ u hu
     ·exact h1 j u (by simpa using hu)
    ·rw [q2 hk] at J;rw [List.getElem?_toArray,q2 (by omega),<- hlen] at hu;by_cases fV:k<=j/\j<k+cs'.length
     ·rw [if_pos fV] at J hu;simpa [fV] using new (j - k) x u J hu
     ·rw [if_neg fV] at J hu;have eV:j<cs.length:=(List.getElem?_eq_some_iff.1 J).1;rw [if_neg fV];exact (ak j x u J (by simpa using hu)).frame yU (λ_ h=>h) lg λc aa=>r0 c λe=>hY j eV (e ▸ aa)
    ·rw [q3 hk] at hi ag;by_cases h1:k<=i/\i<k+cs'.length <;> by_cases af:k<=j/\j<k+cs'.length <;> simp only [h1,af,if_false] at aa dW
     ·have:=hH.ep (i - k) (j - k) c (by omega) (by omega) (by simpa using aa) (by simpa using dW);omega
     ·exact absurd (eD j c ag dW) (hH.off (i - k) _ c (by omega) (by simpa using aa))
     ·exact absurd (eD i c hi aa) (hH.off (j - k) _ c (by omega) (by simpa using dW))
     ·exact aP i j c hi ag aa dW
    ·rw [q3 hk] at ag;by_cases h1:k<=j/\j<k+cs'.length
     ·rw [if_pos h1] at aa;exact hH.off (j - k) p.root ig (by omega) aa (dq ig n5)
     ·rw [if_neg h1] at aa; exact hY j ag aa
    ·rw [q2 hk] at hi;rw [List.getElem?_toArray,q2 (by omega),<- hlen] at hu;by_cases rz:k<=i/\i<k+cs'.length
     ·rw [if_pos rz] at hi; exact absurd hi (lH rfl _ _)
     ·rw [if_neg rz] at hi hu; exact av i j u hi (by simpa using hu)
    ·rcases aa with aa | ⟨j,ag,aa⟩
     ·exact .inl ((aE c).2 (.inl aa))
     ·rw [q3 hk] at ag;by_cases h1:k<=j/\j<k+cs'.length
      ·rw [if_pos h1] at aa; exact .inr ⟨j - k,by omega,aa⟩
      ·rw [if_neg h1] at aa; exact .inl ((aE c).2 (.inr ⟨j,ag,aa⟩))
    ·obtain ⟨c,n_,aa⟩:=ab.uD ai;simp only [ab.kids] at n_;have eV:j<cs.length:=(List.getElem?_eq_some_iff.1 n_).1;have hu:arr[j]?=some arr[j]:=Array.getElem?_eq_getElem (by omega);have m_:child w (.pointer (some ⟨ig,0,none⟩)) j=some arr[j]:=by simp [child,World.cell?,ku,hu]
     have Bu:child w' (.pointer (some ⟨ig,0,none⟩)) j=some arr[j]:=by
      have aF:(ew arr.toList k ie)[j]?=some arr[j]:=by
       rw [q2 (by omega),if_neg (by omega)]; simp
      simp [child,World.cell?,La,aF]
     have:=R.pa (w':=w') dr (ak j c _ n_ hu) aa λc aa=>r0 c λe=>hY j eV (e ▸ aa);simp [walk,m_,Bu,this]
 have val:∀ q y,bB g q=some y->(q.root=p.root->∀ j dr,q.path=p.path++j::dr->j<k\/k+cs'.length<=j)->dL w' T q=dL w T q:=by
  intro q y ba hZ;by_cases ak:q.root=p.root
  ·have fR:dR.at q.path=some y:=by simpa [bB,ak,iw] using ba
   rcases aaQ q.path y fR with ⟨dr,ec⟩ | h
   ·have xa:walk w' v0 q.path=walk w v0 q.path:=by
     rw [ec,Dx,Dx,aaP,hw];simp only [Option.bind_some];cases dr with
     | nil=>rfl
     | cons j dr =>
      rw [ec,ab.GV,rr] at fR;exact (OV (λ_ _=>True) (λ_ _ _=>trivial)).2 j dr y (hZ ak j dr ec) fR
    simp [dL,ak,iS,xa]
   ·simp [dL,ak,iS,h]
  ·unfold bB at ba;cases J:g q.root with
   | none=>rw [J] at ba; cases ba
   | some x =>
    rw [J] at ba;obtain ⟨u,hu,aU⟩:=a_.rel _ _ J;cases aU with
    | tree aU =>
     have:=R.pa (w':=w') q.path aU ba λc aa=>r0 c λe=>N' _ ak (e ▸ aa);simp [dL,hu,this]
    | bD aU=>simp [dL,hu,(ab.ta ba).1,walk]
 have slot:∀ {q:Place}{x:ab},q.path=[]->g q.root=some x->dL w' T q=dL w T q:=by
  intro q x ba J;obtain ⟨u,hu,_⟩:=a_.rel _ _ J;simp [dL,ba,walk]
 have refs:∀ r u,Ls r u->dG w' T g2 r u:=by
  rintro r u ⟨h1,af,aF,bk⟩;refine ⟨?_,bk⟩;cases r <;> simp only [fO,gF] at h1 af ⊢
  case ptr q j=>obtain ⟨y,ai,_⟩:=af; rw [val q y ai (aF q rfl)]; exact h1
  case bo bM q ck =>
   rcases af with ⟨_,_,af,_⟩ | ⟨aI,_,_,_,_,af,_⟩
   ·rw [val q _ af (aF q rfl)]; exact h1
   ·rw [slot aI af]; exact h1
  case sub bM q lo ck=>obtain ⟨_,_,af,_⟩:=af; rw [val q _ af (aF q rfl)]; exact h1
  case gY q=>obtain ⟨_,af⟩:=af; rw [val q _ af (aF q rfl)]; exact h1
  case bD bM q ck bn cO =>
   rcases af with ⟨_,af⟩ | ⟨aI,_,_,_,_,_,af,_⟩
   ·rw [val q _ af (aF q rfl)]; exact h1
   ·rw [slot aI af]; exact h1
 obtain ⟨⟨Fn,Vk,Nu⟩,_⟩:=OV (dG w' T g2) refs;obtain ⟨cW,Ib,oQ⟩:=kB w' I (dG w' T g2) _ Fn ⟨yU,λc aa aA=>r0 c λe=>aA (e ▸ n5),λ_ h=>h,refs⟩ Vk (λc aa dW=>by
  rcases Nu c aa with h | ⟨j,ag,h⟩
  ·exact h
  ·exact absurd dW (hH.off j _ c ag h)) (λj h=>by rcases e7 with rfl | rfl <;> simp [ab.ew] at h)
 have H2:∀ c,cW c->Fs p.root c\/∃ j,j<cs'.length/\dm j c:=by
  intro c aa;rcases (oQ c).1 aa with h | h
  ·exact .inl h.1
  ·rcases Nu c h with h | h
   ·exact .inl (dq c h)
   ·exact .inr h
 let b5:Nat->a7:=λt c=>if t=p.root then cW c else g2 t≠none/\Fs t c
 have tq:∀ t c,b5 t c->Fs t c\/∃ j,j<cs'.length/\dm j c:=by
  intro t c aa;by_cases au:t=p.root
  ·simp only [b5,if_pos au] at aa; rw [au]; exact H2 c aa
  ·simp only [b5,if_neg au] at aa; exact .inl aa.2
 refine ⟨b5,⟨λt x J=>?_,λt au c aa=>?_,λt t' c aa dW=>?_,λt c aa hi=>?_,λc aa=>by have:=a_.lt c aa; omega,λt t' z q n m new bM ck bn cO h1=>absurd h1 (lG _ _ _ _ _ _),cw.keep a_.g_ yU λ_ h=>h⟩,tq⟩
 ·have fD:=BA t x J;by_cases au:t=p.root
  ·subst au;have JC:dR.setAt p.path (nd.ew k cs')=x:=by simpa [cp,iw] using fD
   refine ⟨v0,iS,.tree ?_⟩;have H4:b5 p.root=cW:=by funext c; simp [b5]
   rw [<- JC,H4]; exact Ib
  ·rw [x0 au] at fD;obtain ⟨u,hu,aU⟩:=a_.rel t x fD;replace aU:=aU.fW (by rintro z q n m new rfl; exact lG _ _ _ _ _ _ J);have H4:b5 t=Fs t:=by
    funext c;exact propext ⟨λh=>by simp only [b5,if_neg au] at h; exact h.2,λh=>by simp only [b5,if_neg au]; exact ⟨by rw [J]; simp,h⟩⟩
   refine ⟨u,hu,.tree ?_⟩;rw [H4];exact (aU.C6 (BR t x J x fD)).frame yU (λ_ h=>h) refs λc aa=>r0 c λe=>N' t au (e ▸ aa)
 ·by_cases hs:t=p.root
  ·exact mv (hs ▸ au)
  ·simp only [b5,if_neg hs] at aa; exact aa.1 au
 ·by_cases h1:t=p.root <;> by_cases af:t'=p.root
  ·rw [h1,af]
  ·simp only [b5,if_pos h1] at aa; simp only [b5,if_neg af] at dW;rcases H2 c aa with h | ⟨j,ag,h⟩
   ·exact absurd (a_.ep _ _ _ h dW.2) (Ne.symm af)
   ·exact absurd dW.2 (hH.off j _ c ag h)
  ·simp only [b5,if_neg h1] at aa; simp only [b5,if_pos af] at dW;rcases H2 c dW with h | ⟨j,ag,h⟩
   ·exact absurd (a_.ep _ _ _ aa.2 h) h1
   ·exact absurd aa.2 (hH.off j _ c ag h)
  ·simp only [b5,if_neg h1] at aa; simp only [b5,if_neg af] at dW;exact a_.ep _ _ _ aa.2 dW.2
 ·rcases tq t c aa with h | ⟨j,ag,h⟩
  ·exact a_.bf _ c h hi
  ·exact hH.bf j c ag h hi
end
end Go.Own
namespace Go.Own
open Go
set_option linter.unusedSectionVars false
variable [cw]
section
variable {P:Program}{w:World}{I:a7}{T:Array Value}{g:aH}{Fs:Nat->a7}
theorem View.Qy (h:jb w I T g Fs) {x x':ab}(hv:View g x x'):∀ {v:Value}{F:a7},R w I (fO w T) x v F->(∀ c,F c->∃ t,Fs t c)->∀ ρ',R w (λc=>I c\/∃ t,Fs t c) ρ' x' v cd:=by
 induction hv with
 | p3 =>
  intro v F aU aE ρ';have:=aU.p1;subst this;exact .hd λ_ h=>h
 | mp =>
  intro v F aU aE ρ';cases aU with
  | ref J=>simp [ab.isRef] at J
  | mp aM aw ao=>exact .imp (λ_ h=>h) (.inr (aE _ ((ao _).2 rfl))) aM aw
 | gY aw =>
  intro v F aU aE ρ';cases aU with
  | ref _ ak _ =>
   obtain ⟨b,ao,rfl⟩:=ak;obtain ⟨dB,cD,iv,dv,dq,_⟩:=h.part aw (by simp);rw [ao] at iv;cases iv;cases dv with
   | ref J=>simp [ab.isRef] at J
   | mp aM aw ao=>exact .imp (λ_ h=>h) (.inr ⟨_,dq _ ((ao _).2 rfl)⟩) aM aw
 | self aA h1 af aF bk b2 =>
  intro v F aU aE ρ';refine ((aU.bh aA).nj λc aa=>.inl aa).empty ?_;cases aU with
  | mp=>exact absurd rfl (b2.1 _)
  | dt=>exact absurd rfl (b2.2 _ _)
  | lit _ aE | bb aE | dead aE | j0 aE | ref _ _ aE | hd aE | bf aE | cL aE | dc aE | imp aE=>exact aE
  | own=>exact absurd rfl (h1 _ _ _)
  | obj=>exact absurd rfl (af _)
  | agg=>exact absurd rfl (aF _)
  | bI=>exact absurd rfl (bk _)
 | @agg cs cs' ah _ aJ =>
  intro v F aU aE ρ';cases aU with
  | ref J=>simp [ab.isRef] at J
  | @agg _ vs bH _ hp h1 ak aP lC =>
   refine .agg (Fs:=λ_=>cd) (by rw [ah,hp]) h1 (λk y u ai hu=>?_) (λ_ _ _ _ _ h=>h.elim) (λc=>⟨λh=>h.elim,λ⟨_,_,h⟩=>h⟩);have hk:k<cs.length:=by rw [<- ah]; exact (List.getElem?_eq_some_iff.1 ai).1
   have J:=List.getElem?_eq_getElem hk;exact aJ k _ y J ai (ak k _ u J hu) (λc aa=>aE c ((lC c).2 ⟨k,hk,aa⟩)) ρ'
 | @dc fn cs cs' ah _ aJ =>
  intro v F aU aE ρ';cases aU with
  | ref J=>simp [ab.isRef] at J
  | @dc _ _ _ v1 v2 _ mW h1 af iR hr =>
   refine .dc (λ_ h=>h) h1 (by rw [ah,af]) (λk x u J=>by simp at J) (λk y u ai hu=>?_);have hk:k<cs.length:=by rw [<- ah]; exact (List.getElem?_eq_some_iff.1 ai).1
   have J:=List.getElem?_eq_getElem hk;exact aJ k _ y J ai (hr k _ u J hu) (λc aa=>aa.elim) ρ'
 | @own z n cs cs' ah _ aJ =>
  intro v F aU aE ρ';obtain ⟨a,cap,us,bH,rfl,aA,hlen,aQ,aa⟩:=aU.zy;cases a with
  | none =>
   have gB:cs=[]:=by
    cases cs with
    | nil=>rfl
    | cons c cs=>obtain ⟨b,ao,_⟩:=aa 0 c rfl; cases ao
   subst gB;have kU:cs'=[]:=List.eq_nil_of_length_eq_zero (by simpa using ah);subst kU;have l4:n=0:=by
    cases aU with
    | ref J=>simp [ab.isRef] at J
    | own aM =>
     obtain ⟨_,br⟩:=aM;rcases br with ⟨br,aI⟩ | ⟨b,c2,cur,br,_⟩
     ·exact aI
     ·cases br
   subst l4;exact .hd λ_ h=>h
  | some ad =>
   obtain ⟨b,rfl,il⟩:=aQ ad rfl;refine .bf (us:=us) (λ_ h=>h) aA (.inr (aE b il)) rfl (by rw [ah,hlen]) (λk y ai=>?_) (λk y ai=>?_) λk y ai=>?_
   all_goals
    have hk:k<cs.length:=by rw [<- ah]; exact (List.getElem?_eq_some_iff.1 ai).1
    have J:=List.getElem?_eq_getElem hk;obtain ⟨ig,kT,h1,af,aF,bk⟩:=aa k _ J;cases kT
   ·exact af
   ·simpa using h1
   ·exact aJ k _ y J ai aF (λc aa=>aE c (bk c aa)) ρ'
 | @obj cs cs' ah _ aJ =>
  intro v F aU aE ρ';cases aU with
  | ref J=>simp [ab.isRef] at J
  | @obj _ b e arr bH _ aM hp h1 ak aP ao lC =>
   refine .cL (us:=λk=>arr.getD k undef) (λ_ h=>h) (.inr (aE b ((lC b).2 (.inl rfl)))) rfl (λk y ai=>?_) (λk y ai=>?_) λk y ai=>?_
   all_goals
    have hk:k<cs.length:=by rw [<- ah]; exact (List.getElem?_eq_some_iff.1 ai).1
    have J:=List.getElem?_eq_getElem hk;have hu:arr[k]?=some arr[k]:=Array.getElem?_eq_getElem (hp ▸ hk)
   ·simpa [hu] using h1 k _ hu
   ·simp [World.cell?,aM,hu]
   ·simpa [hu] using aJ k _ y J ai (ak k _ _ J hu) (λc aa=>aE c ((lC c).2 (.inr ⟨k,hk,aa⟩))) ρ'
 | @bo z n N p cs cs' aw aA ah _ aJ =>
  intro v F aU aE ρ';obtain ⟨a,j5,cap,h1,rfl,aF⟩:=aU.my;obtain ⟨qe,qn,gr,hc,l1,_⟩:=h.part aw (by simp);rw [h1] at gr;cases gr;obtain ⟨a2,rk,us,bH,ir,kx,hlen,aQ,aa⟩:=hc.zy;cases ir;have hle:n * z<=N * z:=Nat.mul_le_mul_right _ aA;have cell:∀ k,k<cs'.length->∃ x b,(cs.take (n * z))[k]?=some x/\a=some ⟨b,0,none⟩/\w.cell? ⟨b,k,none⟩=some (us k)/\(us k).oneCell'=true/\R w I (fO w T) x (us k) (bH k)/\∀ c,bH k c->qn c:=by
   intro k hk;rw [ah,List.length_take] at hk;have J:cs[k]?=some cs[k]:=List.getElem?_eq_getElem (by omega);obtain ⟨b,r⟩:=aa k _ J;exact ⟨_,b,by rw [List.getElem?_take,if_pos (by omega)]; exact J,r⟩
  cases a with
  | none =>
   have kU:cs'=[]:=by
    cases cs' with
    | nil=>rfl
    | cons c l=>obtain ⟨_,b,_,ao,_⟩:=cell 0 (by simp); cases ao
   subst kU;obtain ⟨_,_,ir,_,_,_,rE⟩:=hc.mC;cases ir;have l4:n=0:=by
    rcases Nat.eq_zero_or_pos n with aI | aI
    ·exact aI
    ·have:=rE (by omega); simp at this
   subst l4;exact .hd λ_ h=>h
  | some ad =>
   obtain ⟨b,rfl,il⟩:=aQ ad rfl;refine .bf (us:=us) (λ_ h=>h) (by omega) (.inr ⟨_,l1 b il⟩) rfl (by rw [ah,List.length_take,hlen]; omega) (λk y ai=>?_) (λk y ai=>?_) λk y ai=>?_
   all_goals
    obtain ⟨x,ig,J,kT,bk,b2,du,jh⟩:=cell k (List.getElem?_eq_some_iff.1 ai).1;cases kT
   ·exact b2
   ·simpa using bk
   ·exact aJ k x y J ai du (λc aa=>⟨_,l1 c (jh c aa)⟩) ρ'
 | @sub z lo n N p cs cs' aw aA ah _ aJ =>
  intro v F aU aE ρ';obtain ⟨a,j5,cap,cb,ml,h1,rfl,I5,aF,b2⟩:=aU.xn;obtain ⟨qe,qn,gr,hc,l1,_⟩:=h.part aw (by simp);rw [h1] at gr;cases gr;obtain ⟨a2,rk,us,bH,ir,kx,hlen,aQ,aa⟩:=hc.zy;cases ir;have hle:lo * z+n * z<=N * z:=by rw [<- Nat.add_mul]; exact Nat.mul_le_mul_right _ aA
  have hp:cs'.length=n * z:=by rw [ah,List.length_take,List.length_drop,hlen]; omega
  have cell:∀ k,k<cs'.length->∃ x b,((cs.drop (lo * z)).take (n * z))[k]?=some x/\a=some ⟨b,0,none⟩/\w.cell? ⟨b,lo * z+k,none⟩=some (us (lo * z+k))/\(us (lo * z+k)).oneCell'=true/\R w I (fO w T) x (us (lo * z+k)) (bH (lo * z+k))/\∀ c,bH (lo * z+k) c->qn c:=by
   intro k hk;have J:cs[lo * z+k]?=some cs[lo * z+k]:=List.getElem?_eq_getElem (by omega);obtain ⟨b,r⟩:=aa _ _ J;exact ⟨_,b,by rw [List.getElem?_take,if_pos (by omega),List.getElem?_drop]; exact J,r⟩
  by_cases l4:n=0
  ·subst l4;have kU:cs'=[]:=List.eq_nil_of_length_eq_zero (by simpa using hp);subst kU;exact .hd λ_ h=>h
  ·obtain ⟨ad,rfl,rfl⟩:=b2 (by omega);obtain ⟨b,rfl,il⟩:=aQ ad rfl;refine .bf (us:=λk=>us (lo * z+k)) (λ_ h=>h) I5 (.inr ⟨_,l1 b il⟩) rfl hp (λk y ai=>?_) (λk y ai=>?_) λk y ai=>?_
   all_goals
    obtain ⟨x,ig,J,kT,bk,HX,du,jh⟩:=cell k (List.getElem?_eq_some_iff.1 ai).1;cases kT
   ·exact HX
   ·simpa using bk
   ·exact aJ k x y J ai du (λc aa=>⟨_,l1 c (jh c aa)⟩) ρ'
 | @rows z n p cs cs' aw ah _ aJ =>
  intro v F aU aE ρ';obtain ⟨a,j5,cap,h1,rfl,aF⟩:=aU.my;obtain ⟨v0,e,us,iS,aM,hlen,k',ao,ak⟩:=Rows.sound (w:=w) (I:=I) (T:=T) (Fs:=Fs) (λt z q n m new au=>h.rel t _ au) (λp z n cs aw=>by obtain ⟨v,cD,h1,af,aF,_⟩:=h.part aw (by simp); exact ⟨v,cD,h1,af,aF⟩) (λz p n v hv=>by obtain ⟨a,cap,h1,rfl⟩:=hv; exact h1) aw;rw [h1] at iS;cases iS;refine PV aM hlen k' ao ah λk x y u J ai hu=>?_;obtain ⟨bH,jU,eD⟩:=ak k x u J hu;exact aJ k x y J ai jU eD ρ'
 | @ptr p k z n y cs cs' aw ai hk ah _ aJ =>
  intro v F aU aE ρ';obtain ⟨u,ad,h1,af,rfl⟩:=aU.mz;obtain ⟨qe,qn,gr,hc,l1,_⟩:=h.part aw (by rcases ai with rfl | rfl <;> simp);rw [h1] at gr;cases gr;have cell:∀ j,j<cs'.length->∃ gj kF wg,w.cell? ⟨ad.block,k+j,none⟩=some gj/\gj.oneCell'=true/\(cs.drop k)[j]?=some kF/\R w I (fO w T) kF gj wg/\(∀ c,wg c->∃ t,Fs t c):=by
   intro j ag;rw [ah,List.length_drop] at ag;have fD:cs[k+j]?=some cs[k+j]:=List.getElem?_eq_getElem (by omega);obtain ⟨b,gj,ft,jt,m_,fw,_⟩:=hc.node ai fD;rw [af] at ft;cases ft;have fR:bB g (p.push (k+j))=some cs[k+j]:=by rw [s',aw]; rcases ai with rfl | rfl <;> simp [ab.kids]
   by_cases hq:∃ bM ga ck bn cO,cs[k+j]=.bD bM ga ck bn cO
   ·obtain ⟨bM,ga,ck,bn,cO,hq⟩:=hq;obtain ⟨b,aaA,_,_,Bu,_,bH,jU⟩:=hc.node ai fD;rw [hq] at jU;exact jU.kX.elim
   ·obtain ⟨x_,GB,rG,Ic,lC,_⟩:=h.part fR (λbM ga ck bn cO e=>hq ⟨_,_,_,_,_,e⟩);rw [x8,h1] at rG;simp only [Option.bind_some] at rG;rw [m_] at rG;cases rG;exact ⟨gj,_,GB,jt,fw,by rw [List.getElem?_drop]; exact fD,Ic,λc aa=>⟨_,lC c aa⟩⟩
  obtain ⟨b,gj,ft,_⟩:=hc.node ai (List.getElem?_eq_getElem hk);rw [af] at ft;cases ft;have hblk:∃ t,Fs t b:=⟨_,l1 b (hc.Fv ai af)⟩;refine .cL (us:=λj=>(w.cell? ⟨b,k+j,none⟩).getD undef) (λ_ h=>h) (.inr hblk) rfl (λj hL sH=>?_) (λj hL sH=>?_) λj hL sH=>?_
  all_goals
   obtain ⟨gj,kF,wg,c1,c2,kQ,c4,kr⟩:=cell j (List.getElem?_eq_some_iff.1 sH).1
  ·simpa [c1] using c2
  ·simp [c1]
  ·simpa [c1] using aJ j kF hL kQ sH c4 kr ρ'
end
end Go.Own
namespace Go.Own
open Go
set_option linter.unusedSectionVars false
variable [cw]
def p8 (g:aH):List (Place × ab)->aH
 | []=>g
 | (p,x)::l=>p8 (cp g p x) l
structure Rt (g g2:aH) (all:List ab) (outs:List (Option ab)) (k:Nat) (p:Place) (x:ab):Prop where
 out:outs[k]?=some (some x)
 Md:bB g2 p=some .dead
 arg:(∃ z n cs,all[k]?=some (.bo z p n)/\bB g p=some (.own z n cs))\/(∃ cs,all[k]?=some (.ptr p 0)/\bB g p=some (.obj cs))
 l7:∀ i,x≠.self i
section
variable {P:Program}{w:World}{I:a7}{T:Array Value}{g:aH}{Fs:Nat->a7}
theorem R1 (h:cG w I T g Fs) {z n:Nat}{p:Place}{cs:List ab}{v:Value}{F:a7}(aU:R w I (dG w T g) (.bo z p n) v F) (aw:bB g p=some (.own z n cs)):dL w T p=some v:=by
 obtain ⟨⟨a,j5,cap,h1,rfl,aF⟩,_⟩:=aU.my;obtain ⟨qe,qn,gr,hc,l1⟩:=h.part aw (by simp);rw [h1] at gr;cases gr;obtain ⟨a2,rk,ir,_⟩:=hc.mC;cases ir;exact h1
theorem R0 (h:cG w I T g Fs) {p:Place}{cs:List ab}{v:Value}{F:a7}(aU:R w I (dG w T g) (.ptr p 0) v F) (aw:bB g p=some (.obj cs)):dL w T p=some v:=by
 obtain ⟨⟨u,ad,h1,af,rfl⟩,_⟩:=aU.mz;obtain ⟨qe,qn,gr,hc,l1⟩:=h.part aw (by simp);rw [h1] at gr;cases gr;cases hc with
 | ref J=>simp [ab.isRef] at J
 | obj=>simp only [addrOf,Option.some.injEq] at af; subst af; exact h1
theorem ZM {g:aH}{p q:Place}{y:ab}(ba:bB g q=some .dead) (aw:bB g p=some .dead) (cN:p≠q):bB (cp g p y) q=some .dead:=by
 by_cases ak:q.root=p.root
 ·obtain ⟨r,pp⟩:=p;obtain ⟨dr,sQ⟩:=q;simp only at ak;subst ak;have ET:pp≠sQ:=λe=>cN (by rw [e]);simp only [bB,cp,if_true] at *;cases J:g dr with
  | none=>rw [J] at aw; cases aw
  | some x =>
   rw [J] at aw ba;simp only [Option.map_some];have:∀ (pp sQ:List Nat) (x:ab),pp≠sQ->x.at pp=some .dead->x.at sQ=some .dead->(x.setAt pp y).at sQ=some .dead:=by
    intro pp
    induction pp with
    | nil =>
     intro sQ x cN h1 af;simp only [ab.at,Option.some.injEq] at h1;subst h1;cases sQ with
     | nil=>exact absurd rfl cN
     | cons k q=>simp [ab.at,ab.kids] at af
    | cons k pp aJ =>
     intro sQ x cN h1 af;cases sQ with
     | nil =>
      simp only [ab.at,Option.some.injEq] at af;subst af;simp [ab.at,ab.kids] at h1
     | cons j q =>
      simp only [ab.at] at h1 af;cases hk:x.kids[k]? with
      | none=>rw [hk] at h1; cases h1
      | some c =>
       rw [hk] at h1;simp only at h1;have u6:x.setAt (k::pp) y=x.ud k (c.setAt pp y):=by simp only [ab.setAt,hk]
       rw [u6];have di:k<x.kids.length:=(List.getElem?_eq_some_iff.1 hk).1;have IW:(x.ud k (c.setAt pp y)).kids=x.kids.set k (c.setAt pp y):=by
        cases x <;> simp [ab.ud,ab.kids] at di ⊢
       simp only [ab.at,IW];by_cases fV:j=k
       ·subst fV;rw [List.getElem?_set_self di];rw [hk] at af;exact aJ q c (λe=>cN (by rw [e])) h1 af
       ·rw [List.getElem?_set_ne (Ne.symm fV)];exact af
   exact this pp sQ x ET aw ba
 ·rw [FZ ak]; exact ba
theorem jb.p8:∀ (l:List (Place × ab)) (dm:Nat->a7) (vs:Nat->Value) {g:aH}{Fs:Nat->a7},jb w I T g Fs->(l.map (·.1)).Nodup->(∀ (j:Nat) (p:Place) (x:ab),l[j]?=some (p,x)->bB g p=some .dead/\dL w T p=some (vs j)/\R w I (fO w T) x (vs j) (dm j)/\∀ i,x≠.self i) ->
  (∀ (j t c:Nat),j<l.length->dm j c->¬ Fs t c)->(∀ (j c:Nat),j<l.length->dm j c->¬ I c)->(∀ (i j c:Nat),i<l.length->j<l.length->dm i c->dm j c->i=j) ->
  ∃ b5,jb w I T (p8 g l) b5/\∀ t c,b5 t c->Fs t c\/∃ j,j<l.length/\dm j c
 | [],_,_,g,Fs,a_,_,_,_,_,_=>⟨Fs,a_,λ_ _ h=>.inl h⟩
 | (p,x)::l,dm,vs,g,Fs,a_,e7,ah,qH,N0,mq=>by
  obtain ⟨h1,af,aF,bk⟩:=ah 0 p x rfl;obtain ⟨v,cD,hv,dv,dq,put⟩:=a_.part h1 (by simp);rw [af] at hv;cases hv;obtain ⟨fN,iP,Et,H3⟩:=put x (dm 0) aF (λc aa aV=>absurd aV (qH 0 _ c (by simp) aa)) (λc aa=>N0 0 c (by simp) aa) (λt c _ aa=>qH 0 t c (by simp) aa) (λi e=>absurd e (bk i));have gi:∀ t c,fN t c->Fs t c\/dm 0 c:=by
   intro t c aa;by_cases au:t=p.root
   ·subst au;rcases (Et c).1 aa with ⟨h,_⟩ | h
    ·exact .inl h
    ·exact .inr h
   ·rw [H3 t au] at aa; exact .inl aa
  simp only [List.map_cons,List.nodup_cons] at e7;obtain ⟨j4,hI,yT⟩:=jb.p8 l (λj=>dm (j+1)) (λj=>vs (j+1)) iP e7.2 (λj q y ag=>by
    obtain ⟨ax,a2,a3⟩:=ah (j+1) q y (by simpa using ag);refine ⟨ZM ax h1 ?_,a2,a3⟩;rintro rfl;exact e7.1 (List.mem_map.2 ⟨(p,y),List.mem_of_getElem? ag,rfl⟩))
   (λj t c ag aa aV=>by
    rcases gi t c aV with h | h
    ·exact qH (j+1) t c (by simpa using ag) aa h
    ·have:=mq (j+1) 0 c (by simpa using ag) (by simp) aa h; omega)
   (λj c ag aa=>N0 (j+1) c (by simpa using ag) aa)
   (λi j c hi ag h1 af=>by have:=mq (i+1) (j+1) c (by simpa using hi) (by simpa using ag) h1 af; omega)
  refine ⟨j4,hI,λt c aa=>?_⟩;rcases yT t c aa with h | ⟨j,ag,h⟩
  ·rcases gi t c h with h | h
   ·exact .inl h
   ·exact .inr ⟨0,by simp,h⟩
  ·exact .inr ⟨j+1,by simpa using ag,h⟩
end
end Go.Own
namespace Go.Own
open Go
set_option linter.unusedSectionVars false
variable [cw]
inductive gE:ab->ab->Prop
 | refl {x:ab}:gE x x
 | Cp {z:Nat}:gE .bb (.own z 0 [])
 | oi {x y:ab}(aA:cK x) (h:View (λ_=>none) x y):gE x y
 | own {z n:Nat}{cs cs':List ab}(ah:cs'.length=cs.length) (h:∀ (k:Nat) (x y:ab),cs[k]?=some x->cs'[k]?=some y->gE x y):gE (.own z n cs) (.own z n cs')
 | obj {cs cs':List ab}(ah:cs'.length=cs.length) (h:∀ (k:Nat) (x y:ab),cs[k]?=some x->cs'[k]?=some y->gE x y):gE (.obj cs) (.obj cs')
 | agg {cs cs':List ab}(ah:cs'.length=cs.length) (h:∀ (k:Nat) (x y:ab),cs[k]?=some x->cs'[k]?=some y->gE x y):gE (.agg cs) (.agg cs')
theorem View.up {g g':aH}(h:∀ t x,g t=some x->g' t=some x) {x y:ab}(hv:View g x y):View g' x y:=by
 induction hv with
 | p3=>exact .p3
 | self h1 af aF bk b2 du=>exact .self h1 af aF bk b2 du
 | mp=>exact .mp
 | gY aw=>exact .gY (kq h aw)
 | agg ah _ aJ=>exact .agg ah aJ
 | own ah _ aJ=>exact .own ah aJ
 | obj ah _ aJ=>exact .obj ah aJ
 | dc ah _ aJ=>exact .dc ah aJ
 | bo aw aA ah _ aJ=>exact .bo (kq h aw) aA ah aJ
 | sub aw aA ah _ aJ=>exact .sub (kq h aw) aA ah aJ
 | ptr aw ai hk ah _ aJ=>exact .ptr (kq h aw) ai hk ah aJ
 | rows aw ah _ aJ=>exact .rows (aw.mono (λaw=>kq h aw) h) ah aJ
theorem View.l7 {g:aH}{x y:ab}{j:Nat × Nat}(h:View g x y) (e:y=.self j):x=.self j:=by
 cases h <;> first | exact e | cases e
theorem gE.l7 {x y:ab}{j:Nat × Nat}(h:gE x y) (e:y=.self j):x=.self j:=by
 cases h <;> first | exact e | exact View.l7 ‹_› e | cases e
theorem Fx {F:ab->ab->Prop}{cs cs':List ab}(ah:cs'.length=cs.length) (h:∀ (k:Nat) (x y:ab),cs[k]?=some x->cs'[k]?=some y->F x y) (aE:∀ x y j,F x y->y=.self j->x=.self j) (k:Nat) (j:Nat × Nat) (hk:cs'[k]?=some (.self j)):cs[k]?=some (.self j):=by
 have aK:k<cs.length:=ah ▸ (List.getElem?_eq_some_iff.1 hk).1;rw [List.getElem?_eq_getElem aK];exact congrArg some (aE _ _ j (h k _ _ (List.getElem?_eq_getElem aK) hk) rfl)
theorem xz {cs cs':List ab}(ah:cs'.length=cs.length) (aA:∀ x∈cs,cK x) (aJ:∀ (k:Nat) (x y:ab),cs[k]?=some x->cs'[k]?=some y->cK x->cK y):∀ y∈cs',cK y:=by
 intro y ai;obtain ⟨k,hk⟩:=List.getElem?_of_mem ai;have di:=(List.getElem?_eq_some_iff.1 hk).1;have J:=List.getElem?_eq_getElem (ah ▸ di:k<cs.length)
 grind
section
variable {w:World}{I:a7}
theorem R.oi {ρ:ab->Value->Prop}{x y:ab}{v:Value}{F:a7}(aU:R w I ρ x v F) (aA:cK x) (h:View (λ_=>none) x y) (a':∀ c,F c->¬ I c) (aK:∀ c,I c->c<w.heap.size) (h':cw.q w I):R w (λc=>I c\/F c) ρ y v cd:=by
 have a_:jb w I #[v] (λt=>if t=0 then some x else none) (λt c=>t=0/\F c):=by
  refine ⟨λt z aT=>?_,λt au c aa=>?_,λt t' c aa dW=>aa.1.trans dW.1.symm,λt c aa=>a' c aa.2,aK,h'⟩
  ·by_cases aI:t=0
   ·subst aI;rw [if_pos rfl] at aT;cases aT;exact ⟨v,rfl,.tree ((aU.bh aA).tg λc=>⟨λh=>⟨rfl,h⟩,λh=>h.2⟩)⟩
   ·rw [if_neg aI] at aT; cases aT
  ·rw [if_pos aa.1] at au; cases au
 have:=View.Qy a_ (h.up λ_ _ h=>by cases h) (aU.bh aA) (λc aa=>⟨0,rfl,aa⟩) ρ;exact this.nj λc aa=>by
  rcases aa with h | ⟨t,_,h⟩
  ·exact .inl h
  ·exact .inr h
theorem gE.bh {x y:ab}(h:gE x y):cK x->cK y:=by
 induction h with
 | refl=>exact id
 | Cp=>exact λ_=>.own (by simp)
 | oi aA h =>
  intro _;have key:∀ {x y:ab},View (λ_=>none) x y->cK x->cK y:=by
   intro x y h
   induction h with
   | p3=>exact λ_=>.bf (by simp)
   | self h=>exact λ_=>h
   | mp=>exact λ_=>.imp
   | gY aw=>simp [bB] at aw
   | agg ah _ aJ=>intro aA; cases aA with | agg aA=>exact .agg (xz ah aA aJ)
   | own ah _ aJ=>intro aA; cases aA with | own aA=>exact .bf (xz ah aA aJ)
   | obj ah _ aJ=>intro aA; cases aA with | obj aA=>exact .cL (xz ah aA aJ)
   | dc ah _ aJ=>intro aA; cases aA with | dc h1 af=>exact .dc h1 (xz ah af aJ)
   | bo aw=>simp [bB] at aw
   | sub aw=>simp [bB] at aw
   | ptr aw=>simp [bB] at aw
   | rows aw =>
    cases aw with
    | own aw=>simp [bB] at aw
    | bD au=>cases au
  grind
 | own ah _ aJ=>intro aA; cases aA with | own aA=>exact .own (xz ah aA aJ)
 | obj ah _ aJ=>intro aA; cases aA with | obj aA=>exact .obj (xz ah aA aJ)
 | agg ah _ aJ=>intro aA; cases aA with | agg aA=>exact .agg (xz ah aA aJ)
theorem HO {ρ:ab->Value->Prop}{cs cs':List ab}{get:Nat->Option Value}{Fs:Nat->a7}{F B:a7}(ah:cs'.length=cs.length)
  (aL:∀ k,k<cs.length->∃ u,get k=some u)
  (aP:∀ (j k c:Nat),j<cs.length->k<cs.length->Fs j c->Fs k c->j=k) (ao:∀ k c,k<cs.length->Fs k c->¬ B c) (aE:∀ c,F c↔B c\/∃ k,k<cs.length/\Fs k c)
  (aJ:∀ (k:Nat) (x y:ab),cs[k]?=some x->cs'[k]?=some y->∀ u,get k=some u->∃ cW,(∀ c,cW c->Fs k c)/\R w (λc=>I c\/(Fs k c/\¬ cW c)) ρ y u cW) :
  ∃ qo:Nat->a7,(∀ k c,k<cs'.length->qo k c->Fs k c)/\(∀ (k:Nat) (y:ab) (u:Value),cs'[k]?=some y->get k=some u->R w (λc=>I c\/(F c/\¬ (B c\/∃ j,j<cs'.length/\qo j c))) ρ y u (qo k)):=by
 have:∀ k,∃ G:a7,k<cs.length->(∀ c,G c->Fs k c)/\∀ (y:ab) (u:Value),cs'[k]?=some y->get k=some u->R w (λc=>I c\/(Fs k c/\¬ G c)) ρ y u G:=by
  intro k;by_cases hk:k<cs.length
  ·have J:=List.getElem?_eq_getElem hk;have ai:=List.getElem?_eq_getElem (ah ▸ hk:k<cs'.length);obtain ⟨u,hu⟩:=aL k hk
   simp_all
  ·exact ⟨cd,λh=>absurd h hk⟩
 obtain ⟨qo,Nv⟩:=Classical.axiomOfChoice this;refine ⟨qo,λk c hk=>(Nv k (ah ▸ hk)).1 c,λk y u ai hu=>?_⟩;have hk:k<cs'.length:=(List.getElem?_eq_some_iff.1 ai).1;have hS:k<cs.length:=ah ▸ hk;refine ((Nv k hS).2 y u ai hu).nj λc aa=>?_
 grind
theorem R.fJ {ρ:ab->Value->Prop}{x y:ab}(h:gE x y):∀ {v:Value}{F:a7},R w I ρ x v F->cK x->(∀ c,F c->¬ I c)->(∀ c,I c->c<w.heap.size)->cw.q w I->∃ cW,(∀ c,cW c->F c)/\R w (λc=>I c\/(F c/\¬ cW c)) ρ y v cW:=by
 induction h with
 | refl=>exact λaU _ _ _ _=>⟨_,λ_ h=>h,aU.nj λ_ h=>.inl h⟩
 | Cp =>
  intro v F aU _ _ _ _;have:=aU.p1;subst this;refine ⟨cd,λ_ h=>h.elim,.own (e:=0) (us:=[]) (Fs:=λ_=>cd) ⟨by simp,.inl ⟨rfl,rfl⟩⟩ rfl (by simp) (by simp) (λ_ _ _ _ _ h=>h.elim) (λ_ _ _ h=>h.elim) λc=>⟨λh=>h.elim,λh=>?_⟩⟩;rcases h with h | ⟨_,_,h⟩
  ·cases h
  ·exact h
 | oi aA h=>exact λaU _ a' aK h'=>⟨cd,λ_ h=>h.elim,(aU.oi aA h a' aK h').nj λc aa=>aa.elim .inl λh=>.inr ⟨h,λh=>h⟩⟩
 | @own z n cs cs' ah _ aJ =>
  intro v F aU aA a' aK h';cases aU with
  | ref J=>simp [ab.isRef] at J
  | @own _ _ _ _ e us Fs _ aM hp h1 ak aP ao aE =>
   cases aA with
   | own aA =>
    obtain ⟨qo,pJ,Bd⟩:=HO (get:=λk=>us[k]?) (B:=λc=>v.ownBlock=some c) ah (λk hk=>⟨_,List.getElem?_eq_getElem (hp ▸ hk)⟩) aP (λk c hk aa e=>ao k c hk aa e) aE (λk x y J ai u hu=>aJ k x y J ai (ak k x u J hu) (aA x (List.mem_of_getElem? J)) (λc aa=>a' c ((aE c).2 (.inr ⟨k,(List.getElem?_eq_some_iff.1 J).1,aa⟩))) aK h');exact ⟨_,λc aa=>(aE c).2 (aa.imp id λ⟨k,hk,h⟩=>⟨k,ah ▸ hk,pJ k c hk h⟩),
     .own aM (by rw [ah,hp]) h1 (λk y u ai hu=>Bd k y u ai hu) (λj k c ag hk af aF=>aP j k c (ah ▸ ag) (ah ▸ hk) (pJ j c ag af) (pJ k c hk aF)) (λk c hk aa=>ao k c (ah ▸ hk) (pJ k c hk aa)) (λc=>Iff.rfl)⟩
 | @obj cs cs' ah nL aJ =>
  intro v F aU aA a' aK h';cases aU with
  | ref J=>simp [ab.isRef] at J
  | @obj _ b e arr Fs _ aM hp h1 ak aP ao aE av =>
   cases aA with
   | obj aA =>
    obtain ⟨qo,pJ,Bd⟩:=HO (get:=λk=>arr[k]?) (B:=λc=>c=b) ah (λk hk=>⟨_,Array.getElem?_eq_getElem (hp ▸ hk)⟩) aP (λk c hk aa e=>ao k hk (e ▸ aa)) aE (λk x y J ai u hu=>aJ k x y J ai (ak k x u J hu) (aA x (List.mem_of_getElem? J)) (λc aa=>a' c ((aE c).2 (.inr ⟨k,(List.getElem?_eq_some_iff.1 J).1,aa⟩))) aK h');exact ⟨_,λc aa=>(aE c).2 (aa.imp id λ⟨k,hk,h⟩=>⟨k,ah ▸ hk,pJ k c hk h⟩),
     .obj aM (by rw [ah,hp]) h1 (λk y u ai hu=>Bd k y u ai hu) (λj k c ag hk af aF=>aP j k c (ah ▸ ag) (ah ▸ hk) (pJ j c ag af) (pJ k c hk aF)) (λk hk aa=>ao k (ah ▸ hk) (pJ k b hk aa)) (λc=>Iff.rfl) (λk j u hk=>av k j u (Fx ah nL (λ_ _ _=>gE.l7) k j hk))⟩
 | @agg cs cs' ah _ aJ =>
  intro v F aU aA a' aK h';cases aU with
  | ref J=>simp [ab.isRef] at J
  | @agg _ vs Fs _ hp h1 ak aP aE =>
   cases aA with
   | agg aA =>
    obtain ⟨qo,pJ,Bd⟩:=HO (get:=λk=>vs[k]?) (B:=λ_=>False) ah (λk hk=>⟨_,Array.getElem?_eq_getElem (hp ▸ hk)⟩) aP (λk c hk aa e=>e) (λc=>(aE c).trans ⟨.inr,λh=>h.elim (λh=>h.elim) id⟩) (λk x y J ai u hu=>aJ k x y J ai (ak k x u J hu) (aA x (List.mem_of_getElem? J)) (λc aa=>a' c ((aE c).2 ⟨k,(List.getElem?_eq_some_iff.1 J).1,aa⟩)) aK h');refine ⟨λc=>∃ k,k<cs'.length/\qo k c,λc ⟨k,hk,h⟩=>(aE c).2 ⟨k,ah ▸ hk,pJ k c hk h⟩,
     .agg (Fs:=qo) (by rw [ah,hp]) h1 (λk y u ai hu=>(Bd k y u ai hu).nj λc aa=>aa.imp id λ⟨h1,af⟩=>⟨h1,λh=>af (.inr h)⟩) (λj k c ag hk af aF=>aP j k c (ah ▸ ag) (ah ▸ hk) (pJ j c ag af) (pJ k c hk aF)) (λc=>Iff.rfl)⟩
end
end Go.Own
