/- Parts of the proof that the last text states. -/
import Derived.Test.YtcfiphoaldlmiaaGreatDoorE1
namespace Go.Own
open Go
set_option linter.unusedSectionVars false
variable [cw]
section
variable {w w':World}{I:a6}{T:Array Value}{g:aG}{Fs:Nat->a6}
theorem cB.KN (h:cB w I T g Fs) {t:Nat}{x:ab}(j:g t=some x):∃ v,T[t]?=some v/\dN w T ⟨t,[]⟩=some v/\jb w I (dO w T g) x v (Fs t):=by
 obtain ⟨v,hv,aV⟩:=h.rel t x j;exact ⟨v,hv,by simp [dN,hv,walk],aV⟩
theorem cB.app (h:cB w I T g Fs) {z n m:Nat}{p:Place}{bv dJ:Value}{e b7:TypeId}{us news:List Value}(j_:dO w T g (.bC z p n 0 []) bv)
  (eN:∀ t br ck bm cK,g t≠some (.bC br p ck bm cK)) (A:xV w w' bv dJ e b7 z n m us news):cB w' I T g Fs/\∀ r v,dO w T g r v->dO w' T g r v:=by
 cases iV:bv.ownBlock with
 | none =>
  have same:∀ c,c<w.heap.size->w'.heap[c]?=w.heap[c]?:=λc J=>A.ei.block c J (by rw [iV]; simp);exact ⟨h.world (λt c J=>same c (h.jm t c J)) (λc J=>same c (h.lt c J)) A.ei.size,λr v aj=>h.FJ (λ_ _=>rfl) (λt c J=>same c (h.jm t c J)) (λ_ _ h=>h) aj⟩
 | some b =>
  have s:DP w w' b (n * z):=by
   refine ⟨λc J cU=>A.ei.block c J (by rw [iV]; simpa using Ne.symm cU),?_⟩;obtain ⟨arr,iO,h1,af,aJ,bo⟩:=A.sp b iV;exact ⟨arr,iO,e,h1,af,aJ,bo⟩
  obtain ⟨t0,sq⟩:=h.D1 j_ b iV;have bb:∀ c,I c->c<w.heap.size/\c≠b:=λc J=>⟨h.lt c J,λe=>h.bc t0 b sq (e ▸ J)⟩;obtain ⟨⟨vX,vY,Iw,rfl⟩,dp⟩:=j_
  -- the home of the block
  have home:∃ N:Place->Prop,(∀ q br ck cs' mb,bu g q=some (.own br ck cs')->dN w T q=some mb->mb.ownBlock=some b->N q) /\
    (∀ q,N q->∀ t br ck bm cK,g t=some (.bC br q ck bm cK)->t=p.root/\p.path=[]) /\
    (∀ t br gn ck bm cK,Fs t b->g t=some (.bC br gn ck bm cK)->t=p.root/\p.path=[]) /\
    (∀ br gn ck bm cK,p.path=[]->g p.root=some (.bC br gn ck bm cK)->br=z/\n=ck+bm) /\
    (∀ t x v,Fs t b->g t=some x->T[t]?=some v->R w I (dO w T g) x v (Fs t)->∃ q br ck cs' hX,x.at q=some (.own br ck cs')/\walk w v q=some hX/\hX.ownBlock=some b/\ck * br<=n * z):=by
   rcases dp with ⟨cs,av⟩ | ⟨fO,kg,lh,m1,adB,cs,av,az,BE⟩
   ·-- the base is a row of a tree
    obtain ⟨p7,p_,gq,hh,l3⟩:=h.part av (by simp);rw [Iw] at gq;cases gq;have mw:t0=p.root:=h.et _ _ _ sq (l3 b (hh.pX b iV));obtain ⟨ez,jC⟩:∃ ez,g p.root=some ez:=by
     unfold bu at av;cases j:g p.root with
     | none=>rw [j] at av; cases av
     | some x=>exact ⟨x,rfl⟩
    have q':ez.at p.path=some (.own z n cs):=by simpa [bu,jC] using av
    have kU:∀ br gn ck bm cK,g p.root≠some (.bC br gn ck bm cK):=by
     intro br gn ck bm cK bE;rw [jC] at bE;cases bE;have:=(ab.s9 q').2;simp at this
    obtain ⟨v0,iY,fj⟩:=h.rel _ _ jC;have H2:=fj.fS (λbr gn ck bm cK e=>kU br gn ck bm cK (by rw [jC,e]));have BO:walk w v0 p.path=some (.slice vX n vY):=by simpa [dN,iY] using Iw
    refine ⟨λq=>q=p,?_,?_,?_,?_,?_⟩
    ·intro q br ck cs' mb ba su wz;obtain ⟨QA,GC,u3,H6,HT⟩:=h.part ba (by simp);rw [su] at u3;cases u3;have aj:q.root=p.root:=(h.et _ _ _ (HT b (H6.pX b wz)) sq).trans mw;have A6:ez.at q.path=some (.own br ck cs'):=by simpa [bu,aj,jC] using ba
     have Jl:walk w v0 q.path=some mb:=by simpa [dN,aj,iY] using su
     have:=R.J' q.path p.path H2 A6 q' Jl BO wz iV;cases q; cases p; simp_all
    ·rintro q rfl t br ck bm cK bE; exact absurd bE (eN t br ck bm cK)
    ·intro t br gn ck bm cK hV bE;have:t=p.root:=(h.et _ _ _ hV sq).trans mw;rw [this] at bE;exact absurd bE (kU _ _ _ _ _)
    ·intro br gn ck bm cK _ bE; exact absurd bE (kU _ _ _ _ _)
    ·intro t x v hV j hv aV;have:t=p.root:=(h.et _ _ _ hV sq).trans mw;subst this;rw [jC] at j; cases j;rw [iY] at hv; cases hv;exact ⟨_,_,_,_,_,q',BO,iV,Nat.le_refl _⟩
   ·-- the base is behind an append itself
    obtain ⟨v0,iY,BM,fj⟩:=h.KN av;have WI:v0=.slice vX n vY:=by
     have:(⟨p.root,[]⟩:Place)=p:=by cases p; simp_all
     rw [this,Iw] at BM;exact (Option.some.inj BM).symm
    subst WI;obtain ⟨Se,bO,acq,ZZ,adD,fj⟩:=fj.vd;by_cases ku:Se.ownBlock=some b
    ·obtain ⟨⟨aw,Mu,Oh,rfl⟩,_⟩:=fj.j_;obtain ⟨mb,GC,su,H6,HT⟩:=h.part BE (by simp);rw [Oh] at su;cases su;have mw:t0=kg.root:=h.et _ _ _ sq (HT b (H6.pX b ku));obtain ⟨ez,jC⟩:∃ ez,g kg.root=some ez:=by
      unfold bu at BE;cases j:g kg.root with
      | none=>rw [j] at BE; cases BE
      | some x=>exact ⟨x,rfl⟩
     have q':ez.at kg.path=some (.own z lh cs):=by simpa [bu,jC] using BE
     have kU:∀ br gn ck bm cK,g kg.root≠some (.bC br gn ck bm cK):=by
      intro br gn ck bm cK bE;rw [jC] at bE;cases bE;have:=(ab.s9 q').2;simp at this
     obtain ⟨v1,my,q_⟩:=h.rel _ _ jC;have UX:=q_.fS (λbr gn ck bm cK e=>kU br gn ck bm cK (by rw [jC,e]));have BO:walk w v1 kg.path=some (.slice aw lh Mu):=by simpa [dN,my] using Oh
     refine ⟨λq=>q=kg,?_,?_,?_,?_,?_⟩
     ·intro q br ck cs' mb ba su wz;obtain ⟨QA,Q3,u3,H7,HU⟩:=h.part ba (by simp);rw [su] at u3;cases u3;have aj:q.root=kg.root:=(h.et _ _ _ (HU b (H7.pX b wz)) sq).trans mw;have A6:ez.at q.path=some (.own br ck cs'):=by simpa [bu,aj,jC] using ba
      have Jl:walk w v1 q.path=some mb:=by simpa [dN,aj,my] using su
      have:=R.J' q.path kg.path UX A6 q' Jl BO wz ku;cases q; cases kg; simp_all
     ·rintro q rfl t br ck bm cK bE; exact ⟨h.qC _ _ _ _ _ _ _ _ _ _ _ bE av,fO⟩
     ·intro t br gn ck bm cK hV bE;have:t=kg.root:=(h.et _ _ _ hV sq).trans mw;rw [this] at bE;exact absurd bE (kU _ _ _ _ _)
     ·intro br gn ck bm cK _ bE;rw [av] at bE; cases bE; exact ⟨rfl,az⟩
     ·intro t x v hV j hv aV;have:t=kg.root:=(h.et _ _ _ hV sq).trans mw;subst this;rw [jC] at j; cases j;rw [my] at hv; cases hv;exact ⟨_,_,_,_,_,q',BO,ku,Nat.mul_le_mul_right _ (by omega)⟩
    ·have mU:Fs p.root b:=(fj.aE b).2 ⟨iV,ku⟩;have mw:t0=p.root:=h.et _ _ _ sq mU;refine ⟨λ_=>False,?_,λ_ h=>h.elim,?_,?_,?_⟩
     ·intro q br ck cs' mb ba su wz;obtain ⟨QA,Q3,u3,H7,HU⟩:=h.part ba (by simp);rw [su] at u3;cases u3;have aj:q.root=p.root:=h.et _ _ _ (HU b (H7.pX b wz)) mU;unfold bu at ba;rw [aj,av] at ba;have:=(ab.s9 ba).2;simp at this
     ·intro t br gn ck bm cK hV _; exact ⟨h.et _ _ _ hV mU,fO⟩
     ·intro br gn ck bm cK _ bE;rw [av] at bE; cases bE; exact ⟨rfl,az⟩
     ·intro t x v hV j hv aV;have:t=p.root:=h.et _ _ _ hV mU;subst this;rw [av] at j; cases j;exact aV.kU.elim
  obtain ⟨N,Ns,Nt,Nu,UR,US⟩:=home
  -- rows of pends
  have pends:∀ t br gn ck bm cK v yt bZ tf im Fh,g t=some (.bC br gn ck bm cK)->T[t]?=some v->GF w I (dO w T g) br gn ck bm cK v (Fs t) yt bZ tf im Fh ->
    (v.ownBlock=some b->(ck+bm) * br<=n * z)/\(yt.ownBlock=some b->ck * br<=n * z):=by
   intro t br gn ck bm cK v yt bZ tf im Fh aI hv aV;by_cases ak:t=p.root/\p.path=[]
   ·obtain ⟨rfl,fO⟩:=ak;obtain ⟨rfl,rfl⟩:=UR _ _ _ _ _ fO aI;exact ⟨λ_=>Nat.le_refl _,λ_=>Nat.mul_le_mul_right _ (by omega)⟩
   ·have qk:yt.ownBlock≠some b:=by
     intro kt;obtain ⟨⟨a2,q0,Oi,rfl⟩,We⟩:=aV.j_;rcases We with ⟨cs2,af⟩ | ⟨aH,C5,adA,m3,adC,acm,af,aJ,bo⟩
     ·exact ak (Nt gn (Ns gn _ _ _ _ af Oi kt) t _ _ _ _ aI)
     ·obtain ⟨v2,qq,Of,l4⟩:=h.KN af;have wM:(⟨gn.root,[]⟩:Place)=gn:=by cases gn; simp_all
      rw [wM,Oi] at Of;cases Of;have N8:gn.root=p.root/\p.path=[]->False:=by
       rintro ⟨aj,fO⟩;have:gn=p:=by cases gn; cases p; simp_all
       exact eN t br ck bm cK (this ▸ aI)
      obtain ⟨Sf,e1,acs,adP,adE,l4⟩:=l4.vd;by_cases pC:Sf.ownBlock=some b
      ·obtain ⟨⟨a4,aaF,WL,rfl⟩,_⟩:=l4.j_;exact N8 (Nt C5 (Ns C5 _ _ _ _ bo WL pC) _ _ _ _ _ af)
      ·exact N8 (Nu _ _ _ _ _ _ ((l4.aE b).2 ⟨kt,pC⟩) af)
    refine ⟨λBN=>?_,λkt=>absurd kt qk⟩;exact absurd (Nu _ _ _ _ _ _ ((aV.aE b).2 ⟨BN,qk⟩) aI) ak
  -- trees
  have aN:=h.jm;have trees:∀ t x v (ρ':ab->Value->Prop),(∀ x v,dO w T g x v->ρ' x v)->g t=some x->T[t]?=some v->R w I (dO w T g) x v (Fs t)->R w' I ρ' x v (Fs t)/\∀ r y,x.at r=some y->walk w' v r=walk w v r:=by
   intro t x v ρ' lf j hv aV;by_cases hV:Fs t b
   ·obtain ⟨q,br,ck,cs',hX,h1,af,aJ,bo⟩:=US t x v hV j hv aV;exact aV.spare s bb lf h1 af aJ bo
   ·have same:∀ c,Fs t c->w'.heap[c]?=w.heap[c]?:=λc J=>s.other c (aN t c J) λe=>hV (e ▸ J);exact ⟨aV.frame (λc J=>s.other c (bb c J).1 (bb c J).2) (λ_ h=>h) lf same,λr y aj=>R.o8 r aV aj same⟩
  have val:∀ q y,bu g q=some y->dN w' T q=dN w T q:=by
   intro q y ba;unfold bu at ba;cases j:g q.root with
   | none=>rw [j] at ba; cases ba
   | some x =>
    rw [j] at ba;obtain ⟨v,hv,aV⟩:=h.rel _ _ j;cases aV with
    | tree aV=>have:=(trees _ x v _ (λ_ _ h=>h) j hv aV).2 q.path y ba; simp [dN,hv,this]
    | bC aV=>simp [dN,hv,(ab.s9 ba).1,walk]
  have slot:∀ {q:Place}{x:ab},q.path=[]->g q.root=some x->dN w' T q=dN w T q:=by
   intro q x ba j;obtain ⟨v,hv,_⟩:=h.rel _ _ j;simp [dN,ba,walk]
  have refs:∀ r v,dO w T g r v->dO w' T g r v:=by
   rintro r v ⟨h1,af⟩;refine ⟨?_,af⟩;cases r <;> simp only [fL,gG] at h1 af ⊢
   case ptr q k=>obtain ⟨y,ai,_⟩:=af; rw [val q y ai]; exact h1
   case bn br q ck =>
    rcases af with ⟨_,_,af,_⟩ | ⟨aH,_,_,_,_,af,_⟩
    ·rw [val q _ af]; exact h1
    ·rw [slot aH af]; exact h1
   case sub br q lo ck=>obtain ⟨_,_,af,_⟩:=af; rw [val q _ af]; exact h1
   case ha q=>obtain ⟨_,af⟩:=af; rw [val q _ af]; exact h1
   case bC br q ck bm cK =>
    rcases af with ⟨_,af⟩ | ⟨aH,_,_,_,_,_,af,_⟩
    ·rw [val q _ af]; exact h1
    ·rw [slot aH af]; exact h1
  refine ⟨⟨λt x j=>?_,h.kA,h.et,h.bc,λc J=>Nat.lt_of_lt_of_le (h.lt c J) A.ei.size,h.qC,cw.keep h.hd (λc J=>s.other c (bb c J).1 (bb c J).2) λ_ h=>h⟩,refs⟩;obtain ⟨v,hv,aV⟩:=h.rel t x j;refine ⟨v,hv,?_⟩;cases aV with
  | tree aV=>exact .tree (trees t x v _ refs j hv aV).1
  | @bC br ck bm gn cK _ yt bZ tf im Fh _ aV =>
   obtain ⟨ek,o0⟩:=pends t _ _ _ _ _ v yt bZ tf im Fh j hv aV;refine .bC ⟨refs _ _ aV.j_,s.row aV.iB o0,s.row aV.m' ek,aV.ah,aV.h1,λk x u j hu=>?_,aV.aE⟩;exact (aV.aj k x u j hu).frame (λc J=>s.other c (bb c J).1 (bb c J).2) (λ_ h=>h) refs λc J=>J.elim
end
end Go.Own
namespace Go.Own
open Go
set_option linter.unusedSectionVars false
variable [cw]
def uh (w:World) (I:a6) (T:Array Value) (g:aG) (Fs:Nat->a6) (x:ab) (v:Value) (w':World):Prop :=
 ∃ F I',cB w' I' T g Fs/\jb w' I' (dO w' T g) x v F/\(∀ t c,F c->¬ Fs t c)/\(∀ c,F c->w.heap.size<=c/\¬ I' c)/\(∀ c,I c->I' c)/\(∀ c,I' c->I c\/w.heap.size<=c)/\Fr w w' (λc=>∃ t,Fs t c)/\(∀ z p n m new,x=.bC z p n m new->∀ t br ck bm cK,g t≠some (.bC br p ck bm cK))
inductive Src (g:aG):ab->Nat->Nat->List ab->Prop
 | bc {z m:Nat}{cs:List ab}:Src g (.bc z m cs) z m cs
 | bf {z:Nat}:Src g .bf z 0 []
 | bn {z m N:Nat}{q:Place}{cs:List ab}(ba:bu g q=some (.own z N cs)) (hm:m<=N):Src g (.bn z q m) z m ((cs.take (m * z)).mapIdx λi x=>fA 0 (q.push i) x)
 | sub {z lo m N:Nat}{q:Place}{cs:List ab}(ba:bu g q=some (.own z N cs)) (hm:lo+m<=N):Src g (.sub z q lo m) z m (((cs.drop (lo * z)).take (m * z)).mapIdx λi x=>fA 0 (q.push (lo * z+i)) x)
def jt (P:Program) (t e:TypeId) (z b:Nat):Bool :=
 match P.underlying t,P.info? e with
 | some (.slice bZ),some i=>bZ == e&&i.size == z&&i.bytes == b&&z != 0&&(match i.zero with | some v=>v.cells.size == z | none=>false)
 | _,_=>false
section
variable {P:Program}{w:World}{I:a6}{T:Array Value}{g:aG}{Fs:Nat->a6}
theorem L0 {t e:TypeId}{z b:Nat}(h:jt P t e z b=true):∃ i dh,P.underlying t=some (.slice e)/\P.info? e=some i/\i.size=z/\i.bytes=b/\0<z/\i.zero=some dh/\dh.cells.size=z:=by
 unfold jt at h;cases hu:P.underlying t with
 | none=>simp [hu] at h
 | some d =>
  cases hi:P.info? e with
  | none=>cases d <;> simp [hu,hi] at h
  | some i =>
   cases d <;> simp [hu,hi] at h;obtain ⟨⟨⟨⟨rfl,h1⟩,af⟩,aJ⟩,bo⟩:=h;cases aS:i.zero with
   | none=>simp [aS] at bo
   | some dh=>simp [aS] at bo; exact ⟨i,dh,rfl,rfl,h1,af,by omega,aS,bo⟩
theorem Src.sound (h:cB w I T g Fs) {y:ab}{v:Value}{z m:Nat}{cells:List ab}(ax:Src g y z m cells) (aV:R w I (dO w T g) y v cb) :
  ∃ (a:Option Addr) (c:Nat) (news:List Value),v=.slice a m c/\news.length=m * z/\(0<m->0<z->a.isSome=true)/\(∀ ad,a=some ad->∀ (aa:Nat) (u:Value),news[aa]?=some u->w.cell? (ad.add aa)=some u)/\Cells w I (dO w T g) cells news:=by
 have Ph:∀ {q:Place}{N:Nat}{cs:List ab}(lo:Nat) {a:Option Addr}{cap:Nat},bu g q=some (.own z N cs)->dN w T q=some (.slice a N cap)->lo+m<=N ->
   ∃ news:List Value,news.length=m * z/\(∀ ad,a=some ad->∀ (aa:Nat) (u:Value),news[aa]?=some u->w.cell? ⟨ad.block,lo * z+aa,none⟩=some u)/\Cells w I (dO w T g) (((cs.drop (lo * z)).take (m * z)).mapIdx λi x=>fA 0 (q.push (lo * z+i)) x) news/\(0<m->0<z->∃ b,a=some ⟨b,0,none⟩):=by
  intro q N cs lo a cap ba hv hm;obtain ⟨dJ,cp,iD,dA,_⟩:=h.part ba (by simp);rw [hv] at iD;cases iD;obtain ⟨b3,mj,iC,_,hlen,qn,_⟩:=dA.mE;cases iC;have acU:lo * z+m * z<=cs.length:=by rw [hlen,<- Nat.add_mul]; exact Nat.mul_le_mul_right _ hm
  have cell:∀ aa,aa<m * z->∃ b gi kG,a=some ⟨b,0,none⟩/\w.cell? ⟨b,lo * z+aa,none⟩=some gi/\gi.oneCell'=true/\cs[lo * z+aa]?=some kG/\R w I (dO w T g) (fA 0 (q.push (lo * z+aa)) kG) gi cb:=by
   intro aa ag;have fG:cs[lo * z+aa]?=some cs[lo * z+aa]:=List.getElem?_eq_getElem (by omega);obtain ⟨b,gi,fr,jy,mX,fy,bK,jW⟩:=dA.node (.inl rfl) fG;refine ⟨b,gi,_,?_,jy,fy,fG,FI 0 (by rw [s8,ba]; simp [ab.kids]) (by rw [xN,hv]; exact mX) jW⟩;cases a with
   | none=>simp [addrOf] at fr
   | some ad=>simp only [addrOf] at fr; rw [Option.some.inj fr]
  have tA:∃ news:List Value,news.length=m * z/\∀ aa,aa<m * z->∃ b gi kG,news[aa]?=some gi/\a=some ⟨b,0,none⟩/\w.cell? ⟨b,lo * z+aa,none⟩=some gi/\gi.oneCell'=true/\cs[lo * z+aa]?=some kG/\R w I (dO w T g) (fA 0 (q.push (lo * z+aa)) kG) gi cb:=by
   refine ⟨(List.range (m * z)).map λaa=>(w.cell? ⟨(a.map (·.block)).getD 0,lo * z+aa,none⟩).getD undef,by simp,λaa ag=>?_⟩;obtain ⟨b,gi,kG,h1,af,aJ,bo,cu⟩:=cell aa ag;refine ⟨b,gi,kG,?_,h1,af,aJ,bo,cu⟩;rw [List.getElem?_map,List.getElem?_range ag,h1];simp [af]
  obtain ⟨news,ah,az⟩:=tA;refine ⟨news,ah,λad fr aa u ag=>?_,⟨?_,λaa u ag=>?_,λaa x u j ag=>?_⟩,λyU B2=>?_⟩
  ·obtain ⟨b,gi,kG,h1,af,aJ,_⟩:=az aa (by rw [<- ah]; exact (List.getElem?_eq_some_iff.1 ag).1);rw [h1] at ag; cases ag;rw [fr] at af; cases af;exact aJ
  ·simp; omega
  ·obtain ⟨b,gi,kG,h1,af,aJ,bo,_⟩:=az aa (by rw [<- ah]; exact (List.getElem?_eq_some_iff.1 ag).1);rw [h1] at ag; cases ag; exact bo
  ·obtain ⟨b,gi,kG,h1,af,aJ,bo,cu,dC⟩:=az aa (by rw [<- ah]; exact (List.getElem?_eq_some_iff.1 ag).1);rw [h1] at ag; cases ag;rw [List.getElem?_mapIdx,List.getElem?_take] at j
   split at j
   ·rw [List.getElem?_drop,cu] at j;simp only [Option.map_some,Option.some.injEq] at j;rw [<- j]; exact dC
   ·cases j
  ·obtain ⟨b,_,_,h1,_⟩:=cell 0 (Nat.mul_pos yU B2);exact ⟨b,h1⟩
 cases ax with
 | bc =>
  obtain ⟨a,cap,rfl,_,hlen,hm⟩:=aV.y4;by_cases aH:cells≠[]\/0<m
  ·obtain ⟨ad,us,rfl,bb,j',fy,J,aj⟩:=hm aH;refine ⟨_,cap,(List.range cells.length).map us,rfl,by simp [hlen],by simp,λRw fr aa u ag=>?_,⟨by simp,λaa u ag=>?_,λaa x u j ag=>?_⟩⟩
   ·cases fr;rw [List.getElem?_map] at ag;by_cases eW:aa<cells.length
    ·rw [List.getElem?_range eW] at ag;simp only [Option.map_some,Option.some.injEq] at ag;obtain ⟨b,o,sp⟩:=ad;simp only at j';subst j';rw [add_eq,<- ag];exact J aa _ (List.getElem?_eq_getElem eW)
    ·rw [List.getElem?_eq_none (by simp; omega)] at ag; cases ag
   ·rw [List.getElem?_map] at ag;by_cases eW:aa<cells.length
    ·rw [List.getElem?_range eW] at ag;simp only [Option.map_some,Option.some.injEq] at ag;rw [<- ag];exact fy aa _ (List.getElem?_eq_getElem eW)
    ·rw [List.getElem?_eq_none (by simp; omega)] at ag; cases ag
   ·rw [List.getElem?_map] at ag;have eW:aa<cells.length:=(List.getElem?_eq_some_iff.1 j).1;rw [List.getElem?_range eW] at ag;simp only [Option.map_some,Option.some.injEq] at ag;rw [<- ag];exact aj aa x j
  ·have yU:m=0:=by omega
   have Ix:cells=[]:=Classical.byContradiction λe=>aH (.inl e);subst yU Ix;exact ⟨a,cap,[],rfl,by simp,by simp,by simp,by simp [Cells]⟩
 | bf =>
  rw [aV.pT];exact ⟨none,0,[],rfl,by simp,by simp,by simp,by simp [Cells]⟩
 | @bn _ _ N q cs ba hm =>
  obtain ⟨⟨a,iv,cap,h1,rfl,aJ⟩,bo⟩:=aV.mB;obtain ⟨dJ,cp,iD,dA,_⟩:=h.part ba (by simp);obtain ⟨b3,mj,iC,_⟩:=dA.mE;rw [h1] at iD;cases iD;cases iC;obtain ⟨news,ah,J,gl,aQ⟩:=Ph 0 ba h1 (by omega);simp only [Nat.zero_mul,List.drop_zero,Nat.zero_add] at gl J;refine ⟨a,cap,news,rfl,ah,λaH Ep=>by obtain ⟨b,rfl⟩:=aQ aH Ep; rfl,λad fr aa u ag=>?_,gl⟩;have tx:=J ad fr aa u ag;by_cases aH:0<m/\0<z
  ·obtain ⟨b,au⟩:=aQ aH.1 aH.2;rw [fr] at au; cases au;rw [add_eq]; simpa using tx
  ·have:m * z=0:=by
    rcases Nat.eq_zero_or_pos m with h | h
    ·simp [h]
    ·rcases Nat.eq_zero_or_pos z with aL | aL
     ·simp [aL]
     ·exact absurd ⟨h,aL⟩ aH
   have:=(List.getElem?_eq_some_iff.1 ag).1;omega
 | @sub _ lo _ N q cs ba hm =>
  obtain ⟨⟨a,iv,cap,b3,mj,h1,rfl,_,aJ,cu⟩,bo⟩:=aV.wZ;obtain ⟨dJ,cp,iD,dA,_⟩:=h.part ba (by simp);obtain ⟨a2,q0,iC,_⟩:=dA.mE;rw [h1] at iD;cases iD;cases iC;obtain ⟨news,ah,J,gl,aQ⟩:=Ph lo ba h1 hm;refine ⟨b3,mj,news,rfl,ah,λaH _=>by obtain ⟨ad,_,rfl⟩:=cu aH; rfl,λad fr aa u ag=>?_,gl⟩;have aN:=(List.getElem?_eq_some_iff.1 ag).1;have aH:0<m:=(Nat.eq_zero_or_pos m).elim (λh=>by rw [h] at ah; omega) id

  have aS:0<z:=(Nat.eq_zero_or_pos z).elim (λh=>by rw [h] at ah; omega) id

  obtain ⟨Rw,dC,jh⟩:=cu aH;obtain ⟨b,au⟩:=aQ aH aS;rw [dC] at au; cases au;rw [fr] at jh; cases jh;have tx:=J _ dC aa u ag;rw [add_eq]; simpa using tx
end
end Go.Own
namespace Go.Own
open Go
set_option linter.unusedSectionVars false
variable [cw]
inductive Al (P:Program) (g:aG):Op->TypeId->ab->Prop
 | grow {s x:Operand}{t e ty:TypeId}{z b n m:Nat}{p:Place}{y:ab}{cells:List ab}(ax:bj g s=some (.bn z p n)) (dp:gG g (.bC z p n 0 [])) (eN:∀ t br ck bm cK,g t≠some (.bC br p ck bm cK))
   (j:bj g x=some y) (rl:Src g y z m cells) (ak:jt P t e z b=true) (mS:n+m<=4611686018427387904) (au:(n+m) * b<=140737488355328) :
   Al P g (.call { callee:=.builtin .append,args:=#[s,x],argTypes:=#[t,t] }) ty (.bC z p n m cells)
 | nil {s x:Operand}{t e ty:TypeId}{z b m:Nat}{y:ab}{cells:List ab}(ax:bj g s=some .bf)
   (j:bj g x=some y) (rl:Src g y z m cells) (ak:jt P t e z b=true) (mS:m<=4611686018427387904) (au:m * b<=140737488355328) :
   Al P g (.call { callee:=.builtin .append,args:=#[s,x],argTypes:=#[t,t] }) ty (.own z m cells)
inductive b5 (P:Program) (g:aG):Op->TypeId->ab->Prop
 | ek {op:Op}{ty:TypeId}{x:ab}(h:cS P g op ty x):b5 P g op ty x
 | o0 {op:Op}{ty:TypeId}{x:ab}(h:nw P g op ty x):b5 P g op ty x
 | Cx {op:Op}{ty:TypeId}{x:ab}(h:um P g op ty x):b5 P g op ty x
 | lj {op:Op}{ty:TypeId}{x:ab}(h:Al P g op ty x):b5 P g op ty x
section
variable {P:Program}{w:World}{I:a6}{T:Array Value}{g:aG}{Fs:Nat->a6}
theorem Cells.frame {w':World}{cells:List ab}{news:List Value}(J:Cells w I (dO w T g) cells news) (bb:∀ c,I c->w'.heap[c]?=w.heap[c]?) (aj:∀ r v,dO w T g r v->dO w' T g r v):Cells w' I (dO w' T g) cells news :=
 ⟨J.1,J.2.1,λk x u j hu=>(J.2.2 k x u j hu).frame bb (λ_ h=>h) aj λ_ h=>h.elim⟩
theorem Al.sound (h:cB w I T g Fs) {a:Act}(aQ:a.tmps=T) {o:Oper}{kl:ab}(av:Al P g o.op o.type kl) :
  ∃ v w',(execOp a.eval o).run P w=.ok (.value v) w'/\uh w I T g Fs kl v w':=by
 obtain ⟨dst,op,ty,pos,after,guard⟩:=o;simp only at av;cases av with
 | @grow s x t e _ z b n m p y cells ax dp eN j rl ak mS au =>
  obtain ⟨i,dh,hu,hi,rfl,rfl,aH,aS,og⟩:=L0 ak;obtain ⟨⟨vX,N,vY,h1,af,aJ⟩,bo⟩:=(kB h ax aQ).mB;obtain ⟨Db,KF,news,u0,ah,BH,Je,gl⟩:=rl.sound h (kB h j aQ)
  -- the row of the base
  have jB:N=n/\∃ bZ us,w.ownsRow 0 bZ i.size (.slice vX n vY) n us:=by
   rcases dp with ⟨cs,av⟩ | ⟨fO,q,gr,m0,new,cs,av,rfl,_⟩
   ·obtain ⟨dJ,cp,iD,dA,_⟩:=h.part av (by simp);rw [h1] at iD;cases iD;obtain ⟨b3,mj,iC,_⟩:=dA.mE;cases iC;cases dA with
    | own aM=>exact ⟨rfl,_,_,aM⟩
    | ref j=>simp [ab.isRef] at j
   ·obtain ⟨v0,iY,BM,fj⟩:=h.KN av;have ba:(⟨p.root,[]⟩:Place)=p:=by cases p; simp_all
    rw [ba,h1] at BM;cases BM;obtain ⟨bv,bO,b7,us,adF,fj⟩:=fj.vd;have a8:N=gr+m0:=by
     obtain ⟨_,bE⟩:=fj.m';rcases bE with ⟨bE,az⟩ | ⟨g,cap,cur,bE,_⟩
     ·cases bE; omega
     ·cases bE; rfl
    subst a8;exact ⟨rfl,_,_,fj.m'⟩
  obtain ⟨rfl,bZ,us,iB⟩:=jB;have j_:dO w T g (.bC i.size p N 0 []) (.slice vX N vY):=⟨⟨vX,vY,h1,rfl⟩,dp⟩;obtain ⟨dJ,w',b7,gY,A⟩:=PN (P:=P) (w:=w) t ty e bZ i dh hu hi aS og aH iB (a:=Db) (c:=KF) (m:=m) (news:=news) (λhm=>BH hm aH) ah Je (λu hu=>by
   obtain ⟨k,hk,rfl⟩:=List.mem_iff_getElem.1 hu;exact gl.2.1 k _ (List.getElem?_eq_getElem hk)) (by unfold maxLen; omega) au
  obtain ⟨a_,hrefs⟩:=h.app j_ eN A;refine ⟨dJ,w',by simp [execOp,resolve,invoke,builtin,af,u0,gY],(λc=>dJ.ownBlock=some c/\(Value.slice vX N vY).ownBlock≠some c),I,a_,?_,?_,?_,λ_ h=>h,λ_ h=>.inl h,?_,?_⟩
  ·have bb:∀ c,I c->w'.heap[c]?=w.heap[c]?:=by
    intro c J;refine A.ei.block c (h.lt c J) λau=>?_;obtain ⟨t,ak⟩:=h.D1 j_ c au;exact h.bc t c ak J
   have kP:=gl.frame bb hrefs;exact .bC ⟨hrefs _ _ j_,A.iF,A.new,kP.1,kP.2.1,kP.2.2,λc=>Iff.rfl⟩
  ·rintro t c ⟨ig,wC⟩ aU;rcases A.fD c ig with h | aL
   ·exact wC h
   ·have:=h.jm t c aU; omega
  ·rintro c ⟨ig,wC⟩;rcases A.fD c ig with aL | aL
   ·exact absurd aL wC
   ·exact ⟨aL,λhi=>by have:=h.lt c hi; omega⟩
  ·exact A.ei.mono λc _ J=>h.D1 j_ c J
  ·intro br Ps ck bm cK he;cases he;exact eN
 | @nil s x t e _ z b m y cells ax j rl ak mS au =>
  obtain ⟨i,dh,hu,hi,rfl,rfl,aH,aS,og⟩:=L0 ak;have af:=(kB h ax aQ).pT;obtain ⟨Db,KF,news,u0,ah,BH,Je,gl⟩:=rl.sound h (kB h j aQ);obtain ⟨dJ,w',b7,gY,A⟩:=PN (P:=P) (w:=w) t ty e e i dh hu hi aS og aH (World.ownsRow_nil w 0 e i.size) (a:=Db) (c:=KF) (m:=m) (news:=news) (λhm=>BH hm aH) ah Je (λu hu=>by
   obtain ⟨k,hk,rfl⟩:=List.mem_iff_getElem.1 hu;exact gl.2.1 k _ (List.getElem?_eq_getElem hk)) (by unfold maxLen; omega) (by simpa using au)
  have same:∀ c,c<w.heap.size->w'.heap[c]?=w.heap[c]?:=λc J=>A.ei.block c J (by simp [Value.ownBlock]);have ri:=A.new;simp only [Nat.zero_add,List.nil_append] at ri;have kP:=gl.frame (λc J=>same c (h.lt c J)) λr v aj=>h.FJ (λ_ _=>rfl) (λt c J=>same c (h.jm t c J)) (λ_ _ h=>h) aj;have hblk:∀ c,dJ.ownBlock=some c->w.heap.size<=c:=λc J=>(A.fD c J).elim (λh=>by simp [Value.ownBlock] at h) id;refine ⟨dJ,w',by simp [execOp,resolve,invoke,builtin,af,u0,gY],(λc=>dJ.ownBlock=some c),I,h.world (λt c J=>same c (h.jm t c J)) (λc J=>same c (h.lt c J)) A.ei.size,?_,?_,λc J=>⟨hblk c J,λhi=>by have:=h.lt c hi; have:=hblk c J; omega⟩,λ_ h=>h,λ_ h=>.inl h,?_,?_⟩
  ·exact .tree (.own (Fs:=λ_=>cb) ri kP.1 kP.2.1 kP.2.2 (λ_ _ _ _ _ h=>h.elim) (λ_ _ _ h=>h.elim) λc=>⟨.inl,λh=>h.elim id λ⟨_,_,h⟩=>h.elim⟩)
  ·intro t c J aU; have:=hblk c J; have:=h.jm t c aU; omega
  ·exact A.ei.mono λc _ J=>by simp [Value.ownBlock] at J
  ·intro br Ps ck bm cK he; cases he
theorem b5.sound (h:cB w I T g Fs) {a:Act}(aQ:a.tmps=T) {o:Oper}{kl:ab}(av:b5 P g o.op o.type kl) :
  ∃ v w',(execOp a.eval o).run P w=.ok (.value v) w'/\uh w I T g Fs kl v w':=by
 have Cn:∀ {v:Value}{F:a6},R w I (dO w T g) kl v F->∀ z p n m new,kl=.bC z p n m new->∀ t br ck bm cK,g t≠some (.bC br p ck bm cK):=by
  rintro v F aV z p n m new rfl;exact aV.kU.elim
 cases av with
 | ek av =>
  obtain ⟨v,aj,aV⟩:=av.sound h aQ;exact ⟨v,w,aj,cb,I,h,.tree aV,λ_ _ h=>h.elim,λ_ h=>h.elim,λ_ h=>h,λ_ h=>.inl h,Fr.refl _ _,Cn aV⟩
 | Cx av =>
  obtain ⟨v,aj,aV⟩:=av.sound h aQ;exact ⟨v,w,aj,cb,I,h,.tree aV,λ_ _ h=>h.elim,λ_ h=>h.elim,λ_ h=>h,λ_ h=>.inl h,Fr.refl _ _,Cn aV⟩
 | o0 av =>
  obtain ⟨v,rG,aj,aV⟩:=av.sound h aQ;refine ⟨v,_,aj,_,I,h.alloc rG,.tree aV,λt c J aU=>?_,λc J=>⟨by rw [J]; exact Nat.le_refl _,λhi=>by have:=h.lt c hi; omega⟩,λ_ h=>h,λ_ h=>.inl h,Fr.alloc w rG _ (by
   obtain ⟨o,h1,af⟩:=aV.YC w.heap.size rfl;rw [ph] at h1;cases h1;exact af),?_⟩
  ·have:=h.jm t c aU; omega
  ·rintro z p n m new rfl; exact aV.kU.elim
 | lj av=>exact av.sound h aQ
end
end Go.Own
namespace Go.Own
open Go
set_option linter.unusedSectionVars false
variable [cw]
inductive cE:ab->Prop
 | lit {v:Value}:cE (.lit v)
 | bf:cE .bf
 | dead:cE .dead
 | self {k:Nat × Nat}:cE (.self k)
 | bc {z n:Nat}{cs:List ab}(h:∀ x∈cs,cE x):cE (.bc z n cs)
 | own {z n:Nat}{cs:List ab}(h:∀ x∈cs,cE x):cE (.own z n cs)
 | obj {cs:List ab}(h:∀ x∈cs,cE x):cE (.obj cs)
 | agg {cs:List ab}(h:∀ x∈cs,cE x):cE (.agg cs)
 | bN {cs:List ab}(h:∀ x∈cs,cE x):cE (.bN cs)
 | cJ {cs:List ab}(h:∀ x∈cs,cE x):cE (.cJ cs)
 | c7 {fn:Fn}{a b:List ab}(h1:∀ x∈a,cE x) (af:∀ x∈b,cE x):cE (.c7 fn a b)
 | mp {p:Array MapEntry->Nat->Prop}:cE (.mp p)
 | dv {t:Nat}{us:List Value}:cE (.dv t us)
 | imp {p:Array MapEntry->Nat->Prop}:cE (.imp p)
inductive jN:ab->Prop
 | lit {v:Value}:jN (.lit v)
 | bf:jN .bf
 | dead:jN .dead
 | self {k:Nat × Nat}:jN (.self k)
 | own {z n:Nat}{cs:List ab}(h:∀ x∈cs,jN x):jN (.own z n cs)
 | obj {cs:List ab}(h:∀ x∈cs,jN x):jN (.obj cs)
 | agg {cs:List ab}(h:∀ x∈cs,jN x):jN (.agg cs)
 | bN {cs:List ab}(h:∀ x∈cs,jN x):jN (.bN cs)
 | mp {p:Array MapEntry->Nat->Prop}:jN (.mp p)
 | dv {t:Nat}{us:List Value}:jN (.dv t us)
theorem jN.bd {x:ab}(h:jN x):cE x:=by
 induction h with
 | lit=>exact .lit
 | bf=>exact .bf
 | dead=>exact .dead
 | self=>exact .self
 | own _ aK=>exact .own aK
 | obj _ aK=>exact .obj aK
 | agg _ aK=>exact .agg aK
 | bN _ aK=>exact .bN aK
 | mp=>exact .mp
 | dv=>exact .dv
inductive Rows (g:aG):Place->Nat->Nat->List ab->Prop
 | own {p:Place}{z n:Nat}{cs:List ab}(av:bu g p=some (.own z n cs)):Rows g p z n cs
 | bC {t z n m:Nat}{q:Place}{new cs:List ab}(ak:g t=some (.bC z q n m new)) (ba:Rows g q z n cs):Rows g ⟨t,[]⟩ z (n+m) (cs++new)
theorem Rows.mono {g g':aG}(h:∀ {p:Place}{y:ab},bu g p=some y->bu g' p=some y) {p:Place}{z n:Nat}{cs:List ab}(aj:Rows g p z n cs) (af:∀ t x,g t=some x->g' t=some x):Rows g' p z n cs:=by
 induction aj with
 | own av=>exact .own (h av)
 | bC ak _ aK=>exact .bC (af _ _ ak) aK
inductive View (g:aG):ab->ab->Prop
 | self {x:ab}(h:cE x) (j:∀ z n cs,x≠.own z n cs) (aM:∀ cs,x≠.obj cs) (aQ:∀ cs,x≠.agg cs) (ak:∀ cs,x≠.bN cs) (hm:(∀ p,x≠.mp p)/\∀ t us,x≠.dv t us):View g x x
 | mp {p:Array MapEntry->Nat->Prop}:View g (.mp p) (.imp p)
 | ha {p:Place}{q:Array MapEntry->Nat->Prop}(av:bu g p=some (.mp q)):View g (.ha p) (.imp q)
 | pW {z:Nat}:View g .bf (.bc z 0 [])
 | agg {cs cs':List ab}(ah:cs'.length=cs.length) (h:∀ (k:Nat) (x y:ab),cs[k]?=some x->cs'[k]?=some y->View g x y):View g (.agg cs) (.agg cs')
 | own {z n:Nat}{cs cs':List ab}(ah:cs'.length=cs.length) (h:∀ (k:Nat) (x y:ab),cs[k]?=some x->cs'[k]?=some y->View g x y):View g (.own z n cs) (.bc z n cs')
 | obj {cs cs':List ab}(ah:cs'.length=cs.length) (h:∀ (k:Nat) (x y:ab),cs[k]?=some x->cs'[k]?=some y->View g x y):View g (.obj cs) (.cJ cs')
 | bn {z n N:Nat}{p:Place}{cs cs':List ab}(av:bu g p=some (.own z N cs)) (az:n<=N) (ah:cs'.length=(cs.take (n * z)).length) (h:∀ (k:Nat) (x y:ab),(cs.take (n * z))[k]?=some x->cs'[k]?=some y->View g x y):View g (.bn z p n) (.bc z n cs')
 | sub {z lo n N:Nat}{p:Place}{cs cs':List ab}(av:bu g p=some (.own z N cs)) (az:lo+n<=N) (ah:cs'.length=((cs.drop (lo * z)).take (n * z)).length) (h:∀ (k:Nat) (x y:ab),((cs.drop (lo * z)).take (n * z))[k]?=some x->cs'[k]?=some y->View g x y):View g (.sub z p lo n) (.bc z n cs')
 | ptr {p:Place}{k z n:Nat}{y:ab}{cs cs':List ab}(av:bu g p=some y) (ai:y=.own z n cs\/y=.obj cs) (hk:k<cs.length) (ah:cs'.length=(cs.drop k).length) (h:∀ (aa:Nat) (x y:ab),(cs.drop k)[aa]?=some x->cs'[aa]?=some y->View g x y):View g (.ptr p k) (.cJ cs')
 | c7 {fn:Fn}{cs cs':List ab}(ah:cs'.length=cs.length) (h:∀ (k:Nat) (x y:ab),cs[k]?=some x->cs'[k]?=some y->View g x y):View g (.c7 fn [] cs) (.c7 fn [] cs')
 | rows {z n:Nat}{p:Place}{cs cs':List ab}(av:Rows g p z n cs) (ah:cs'.length=cs.length) (h:∀ (k:Nat) (x y:ab),cs[k]?=some x->cs'[k]?=some y->View g x y):View g (.bn z p n) (.bc z n cs')
section
variable {P:Program}{w:World}{I:a6}{T:Array Value}{g:aG}{Fs:Nat->a6}
theorem R.bd {ρ ρ':ab->Value->Prop}{x:ab}{v:Value}{F:a6}(h:R w I ρ x v F):cE x->R w I ρ' x v F:=by
 induction h with
 | lit h aE=>exact λ_=>.lit h aE
 | bf aE=>exact λ_=>.bf aE
 | dead aE=>exact λ_=>.dead aE
 | j1 aE=>exact λ_=>.j1 aE
 | @ref x _ _ j h aE=>intro az; cases az <;> simp [ab.isRef] at j
 | hj aE=>exact λ_=>.hj aE
 | bc aE kv bb ax ah h1 J aj aK=>exact λaz=>.bc aE kv bb ax ah h1 J λk x j=>aK k x j (by cases az with | bc h=>exact h x (List.mem_of_getElem? j))
 | cJ aE bb ax h1 J aj aK=>exact λaz=>.cJ aE bb ax h1 J λk x j=>aK k x j (by cases az with | cJ h=>exact h x (List.mem_of_getElem? j))
 | own aM ah h1 aj aO au aE aK=>exact λaz=>.own aM ah h1 (λk x u j hu=>aK k x u j hu (by cases az with | own h=>exact h x (List.mem_of_getElem? j))) aO au aE
 | obj aM ah h1 aj aO au aE ax aK=>exact λaz=>.obj aM ah h1 (λk x u j hu=>aK k x u j hu (by cases az with | obj h=>exact h x (List.mem_of_getElem? j))) aO au aE ax
 | agg ah h1 aj aO aE aK=>exact λaz=>.agg ah h1 (λk x u j hu=>aK k x u j hu (by cases az with | agg h=>exact h x (List.mem_of_getElem? j))) aO aE
 | bN ah aj aO aE aK=>exact λaz=>.bN ah (λk x u j hu=>aK k x u j hu (by cases az with | bN h=>exact h x (List.mem_of_getElem? j))) aO aE
 | mp aM av aE=>exact λ_=>.mp aM av aE
 | dv aM h1 aE=>exact λ_=>.dv aM h1 aE
 | imp aE bb aM av=>exact λ_=>.imp aE bb aM av
 | c7 aE h1 af iX hU ga fP=>exact λaz=>.c7 aE h1 af (λk x u j hu=>ga k x u j hu (by cases az with | c7 h _=>exact h x (List.mem_of_getElem? j))) (λk x u j hu=>fP k x u j hu (by cases az with | c7 _ h=>exact h x (List.mem_of_getElem? j)))
theorem R.ng {ρ:ab->Value->Prop}{I':a6}{x:ab}{v:Value}{F:a6}(h:R w I ρ x v F) (bb:∀ c,I c->I' c):R w I' ρ x v F :=
 h.frame (λ_ _=>rfl) bb (λ_ _ h=>h) λ_ _=>rfl
theorem R.kW {ρ ρ':ab->Value->Prop}{I':a6}{x:ab}{v:Value}{F:a6}(h:R w I ρ x v F):jN x->R w I' ρ' x v F:=by
 induction h with
 | lit h aE=>exact λ_=>.lit h aE
 | bf aE=>exact λ_=>.bf aE
 | dead aE=>exact λ_=>.dead aE
 | j1 aE=>exact λ_=>.j1 aE
 | @ref x _ _ j h aE=>intro az; cases az <;> simp [ab.isRef] at j
 | hj=>intro az; cases az
 | bc=>intro az; cases az
 | cJ=>intro az; cases az
 | own aM ah h1 aj aO au aE aK=>exact λaz=>.own aM ah h1 (λk x u j hu=>aK k x u j hu (by cases az with | own h=>exact h x (List.mem_of_getElem? j))) aO au aE
 | obj aM ah h1 aj aO au aE ax aK=>exact λaz=>.obj aM ah h1 (λk x u j hu=>aK k x u j hu (by cases az with | obj h=>exact h x (List.mem_of_getElem? j))) aO au aE ax
 | agg ah h1 aj aO aE aK=>exact λaz=>.agg ah h1 (λk x u j hu=>aK k x u j hu (by cases az with | agg h=>exact h x (List.mem_of_getElem? j))) aO aE
 | bN ah aj aO aE aK=>exact λaz=>.bN ah (λk x u j hu=>aK k x u j hu (by cases az with | bN h=>exact h x (List.mem_of_getElem? j))) aO aE
 | c7=>intro az; cases az
 | mp aM av aE=>exact λ_=>.mp aM av aE
 | dv aM h1 aE=>exact λ_=>.dv aM h1 aE
 | imp=>intro az; cases az
theorem R.ze {ρ:ab->Value->Prop}{z n:Nat}{cs:List ab}{v:Value}{F:a6}(h:R w I ρ (.own z n cs) v F):∃ (a:Option Addr) (cap:Nat) (us:Nat->Value) (bK:Nat->a6),v=.slice a n cap/\n<=cap/\cs.length=n * z /\
  (∀ ad,a=some ad->∃ b,ad=⟨b,0,none⟩/\F b)/\(∀ (k:Nat) (x:ab),cs[k]?=some x->∃ b,a=some ⟨b,0,none⟩/\w.cell? ⟨b,k,none⟩=some (us k)/\(us k).oneCell'=true/\R w I ρ x (us k) (bK k)/\∀ c,bK k c->F c):=by
 have aH:=h;cases h with
 | ref j=>simp [ab.isRef] at j
 | @own _ _ _ _ e us Fs _ aM ah h1 aj aO au aE =>
  obtain ⟨a,cap,rfl,az,hlen,qn,rk⟩:=aH.mE;refine ⟨a,cap,λk=>us.getD k undef,Fs,rfl,az,hlen,λad fr=>?_,λk x hk=>?_⟩
  ·obtain ⟨Bz,BA⟩:=qn ad fr;obtain ⟨b,o,sp⟩:=ad;simp only at Bz BA;subst Bz BA;exact ⟨b,rfl,(aE b).2 (.inl (by rw [fr]; rfl))⟩
  ·have aN:k<cs.length:=(List.getElem?_eq_some_iff.1 hk).1;have hu:us[k]?=some us[k]:=List.getElem?_eq_getElem (ah ▸ aN);obtain ⟨b,u,fr,jy,mX,fy,_⟩:=aH.node (.inl rfl) hk;have:a=some ⟨b,0,none⟩:=by
    cases a with
    | none=>simp [addrOf] at fr
    | some ad=>simp only [addrOf] at fr; rw [Option.some.inj fr]
   grind [ot]
theorem R.Fm {ρ:ab->Value->Prop}{y:ab}{v:Value}{F:a6}{z n:Nat}{cs:List ab}(h:R w I ρ y v F) (ai:y=.own z n cs\/y=.obj cs) {ad:Addr}(aQ:addrOf v=some ad):F ad.block:=by
 rcases ai with rfl | rfl
 ·obtain ⟨a,cap,rfl,_⟩:=h.mE;refine h.pX _ ?_;cases a with
  | none=>simp [addrOf] at aQ
  | some a=>simp only [addrOf,Option.some.injEq] at aQ; subst aQ; rfl
 ·cases h with
  | ref j=>simp [ab.isRef] at j
  | obj aM ah h1 aj aO au aE=>simp only [addrOf,Option.some.injEq] at aQ; subst aQ; exact (aE _).2 (.inl rfl)
theorem Yh {w:World}{e bZ:TypeId}{z n:Nat}{v:Value}{us im:List Value}(h:w.ownsRow 0 e z v n us) (aL:w.ownsRow 0 bZ z v n im):us=im:=by
 obtain ⟨h1,af⟩:=h;obtain ⟨aJ,bo⟩:=aL;rcases af with ⟨rfl,rfl⟩ | ⟨b,cap,cur,rfl,_,bE,_,_,_,ak⟩
 ·grind
 grind
theorem Rows.sound {ρ:ab->Value->Prop}(H1:∀ t z q n m new,g t=some (.bC z q n m new)->∃ v,T[t]?=some v/\jb w I ρ (.bC z q n m new) v (Fs t))
  (Q6:∀ p z n cs,bu g p=some (.own z n cs)->∃ v cp,dN w T p=some v/\R w I ρ (.own z n cs) v cp/\∀ c,cp c->Fs p.root c) (Ai:∀ z p n v,ρ (.bC z p n 0 []) v->dN w T p=some v) {p:Place}{z n:Nat}{cs:List ab}(h:Rows g p z n cs) :
  ∃ v e us,dN w T p=some v/\w.ownsRow 0 e z v n us/\us.length=cs.length/\(∀ (k:Nat) (u:Value),us[k]?=some u->u.oneCell'=true)/\(∀ c,v.ownBlock=some c->∃ t,Fs t c) /\
   (∀ (k:Nat) (x:ab) (u:Value),cs[k]?=some x->us[k]?=some u->∃ bK,R w I ρ x u bK/\∀ c,bK c->∃ t,Fs t c):=by
 induction h with
 | @own p z n cs av =>
  obtain ⟨v,cp,hv,aV,aE⟩:=Q6 p z n cs av;cases aV with
  | ref j=>simp [ab.isRef] at j
  | @own _ _ _ _ e us bK _ aM ah h1 aj aO au lD =>
   grind
 | @bC t z n m q new cs ak _ aK =>
  obtain ⟨v,hv,aV⟩:=H1 t z q n m new ak;obtain ⟨v0,e,us,iY,aM,ah,h1,au,aj⟩:=aK;cases aV with
  | tree aV=>exact aV.kU.elim
  | @bC _ _ _ _ _ _ bv bO b7 ZZ news _ aV =>
   have e0:=Ai _ _ _ _ aV.j_;rw [iY] at e0;cases e0;have:=Yh aM aV.iB;subst this;refine ⟨v,b7,us++news,by simp [dN,hv,walk],aV.m',by rw [List.length_append,List.length_append,ah,aV.ah],λk u hu=>?_,λc J=>?_,λk x u j hu=>?_⟩
   ·by_cases hk:k<us.length
    ·grind
    ·rw [List.getElem?_append_right (by omega)] at hu; exact aV.h1 _ u hu
   ·by_cases ra:v0.ownBlock=some c
    ·grind
    ·exact ⟨t,(aV.aE c).2 ⟨J,ra⟩⟩
   ·by_cases hk:k<us.length
    ·grind
    ·rw [List.getElem?_append_right (by omega)] at j;rw [List.getElem?_append_right (by omega),ah] at hu;exact ⟨_,aV.aj _ x u j hu,λc J=>J.elim⟩
theorem PI {ρ':ab->Value->Prop}{e:TypeId}{z n N cap:Nat}{a:Option Addr}{us:List Value}{cs cs':List ab}(aM:w.ownsRow 0 e z (.slice a N cap) n us) (hlen:us.length=cs.length) (h1:∀ (k:Nat) (u:Value),us[k]?=some u->u.oneCell'=true) (au:∀ c,(Value.slice a N cap).ownBlock=some c->∃ t,Fs t c) (ah:cs'.length=cs.length)
  (aj:∀ (k:Nat) (x y:ab) (u:Value),cs[k]?=some x->cs'[k]?=some y->us[k]?=some u->R w (λc=>I c\/∃ t,Fs t c) ρ' y u cb):R w (λc=>I c\/∃ t,Fs t c) ρ' (.bc z n cs') (.slice a n cap) cb:=by
 obtain ⟨N0,aM⟩:=aM;rcases aM with ⟨e0,aH⟩ | ⟨b,q0,cur,bO,_,bE,EK,J,ax,ak⟩
 ·cases e0;subst aH;have kP:cs'=[]:=List.eq_nil_of_length_eq_zero (by rw [ah,<- hlen,N0]; simp);subst kP;exact .hj λ_ h=>h
 ·cases bO;refine .bc (us:=λk=>us.getD k undef) (λ_ h=>h) EK (.inr (au b rfl)) rfl (by rw [ah,<- hlen,N0]) (λk y ai=>?_) (λk y ai=>?_) λk y ai=>?_
  all_goals
   have hk:k<us.length:=by rw [hlen,<- ah]; exact (List.getElem?_eq_some_iff.1 ai).1
   have hu:us[k]?=some us[k]:=List.getElem?_eq_getElem hk;have aI:us.getD k undef=us[k]:=by simp [List.getD,hu]
  ·grind
  ·rw [aI];have y1:∀ u,us[k]?=some u->w.cell? ⟨b,k,none⟩=some u:=λu y1=>by
    rw [<- ak,List.getElem?_take] at y1
    split at y1
    ·simpa [World.cell?,bE] using y1
    grind
   grind
  grind
theorem View.sound (h:cB w I T g Fs) {x x':ab}(hv:View g x x'):∀ {v:Value}{F:a6},R w I (dO w T g) x v F->(∀ c,F c->∃ t,Fs t c)->∀ ρ',R w (λc=>I c\/∃ t,Fs t c) ρ' x' v cb:=by
 induction hv with
 | pW =>
  intro v F aV aE ρ';have:=aV.pT;subst this;exact .hj λ_ h=>h
 | mp =>
  intro v F aV aE ρ';cases aV with
  | ref j=>simp [ab.isRef] at j
  | mp aM av au=>exact .imp (λ_ h=>h) (.inr (aE _ ((au _).2 rfl))) aM av
 | ha av =>
  intro v F aV aE ρ';cases aV with
  | ref _ aj _ =>
   obtain ⟨⟨b,au,rfl⟩,_⟩:=aj;obtain ⟨dJ,cp,iD,dA,di⟩:=h.part av (by simp);rw [au] at iD;cases iD;cases dA with
   | ref j=>simp [ab.isRef] at j
   | mp aM av au=>exact .imp (λ_ h=>h) (.inr ⟨_,di _ ((au _).2 rfl)⟩) aM av
 | self az h1 af aJ bo cu =>
  intro v F aV aE ρ';refine ((aV.bd az).ng λc J=>.inl J).empty ?_;cases aV with
  | mp=>exact absurd rfl (cu.1 _)
  | dv=>exact absurd rfl (cu.2 _ _)
  | lit _ aE | bf aE | dead aE | j1 aE | ref _ _ aE | hj aE | bc aE | cJ aE | c7 aE | imp aE=>exact aE
  | own=>exact absurd rfl (h1 _ _ _)
  | obj=>exact absurd rfl (af _)
  | agg=>exact absurd rfl (aJ _)
  | bN=>exact absurd rfl (bo _)
 | @agg cs cs' ah _ aK =>
  intro v F aV aE ρ';cases aV with
  | ref j=>simp [ab.isRef] at j
  | @agg _ vs bK _ ht h1 aj aO lD =>
   refine .agg (Fs:=λ_=>cb) (by rw [ah,ht]) h1 (λk y u ai hu=>?_) (λ_ _ _ _ _ h=>h.elim) (λc=>⟨λh=>h.elim,λ⟨_,_,h⟩=>h⟩);have hk:k<cs.length:=by rw [<- ah]; exact (List.getElem?_eq_some_iff.1 ai).1
   have j:=List.getElem?_eq_getElem hk;exact aK k _ y j ai (aj k _ u j hu) (λc J=>aE c ((lD c).2 ⟨k,hk,J⟩)) ρ'
 | @c7 fn cs cs' ah _ aK =>
  intro v F aV aE ρ';cases aV with
  | ref j=>simp [ab.isRef] at j
  | @c7 _ _ _ v1 v2 _ mU h1 af iX hU =>
   refine .c7 (λ_ h=>h) h1 (by rw [ah,af]) (λk x u j=>by simp at j) (λk y u ai hu=>?_);have hk:k<cs.length:=by rw [<- ah]; exact (List.getElem?_eq_some_iff.1 ai).1
   have j:=List.getElem?_eq_getElem hk;exact aK k _ y j ai (hU k _ u j hu) (λc J=>J.elim) ρ'
 | @own z n cs cs' ah _ aK =>
  intro v F aV aE ρ';obtain ⟨a,cap,us,bK,rfl,az,hlen,aQ,J⟩:=aV.ze;cases a with
  | none =>
   have gl:cs=[]:=by
    cases cs with
    | nil=>rfl
    | cons c cs=>obtain ⟨b,au,_⟩:=J 0 c rfl; cases au
   subst gl;have kP:cs'=[]:=List.eq_nil_of_length_eq_zero (by simpa using ah);subst kP;have l6:n=0:=by
    cases aV with
    | ref j=>simp [ab.isRef] at j
    | own aM =>
     obtain ⟨_,bE⟩:=aM;rcases bE with ⟨bE,aH⟩ | ⟨b,c2,cur,bE,_⟩
     ·exact aH
     ·cases bE
   subst l6;exact .hj λ_ h=>h
  | some ad =>
   obtain ⟨b,rfl,iz⟩:=aQ ad rfl;refine .bc (us:=us) (λ_ h=>h) az (.inr (aE b iz)) rfl (by rw [ah,hlen]) (λk y ai=>?_) (λk y ai=>?_) λk y ai=>?_
   all_goals
    have hk:k<cs.length:=by rw [<- ah]; exact (List.getElem?_eq_some_iff.1 ai).1
    have j:=List.getElem?_eq_getElem hk;obtain ⟨ix,kt,h1,af,aJ,bo⟩:=J k _ j;cases kt
   ·exact af
   ·simpa using h1
   ·exact aK k _ y j ai aJ (λc J=>aE c (bo c J)) ρ'
 | @obj cs cs' ah _ aK =>
  intro v F aV aE ρ';cases aV with
  | ref j=>simp [ab.isRef] at j
  | @obj _ b e arr bK _ aM ht h1 aj aO au lD =>
   refine .cJ (us:=λk=>arr.getD k undef) (λ_ h=>h) (.inr (aE b ((lD b).2 (.inl rfl)))) rfl (λk y ai=>?_) (λk y ai=>?_) λk y ai=>?_
   all_goals
    have hk:k<cs.length:=by rw [<- ah]; exact (List.getElem?_eq_some_iff.1 ai).1
    have j:=List.getElem?_eq_getElem hk;have hu:arr[k]?=some arr[k]:=Array.getElem?_eq_getElem (ht ▸ hk)
   ·simpa [hu] using h1 k _ hu
   ·simp [World.cell?,aM,hu]
   ·simpa [hu] using aK k _ y j ai (aj k _ _ j hu) (λc J=>aE c ((lD c).2 (.inr ⟨k,hk,J⟩))) ρ'
 | @bn z n N p cs cs' av az ah _ aK =>
  intro v F aV aE ρ';obtain ⟨⟨a,iv,cap,h1,rfl,aJ⟩,_⟩:=aV.mB;obtain ⟨p7,p_,gq,hh,l3⟩:=h.part av (by simp);rw [h1] at gq;cases gq;obtain ⟨a2,q0,us,bK,iC,kv,hlen,aQ,J⟩:=hh.ze;cases iC;have hle:n * z<=N * z:=Nat.mul_le_mul_right _ az;have cell:∀ k,k<cs'.length->∃ x b,(cs.take (n * z))[k]?=some x/\a=some ⟨b,0,none⟩/\w.cell? ⟨b,k,none⟩=some (us k)/\(us k).oneCell'=true/\R w I (dO w T g) x (us k) (bK k)/\∀ c,bK k c->p_ c:=by
   intro k hk;rw [ah,List.length_take] at hk;have j:cs[k]?=some cs[k]:=List.getElem?_eq_getElem (by omega);obtain ⟨b,r⟩:=J k _ j;exact ⟨_,b,by rw [List.getElem?_take,if_pos (by omega)]; exact j,r⟩
  cases a with
  | none =>
   have kP:cs'=[]:=by
    cases cs' with
    | nil=>rfl
    | cons c l=>obtain ⟨_,b,_,au,_⟩:=cell 0 (by simp); cases au
   subst kP;obtain ⟨_,_,iC,_,_,_,rk⟩:=hh.mE;cases iC;have l6:n=0:=by
    rcases Nat.eq_zero_or_pos n with aH | aH
    ·exact aH
    ·have:=rk (by omega); simp at this
   subst l6;exact .hj λ_ h=>h
  | some ad =>
   obtain ⟨b,rfl,iz⟩:=aQ ad rfl;refine .bc (us:=us) (λ_ h=>h) (by omega) (.inr ⟨_,l3 b iz⟩) rfl (by rw [ah,List.length_take,hlen]; omega) (λk y ai=>?_) (λk y ai=>?_) λk y ai=>?_
   all_goals
    obtain ⟨x,ix,j,kt,bo,cu,dC,jh⟩:=cell k (List.getElem?_eq_some_iff.1 ai).1;cases kt
   ·exact cu
   ·simpa using bo
   ·exact aK k x y j ai dC (λc J=>⟨_,l3 c (jh c J)⟩) ρ'
 | @sub z lo n N p cs cs' av az ah _ aK =>
  intro v F aV aE ρ';obtain ⟨⟨a,iv,cap,b3,mj,h1,rfl,I5,aJ,cu⟩,_⟩:=aV.wZ;obtain ⟨p7,p_,gq,hh,l3⟩:=h.part av (by simp);rw [h1] at gq;cases gq;obtain ⟨a2,q0,us,bK,iC,kv,hlen,aQ,J⟩:=hh.ze;cases iC;have hle:lo * z+n * z<=N * z:=by rw [<- Nat.add_mul]; exact Nat.mul_le_mul_right _ az
  have ht:cs'.length=n * z:=by rw [ah,List.length_take,List.length_drop,hlen]; omega
  have cell:∀ k,k<cs'.length->∃ x b,((cs.drop (lo * z)).take (n * z))[k]?=some x/\a=some ⟨b,0,none⟩/\w.cell? ⟨b,lo * z+k,none⟩=some (us (lo * z+k))/\(us (lo * z+k)).oneCell'=true/\R w I (dO w T g) x (us (lo * z+k)) (bK (lo * z+k))/\∀ c,bK (lo * z+k) c->p_ c:=by
   intro k hk;have j:cs[lo * z+k]?=some cs[lo * z+k]:=List.getElem?_eq_getElem (by omega);obtain ⟨b,r⟩:=J _ _ j;exact ⟨_,b,by rw [List.getElem?_take,if_pos (by omega),List.getElem?_drop]; exact j,r⟩
  by_cases l6:n=0
  ·subst l6;have kP:cs'=[]:=List.eq_nil_of_length_eq_zero (by simpa using ht);subst kP;exact .hj λ_ h=>h
  ·obtain ⟨ad,rfl,rfl⟩:=cu (by omega);obtain ⟨b,rfl,iz⟩:=aQ ad rfl;refine .bc (us:=λk=>us (lo * z+k)) (λ_ h=>h) I5 (.inr ⟨_,l3 b iz⟩) rfl ht (λk y ai=>?_) (λk y ai=>?_) λk y ai=>?_
   all_goals
    obtain ⟨x,ix,j,kt,bo,HM,dC,jh⟩:=cell k (List.getElem?_eq_some_iff.1 ai).1;cases kt
   ·exact HM
   ·simpa using bo
   ·exact aK k x y j ai dC (λc J=>⟨_,l3 c (jh c J)⟩) ρ'
 | @ptr p k z n y cs cs' av ai hk ah _ aK =>
  intro v F aV aE ρ';obtain ⟨⟨u,ad,h1,af,rfl⟩,_⟩:=aV.mC;obtain ⟨p7,p_,gq,hh,l3⟩:=h.part av (by rcases ai with rfl | rfl <;> simp);rw [h1] at gq;cases gq;have cell:∀ aa,aa<cs'.length->∃ gi kG vR,w.cell? ⟨ad.block,k+aa,none⟩=some gi/\gi.oneCell'=true/\(cs.drop k)[aa]?=some kG/\R w I (dO w T g) kG gi vR/\(∀ c,vR c->∃ t,Fs t c):=by
   intro aa ag;rw [ah,List.length_drop] at ag;have fG:cs[k+aa]?=some cs[k+aa]:=List.getElem?_eq_getElem (by omega);obtain ⟨b,gi,fr,jy,mX,fy,_⟩:=hh.node ai fG;rw [af] at fr;cases fr;have e5:bu g (p.push (k+aa))=some cs[k+aa]:=by rw [s8,av]; rcases ai with rfl | rfl <;> simp [ab.kids]
   by_cases gS:∃ br gn ck bm cK,cs[k+aa]=.bC br gn ck bm cK
   ·obtain ⟨br,gn,ck,bm,cK,gS⟩:=gS;obtain ⟨b,Z1,_,_,Bi,_,bK,jW⟩:=hh.node ai fG;rw [gS] at jW;exact jW.kU.elim
   ·obtain ⟨o7,GB,rm,H4,lD⟩:=h.part e5 (λbr gn ck bm cK e=>gS ⟨_,_,_,_,_,e⟩);rw [xN,h1] at rm;simp only [Option.bind_some] at rm;rw [mX] at rm;cases rm;exact ⟨gi,_,GB,jy,fy,by rw [List.getElem?_drop]; exact fG,H4,λc J=>⟨_,lD c J⟩⟩
  obtain ⟨b,gi,fr,_⟩:=hh.node ai (List.getElem?_eq_getElem hk);rw [af] at fr;cases fr;have hblk:∃ t,Fs t b:=⟨_,l3 b (hh.Fm ai af)⟩;refine .cJ (us:=λaa=>(w.cell? ⟨b,k+aa,none⟩).getD undef) (λ_ h=>h) (.inr hblk) rfl (λaa hL sy=>?_) (λaa hL sy=>?_) λaa hL sy=>?_
  all_goals
   obtain ⟨gi,kG,vR,c1,c2,j8,c4,jf⟩:=cell aa (List.getElem?_eq_some_iff.1 sy).1
  ·simpa [c1] using c2
  ·simp [c1]
  ·simpa [c1] using aK aa kG hL j8 sy c4 jf ρ'
 | @rows z n p cs cs' av ah _ aK =>
  intro v F aV aE ρ';obtain ⟨a,iv,cap,h1,rfl,aJ⟩:=aV.mB.1;obtain ⟨v0,e,us,iY,aM,hlen,kr,au,aj⟩:=Rows.sound (w:=w) (I:=I) (T:=T) (Fs:=Fs) (λt z q n m new ak=>h.rel t _ ak) (λp z n cs av=>h.part av (by simp)) (λz p n v hv=>by obtain ⟨⟨a,cap,h1,rfl⟩,_⟩:=hv; exact h1) av;rw [h1] at iY;cases iY;refine PI aM hlen kr au ah λk x y u j ai hu=>?_;obtain ⟨bK,jW,eG⟩:=aj k x u j hu;exact aK k x y j ai jW eG ρ'
end
end Go.Own
namespace Go.Own
open Go
set_option linter.unusedSectionVars false
variable [cw]
def oK (args:List ab):aG:=λt=>args[t]?
def h5 (outs:List (Option ab)) (res:ab):aG:=λt=>if t=outs.length then some res else (outs[t]?).join
structure kp (w:World) (I U:a6) (w':World) (I' U':a6):Prop where
 ei:Fr w w' U
 more:∀ c,I c->I' c
 new:∀ c,I' c->I c\/U c\/w.heap.size<=c
 own:∀ c,U' c->U c\/w.heap.size<=c
def bH (P:Program) (f:FuncId) (args:List ab) (outs:List (Option ab)) (res:ab):Prop :=
 outs.length=args.length/\∀ (w:World) (I:a6) (vs:List Value) (Fs:Nat->a6),vs.length=args.length->cB w I vs.toArray (oK args) Fs ->
  Calls P f vs.toArray w λe w'=>∃ v I' bY,e=.returned v/\cB w' I' (vs++[v]).toArray (h5 outs res) bY/\kp w I (λc=>∃ t,Fs t c) w' I' (λc=>∃ t,bY t c)
def gR (P:Program) (f:FuncId):Bool :=
 match P.funcs[f]? with
 | some fn => fn.name != "runtime.NumGoroutine" && fn.body.isSome
 | none=>false
inductive c3 (P:Program) (g:aG):Op->ab->Prop
 | plain {c:Operand}{xs:Array Operand}{fI:Array TypeId}{f:FuncId}{first caps ys:List ab}{res:ab}(J:bj g c=some (.c7 (.func f) first caps)) (j:fZ g xs.toList=some ys) (aU:gR P f=true)
   (az:∀ y∈first++ys++caps,cE y) (gp:bH P f (first++ys++caps) ((first++ys++caps).map λ_=>none) res) (aj:cE res):c3 P g (.call { callee:=.value c,args:=xs,argTypes:=fI }) res
 | E9 {c:Operand}{xs:Array Operand}{fI:Array TypeId}{f:FuncId}{first caps ys args:List ab}{res:ab}(J:bj g c=some (.c7 (.func f) first caps)) (j:fZ g xs.toList=some ys) (aU:gR P f=true)
   (ah:args.length=(first++ys++caps).length) (hv:∀ (k:Nat) (x y:ab),(first++ys++caps)[k]?=some x->args[k]?=some y->View g x y) (gp:bH P f args (args.map λ_=>none) res) (aj:jN res) :
   c3 P g (.call { callee:=.value c,args:=xs,argTypes:=fI }) res
section
variable {P:Program}{w:World}{I:a6}{T:Array Value}{g:aG}{Fs:Nat->a6}
theorem AJ {f:FuncId}(h:gR P f=true) (args:Array Value):(callFunc f args).run P w=.ok (.enter f args) w:=by
 unfold gR at h;cases aU:P.funcs[f]? with
 | none=>simp [aU] at h
 | some fn =>
  simp [aU] at h;obtain ⟨h1,af⟩:=h;cases au:fn.body with
  | none=>simp [au] at af
  | some c=>simp [callFunc,aU,h1,au]
theorem D8 (h:cB w I T g Fs) {a:Act}(aQ:a.tmps=T) {c:Operand}{xs:Array Operand}{f:FuncId}{first caps ys:List ab}(J:bj g c=some (.c7 (.func f) first caps)) (j:fZ g xs.toList=some ys) :
  ∃ v1 v2:Array Value,a.eval c=.func (.func f) v1 v2/\(first++ys++caps).length=(v1++xs.map a.eval++v2).toList.length /\
   ∀ (k:Nat) (x:ab) (u:Value),(first++ys++caps)[k]?=some x->(v1++xs.map a.eval++v2).toList[k]?=some u->R w I (dO w T g) x u cb:=by
 have Ex:=kB h J aQ;obtain ⟨ah,aj⟩:=Cv h aQ j;generalize se:a.eval c=adQ at Ex;cases Ex with
 | ref j=>simp [ab.isRef] at j
 | @c7 _ _ _ v1 v2 _ _ h1 af iX hU =>
  have hlen:xs.size=ys.length:=by rw [<- Array.length_toList,ah]
  refine ⟨v1,v2,rfl,by simp [h1,af,hlen],λk x u pS oT=>?_⟩;simp only [Array.toList_append,Array.toList_map] at oT;by_cases eM:k<first.length
  ·rw [List.append_assoc,List.getElem?_append_left eM] at pS;rw [List.append_assoc,List.getElem?_append_left (by simp; omega)] at oT;exact iX k x u pS (by simpa using oT)
  ·rw [List.append_assoc,List.getElem?_append_right (by omega)] at pS;rw [List.append_assoc,List.getElem?_append_right (by simp; omega)] at oT;simp only [Array.length_toList,<- h1] at oT;by_cases fk:k - first.length<ys.length
   ·rw [List.getElem?_append_left fk] at pS;rw [List.getElem?_append_left (by simp; omega),List.getElem?_map] at oT;cases Jt:xs.toList[k - first.length]? with
    | none=>rw [Jt] at oT; cases oT
    | some o=>rw [Jt] at oT; cases oT; exact aj _ x o pS Jt
   ·rw [List.getElem?_append_right (by omega)] at pS;rw [List.getElem?_append_right (by simp; omega)] at oT;simp only [List.length_map,Array.length_toList] at oT;rw [hlen] at oT;exact hU _ x u pS (by simpa using oT)
theorem cB.args {I':a6}(h:cB w I T g Fs) (nC:∀ c,I c->I' c) (bb:∀ c,I' c->I c\/∃ t,Fs t c) {args:List ab}{vs:List Value}(ah:args.length=vs.length)
  (aj:∀ (ρ':ab->Value->Prop) (k:Nat) (x:ab) (u:Value),args[k]?=some x->vs[k]?=some u->R w I' ρ' x u cb):cB w I' vs.toArray (oK args) (λ_=>cb):=by
 refine ⟨λt x j=>?_,λ_ _ _ h=>h,λ_ _ _ h=>h.elim,λ_ _ h=>h.elim,λc J=>?_,λt t' z p n m new br ck bm cK h1 af=>?_,cw.keep h.hd (λ_ _=>rfl) nC⟩
 ·have ak:t<args.length:=(List.getElem?_eq_some_iff.1 j).1;have hu:vs[t]?=some vs[t]:=List.getElem?_eq_getElem (ah ▸ ak);exact ⟨vs[t],by rw [List.getElem?_toArray]; exact hu,.tree (aj _ t x _ j hu)⟩
 ·rcases bb c J with aL | ⟨t,aL⟩
  ·exact h.lt c aL
  ·exact h.jm t c aL
 ·have ak:t<args.length:=(List.getElem?_eq_some_iff.1 h1).1;exact (aj (λ_ _=>False) t _ _ h1 (List.getElem?_eq_getElem (ah ▸ ak))).kU.elim
theorem c3.sound (h:cB w I T g Fs) {a:Act}(aQ:a.tmps=T) {o:Oper}{kl:ab}(av:c3 P g o.op kl) {K:Act->World->Prop}{Q:Exit->Act->World->Prop}
  (dz:∀ v w',uh w I T g Fs kl v w'->K (a.put o.dst v) w'):o.wp P a w K Q:=by
 obtain ⟨dst,op,ty,pos,after,guard⟩:=o;simp only at av dz;have Cn:cE kl->∀ z p n m new,kl=.bC z p n m new->∀ t br ck bm cK,g t≠some (.bC br p ck bm cK):=by
  rintro az z p n m new rfl;cases az
 have last:∀ {args:List ab}{res:ab}{v:Value}{vs:List Value}{w':World}{I':a6}{bY:Nat->a6},vs.length=args.length->cB w' I' (vs++[v]).toArray (h5 (args.map λ_=>none) res) bY->jb w' I' (dO w' (vs++[v]).toArray (h5 (args.map λ_=>none) res)) res v (bY args.length)/\∀ t,t≠args.length->∀ c,¬ bY t c:=by
  intro args res v vs w' I' bY ah a_;constructor
  ·obtain ⟨u,hu,aV⟩:=a_.rel args.length res (by simp [h5]);have:u=v:=by
    rw [<- ah] at hu;simpa using hu.symm
   subst this; exact aV
  ·intro t ak c J;refine a_.kA t ?_ c J;have so:t≠(args.map λ_=>(none:Option ab)).length:=by simpa using ak
   simp only [h5,if_neg so,List.getElem?_map];cases args[t]? <;> rfl
 cases av with
 | @plain c xs fI f first caps ys _ J j aU az gp aj =>
  obtain ⟨v1,v2,se,ah,mo⟩:=D8 h aQ J j;have gY:(execOp a.eval { dst:=dst,op:=.call { callee:=.value c,args:=xs,argTypes:=fI },type:=ty,pos:=pos,after:=after,guard:=guard }).run P w=.ok (.enter f (v1++xs.map a.eval++v2)) w:=by
   simp [execOp,resolve,Deferred.ofValue,se,invoke,AJ aU]
  have a_:=h.args (I':=I) (λ_ h=>h) (λc J=>.inl J) ah λρ' k x u j hu=>(mo k x u j hu).bd (az x (List.mem_of_getElem? j));have n9:=gp.2 w I (v1++xs.map a.eval++v2).toList _ ah.symm a_;unfold Oper.wp Oper.upon;simp only [gY];rw [Array.toArray_toList] at n9;refine Calls.mono n9 ?_;rintro e w' ⟨v,I',bY,rfl,dU,bM⟩;obtain ⟨yY,eN⟩:=last ah.symm dU;have fF:Fr w w' (λ_=>False):=bM.ei.mono λb _ ⟨_,au⟩=>au;refine dz v w' ⟨bY (first++ys++caps).length,I',?_,?_,?_,?_,bM.more,?_,fF.mono λ_ _ h=>h.elim,Cn aj⟩
  ·have:=h.world (w':=w') (λt c J=>fF.block c (h.jm t c J) (λh=>h)) (λc J=>fF.block c (h.lt c J) λh=>h) fF.size;refine ⟨λt x j=>?_,this.kA,this.et,λt c J hi=>?_,dU.lt,this.qC,dU.hd⟩
   ·obtain ⟨v,hv,aV⟩:=this.rel t x j;exact ⟨v,hv,aV.frame (λ_ _=>rfl) bM.more (λ_ _ h=>h) (λ_ _ _ _ _ _ _=>rfl) λ_ _=>rfl⟩
   ·rcases bM.new c hi with aL | ⟨_,aL⟩ | aL
    ·exact h.bc t c J aL
    ·exact aL
    ·have:=h.jm t c J; omega
  ·exact .tree ((yY.fS (by rintro z p n m new rfl; cases aj)).bd aj)
  ·intro t c J ql;rcases bM.own c ⟨_,J⟩ with ⟨_,aL⟩ | aL
   ·exact aL
   ·have:=h.jm t c ql; omega
  ·intro c J;rcases bM.own c ⟨_,J⟩ with ⟨_,aL⟩ | aL
   ·exact aL.elim
   ·exact ⟨aL,dU.bc _ c J⟩
  ·intro c J;rcases bM.new c J with aL | ⟨_,aL⟩ | aL
   ·exact .inl aL
   ·exact aL.elim
   ·exact .inr aL
 | @E9 c xs fI f first caps ys args _ J j aU yS hv gp aj =>
  obtain ⟨v1,v2,se,ah,mo⟩:=D8 h aQ J j;have gY:(execOp a.eval { dst:=dst,op:=.call { callee:=.value c,args:=xs,argTypes:=fI },type:=ty,pos:=pos,after:=after,guard:=guard }).run P w=.ok (.enter f (v1++xs.map a.eval++v2)) w:=by
   simp [execOp,resolve,Deferred.ofValue,se,invoke,AJ aU]
  have ht:args.length=(v1++xs.map a.eval++v2).toList.length:=by rw [yS,ah]
  have a_:=h.args (I':=λc=>I c\/∃ t,Fs t c) (λ_ h=>.inl h) (λc J=>J) ht λρ' k x u j hu=>by
   have hk:k<(first++ys++caps).length:=by rw [<- yS]; exact (List.getElem?_eq_some_iff.1 j).1
   have jC:=List.getElem?_eq_getElem hk;exact (hv k _ x jC j).sound h (mo k _ u jC hu) (λ_ h=>h.elim) ρ'
  have n9:=gp.2 w _ (v1++xs.map a.eval++v2).toList _ ht.symm a_;unfold Oper.wp Oper.upon;simp only [gY];rw [Array.toArray_toList] at n9;refine Calls.mono n9 ?_;rintro e w' ⟨v,I',bY,rfl,dU,bM⟩;obtain ⟨yY,eN⟩:=last ht.symm dU;have fF:Fr w w' (λ_=>False):=bM.ei.mono λb _ ⟨_,au⟩=>au;refine dz v w' ⟨bY args.length,I,?_,?_,?_,?_,λ_ h=>h,λ_ h=>.inl h,fF.mono λ_ _ h=>h.elim,Cn aj.bd⟩
  ·exact h.world (w':=w') (λt c J=>fF.block c (h.jm t c J) (λh=>h)) (λc J=>fF.block c (h.lt c J) λh=>h) fF.size
  ·exact .tree ((yY.fS (by rintro z p n m new rfl; cases aj)).kW aj)
  ·intro t c J ql;rcases bM.own c ⟨_,J⟩ with ⟨_,aL⟩ | aL
   ·exact aL
   ·have:=h.jm t c ql; omega
  ·intro c J;rcases bM.own c ⟨_,J⟩ with ⟨_,aL⟩ | aL
   ·exact aL.elim
   ·exact ⟨aL,λhi=>by have:=h.lt c hi; omega⟩
end
end Go.Own
namespace Go.Own
open Go
set_option linter.unusedSectionVars false
variable [cw]
structure jc (w:World) (I:a6) (T:Array Value) (g:aG) (Fs:Nat->a6):Prop where
 rel:∀ t x,g t=some x->∃ v,T[t]?=some v/\jb w I (fL w T) x v (Fs t)
 kA:∀ t,g t=none->∀ c,¬ Fs t c
 et:∀ t t' c,Fs t c->Fs t' c->t=t'
 bc:∀ t c,Fs t c->¬ I c
 lt:∀ c,I c->c<w.heap.size
 hd:cw.q w I
def cc (g:aG) (p:Place) (y:ab):aG:=λt=>if t=p.root then (g t).map λx=>x.setAt p.path y else g t
inductive eo (g:aG):ab->Prop
 | bd {x:ab}(h:cE x):eo g x
 | ref {x:ab}(j:x.isRef=true) (h:gG g x):eo g x
 | own {z n:Nat}{cs:List ab}(h:∀ x∈cs,eo g x):eo g (.own z n cs)
 | obj {cs:List ab}(h:∀ x∈cs,eo g x):eo g (.obj cs)
 | agg {cs:List ab}(h:∀ x∈cs,eo g x):eo g (.agg cs)
 | bN {cs:List ab}(h:∀ x∈cs,eo g x):eo g (.bN cs)
 | c7 {fn:Fn}{a b:List ab}(h1:∀ x∈a,eo g x) (af:∀ x∈b,eo g x):eo g (.c7 fn a b)
 | bC {z n m:Nat}{p:Place}{new:List ab}(av:gG g (.bC z p n 0 [])) (h:∀ x∈new,eo g x):eo g (.bC z p n m new)
section
variable {w:World}{I:a6}{T:Array Value}{g:aG}{Fs:Nat->a6}
theorem R.bW {x:ab}{v:Value}{F:a6}(h:R w I (fL w T) x v F):eo g x->R w I (dO w T g) x v F:=by
 induction h with
 | lit h aE=>exact λ_=>.lit h aE
 | bf aE=>exact λ_=>.bf aE
 | dead aE=>exact λ_=>.dead aE
 | j1 aE=>exact λ_=>.j1 aE
 | @ref x _ _ j h aE =>
  intro hk;refine .ref j ⟨h,?_⟩ aE;cases hk with
  | ref _ h=>exact h
  | bd h=>cases h <;> simp [ab.isRef] at j
  | _=>simp [ab.isRef] at j
 | hj aE=>exact λ_=>.hj aE
 | mp aM av aE=>exact λ_=>.mp aM av aE
 | dv aM h1 aE=>exact λ_=>.dv aM h1 aE
 | imp aE bb aM av=>exact λ_=>.imp aE bb aM av
 | bc aE kv bb ax ah h1 J aj aK =>
  intro hk;cases hk with
  | ref j=>simp [ab.isRef] at j
  | bd h=>cases h with | bc h=>exact .bc aE kv bb ax ah h1 J λk x j=>aK k x j (.bd (h x (List.mem_of_getElem? j)))
 | cJ aE bb ax h1 J aj aK =>
  intro hk;cases hk with
  | ref j=>simp [ab.isRef] at j
  | bd h=>cases h with | cJ h=>exact .cJ aE bb ax h1 J λk x j=>aK k x j (.bd (h x (List.mem_of_getElem? j)))
 | own aM ah h1 aj aO au aE aK =>
  intro hk;refine .own aM ah h1 (λk x u j hu=>aK k x u j hu ?_) aO au aE;cases hk with
  | ref j=>simp [ab.isRef] at j
  | bd h=>cases h with | own h=>exact .bd (h x (List.mem_of_getElem? j))
  | own h=>exact h x (List.mem_of_getElem? j)
 | obj aM ah h1 aj aO au aE ax aK =>
  intro hk;refine .obj aM ah h1 (λk x u j hu=>aK k x u j hu ?_) aO au aE ax;cases hk with
  | ref j=>simp [ab.isRef] at j
  | bd h=>cases h with | obj h=>exact .bd (h x (List.mem_of_getElem? j))
  | obj h=>exact h x (List.mem_of_getElem? j)
 | agg ah h1 aj aO aE aK =>
  intro hk;refine .agg ah h1 (λk x u j hu=>aK k x u j hu ?_) aO aE;cases hk with
  | ref j=>simp [ab.isRef] at j
  | bd h=>cases h with | agg h=>exact .bd (h x (List.mem_of_getElem? j))
  | agg h=>exact h x (List.mem_of_getElem? j)
 | bN ah aj aO aE aK =>
  intro hk;refine .bN ah (λk x u j hu=>aK k x u j hu ?_) aO aE;cases hk with
  | ref j=>simp [ab.isRef] at j
  | bd h=>cases h with | bN h=>exact .bd (h x (List.mem_of_getElem? j))
  | bN h=>exact h x (List.mem_of_getElem? j)
 | @c7 fn first caps v1 v2 F aE h1 af iX hU ga fP =>
  intro hk;have:(∀ x∈first,eo g x)/\∀ x∈caps,eo g x:=by
   cases hk with
   | ref j=>simp [ab.isRef] at j
   | bd h=>cases h with | c7 h1 af=>exact ⟨λx j=>.bd (h1 x j),λx j=>.bd (af x j)⟩
   | c7 h1 af=>exact ⟨h1,af⟩
  exact .c7 aE h1 af (λk x u j hu=>ga k x u j hu (this.1 x (List.mem_of_getElem? j))) (λk x u j hu=>fP k x u j hu (this.2 x (List.mem_of_getElem? j)))
theorem jb.bW {x:ab}{v:Value}{F:a6}(h:jb w I (fL w T) x v F) (hk:eo g x):jb w I (dO w T g) x v F:=by
 cases h with
 | tree h=>exact .tree (h.bW hk)
 | bC h =>
  cases hk with
  | bd h=>cases h
  | ref j=>simp [ab.isRef] at j
  | bC av az=>exact .bC ⟨⟨h.j_,av⟩,h.iB,h.m',h.ah,h.h1,λk x u j hu=>(h.aj k x u j hu).bW (az x (List.mem_of_getElem? j)),h.aE⟩
theorem cB.lO (h:cB w I T g Fs):jc w I T g Fs :=
  ⟨λt x j=>by
    obtain ⟨v,hv,aV⟩:=h.rel t x j;refine ⟨v,hv,?_⟩;cases aV with
    | tree aV=>exact .tree (aV.frame (λ_ _=>rfl) (λ_ h=>h) (λ_ _ h=>h.1) λ_ _=>rfl)
    | bC aV=>exact .bC ⟨aV.j_.1,aV.iB,aV.m',aV.ah,aV.h1,λk x u j hu=>(aV.aj k x u j hu).frame (λ_ _=>rfl) (λ_ h=>h) (λ_ _ h=>h.1) λ_ _=>rfl,aV.aE⟩,
   h.kA,h.et,h.bc,h.lt,h.hd⟩
theorem jc.ZR (h:jc w I T g Fs) {g':aG}(aI:∀ t x,g' t=some x->g t=some x) (hk:∀ t x,g' t=some x->eo g' x)
  (av:∀ t t' z p n m new br ck bm cK,g' t=some (.bC z p n m new)->g' t'=some (.bC br p ck bm cK)->t=t'):cB w I T g' (λt c=>g' t≠none/\Fs t c):=by
 refine ⟨λt x j=>?_,λt ak c J=>J.1 ak,λt t' c J dX=>h.et t t' c J.2 dX.2,λt c J=>h.bc t c J.2,h.lt,av,h.hd⟩;obtain ⟨v,hv,aV⟩:=h.rel t x (aI t x j);have:Fs t=λc=>g' t≠none/\Fs t c:=by
  funext c;exact propext ⟨λJ=>⟨by rw [j]; simp,J⟩,λJ=>J.2⟩
 refine ⟨v,hv,?_⟩;rw [<- this];exact aV.bW (hk t x j)
theorem jc.part (h:jc w I T g Fs) {p:Place}{y:ab}(av:bu g p=some y) (ai:∀ z q n m new,y≠.bC z q n m new):∃ v cp,dN w T p=some v/\R w I (fL w T) y v cp/\(∀ c,cp c->Fs p.root c) /\
  ∀ (y':ab) (iM:a6),R w I (fL w T) y' v iM->(∀ c,iM c->Fs p.root c->cp c)->(∀ c,iM c->¬ I c)->(∀ t c,t≠p.root->iM c->¬ Fs t c)->(∀ aa,y'=.self aa->y=.self aa) ->
   ∃ bY,jc w I T (cc g p y') bY/\(∀ c,bY p.root c↔(Fs p.root c/\¬ cp c)\/iM c)/\∀ t,t≠p.root->bY t=Fs t:=by
 unfold bu at av;cases j:g p.root with
 | none=>rw [j] at av; cases av
 | some x =>
  rw [j] at av;obtain ⟨v,hv,aV⟩:=h.rel _ _ j;replace aV:=aV.fS (by
   rintro z q n m new rfl;exact ai _ _ _ _ _ (ab.s9 av).2)
  obtain ⟨hX,cp,hw,dA,di,ey,kC⟩:=R.focus p.path aV av;refine ⟨hX,cp,by simp [dN,hv,hw],dA,di,λy' iM ie mq bb N3 kR=>?_⟩;obtain ⟨cM,H3,oP⟩:=kC w I (fL w T) y' iM ⟨λ_ _=>rfl,λ_ _ _=>rfl,λ_ h=>h,λ_ _ h=>h⟩ ie mq kR;refine ⟨λt=>if t=p.root then cM else Fs t,⟨λt x' fG=>?_,λt ak c=>?_,λt t' c J dX=>?_,λt c J=>?_,h.lt,h.hd⟩,λc=>by simp [oP c],λt ak=>by simp [ak]⟩
  ·by_cases hx:t=p.root
   ·subst hx;have WV:x.setAt p.path y'=x':=by simpa [cc,j] using fG
    subst WV;exact ⟨v,hv,.tree (by simpa using H3)⟩
   ·simp only [cc,if_neg hx] at fG;simpa [hx] using h.rel t x' fG
  ·by_cases hx:t=p.root
   ·subst hx; simp [cc,j] at ak
   ·simp only [cc,if_neg hx] at ak; simpa [hx] using h.kA t ak c
  ·by_cases h1:t=p.root <;> by_cases af:t'=p.root <;> simp only [h1,af,if_true,if_false] at J dX
   ·rw [h1,af]
   ·rcases (oP c).1 J with ⟨aJ,_⟩ | aJ
    ·rw [h1]; exact h.et _ _ _ aJ dX
    ·exact absurd dX (N3 t' c af aJ)
   ·rcases (oP c).1 dX with ⟨aJ,_⟩ | aJ
    ·rw [af]; exact h.et _ _ _ J aJ
    ·exact absurd J (N3 t c h1 aJ)
   ·exact h.et _ _ _ J dX
  ·by_cases h1:t=p.root <;> simp only [h1,if_true,if_false] at J
   ·rcases (oP c).1 J with ⟨aJ,_⟩ | aJ
    ·exact h.bc _ c aJ
    ·exact bb c aJ
   ·exact h.bc t c J
end
end Go.Own
namespace Go.Own
open Go
set_option linter.unusedSectionVars false
variable [cw]
inductive Take:aG->List ab->List ab->aG->Prop
 | bd {g:aG}{xs:List ab}(h:∀ x∈xs,cE x):Take g xs xs g
 | cons {g g':aG}{x:ab}{xs xs':List ab}(h:cE x) (ak:Take g xs xs' g'):Take g (x::xs) (x::xs') g'
 | bn {g g1 g':aG}{z n N:Nat}{p:Place}{cs cs' xs xs':List ab}(av:bu g p=some (.own z N cs)) (az:n<=N) (h1:Take (cc g p .dead) (cs.take (n * z)) cs' g1) (af:Take g1 xs xs' g') :
   Take g (.bn z p n::xs) (.own z n cs'::xs') g'
 | bC {g g1 g':aG}{z n m t:Nat}{q:Place}{cs new cs' xs xs':List ab}(ak:g t=some (.bC z q n m new)) (av:bu g q=some (.own z n cs)) (ba:q.root≠t) (h1:Take (cc (cc g ⟨t,[]⟩ .dead) q .dead) (cs++new) cs' g1) (af:Take g1 xs xs' g') :
   Take g (.bn z ⟨t,[]⟩ (n+m)::xs) (.own z (n+m) cs'::xs') g'
 | zf {g g1 g':aG}{z n m t qy m2 t2:Nat}{q:Place}{cs new zb cs' xs xs':List ab}(ak:g t=some (.bC z ⟨t2,[]⟩ n m new)) (Oc:g t2=some (.bC z q qy m2 zb)) (az:n=qy+m2) (av:bu g q=some (.own z qy cs)) (ba:q.root≠t) (qo:q.root≠t2) (WE:t≠t2)
   (h1:Take (cc (cc (cc g ⟨t,[]⟩ .dead) ⟨t2,[]⟩ .dead) q .dead) (cs++zb++new) cs' g1) (af:Take g1 xs xs' g') :
   Take g (.bn z ⟨t,[]⟩ (n+m)::xs) (.own z (n+m) cs'::xs') g'
 | obj {g g1 g':aG}{p:Place}{cs cs' xs xs':List ab}(av:bu g p=some (.obj cs)) (h1:Take (cc g p .dead) cs cs' g1) (af:Take g1 xs xs' g'):Take g (.ptr p 0::xs) (.obj cs'::xs') g'
 | mp {g g1 g':aG}{p:Place}{q:Array MapEntry->Nat->Prop}{xs xs':List ab}(av:bu g p=some (.mp q)) (h1:Take (cc g p .dead) [] [] g1) (af:Take g1 xs xs' g'):Take g (.ha p::xs) (.mp q::xs') g'
 | agg {g g1 g':aG}{cs cs' xs xs':List ab}(h1:Take g cs cs' g1) (af:Take g1 xs xs' g'):Take g (.agg cs::xs) (.agg cs'::xs') g'
 | bN {g g1 g':aG}{cs cs' xs xs':List ab}(h1:Take g cs cs' g1) (af:Take g1 xs xs' g'):Take g (.bN cs::xs) (.bN cs'::xs') g'
structure Hand (w:World) (I:a6) (ρ:ab->Value->Prop) (Fs:Nat->a6) (xs:List ab) (vs:List Value) (dj:Nat->a6):Prop where
 len:xs.length=vs.length
 rel:∀ (k:Nat) (x:ab) (u:Value),xs[k]?=some x->vs[k]?=some u->R w I ρ x u (dj k)
 et:∀ (aa k c:Nat),aa<xs.length->k<xs.length->dj aa c->dj k c->aa=k
 off:∀ (k t c:Nat),k<xs.length->dj k c->¬ Fs t c
 bc:∀ (k c:Nat),k<xs.length->dj k c->¬ I c
def ly (Fs:Nat->a6) (n:Nat) (dj:Nat->a6):a6:=λc=>(∃ t,Fs t c)\/∃ k,k<n/\dj k c
section
variable {w:World}{I:a6}{T:Array Value}
theorem Take.length {g g':aG}{xs xs':List ab}(h:Take g xs xs' g'):xs'.length=xs.length:=by
 induction h with
 | bd=>rfl
 | cons _ _ aK=>simp [aK]
 | bn _ _ _ _ _ aK=>simp [aK]
 | bC _ _ _ _ _ _ aK=>simp [aK]
 | zf _ _ _ _ _ _ _ _ _ _ aK=>simp [aK]
 | obj _ _ _ _ aK=>simp [aK]
 | mp _ _ _ _ aK=>simp [aK]
 | agg _ _ _ aK=>simp [aK]
 | bN _ _ _ aK=>simp [aK]
theorem qS.cons {x:ab}{l:List ab}(h:qS (x::l)):(∀ aa,x≠.self aa)/\qS l:=⟨λaa e=>h 0 aa (by rw [e]; rfl),λk aa e=>h (k+1) aa e⟩
theorem Take.self {g g':aG}{xs xs':List ab}(h:Take g xs xs' g'):∀ (k:Nat) (aa:Nat × Nat),xs'[k]?=some (.self aa)->xs[k]?=some (.self aa):=by
 have step:∀ {x x':ab}{xs xs':List ab},(∀ aa,x'=.self aa->x=.self aa)->(∀ (k:Nat) (aa:Nat × Nat),xs'[k]?=some (.self aa)->xs[k]?=some (.self aa))->∀ (k:Nat) (aa:Nat × Nat),(x'::xs')[k]?=some (.self aa)->(x::xs)[k]?=some (.self aa):=by
  intro x x' xs xs' h1 af k aa h;cases k with
  | zero=>simp only [List.getElem?_cons_zero,Option.some.injEq] at h ⊢; exact h1 aa h
  | succ k=>exact af k aa h
 induction h with
 | bd=>exact λ_ _ h=>h
 | cons _ _ aK=>exact step (λ_ h=>h) aK
 | bn _ _ _ _ _ aK=>exact step (λ_ h=>by cases h) aK
 | bC _ _ _ _ _ _ aK=>exact step (λ_ h=>by cases h) aK
 | zf _ _ _ _ _ _ _ _ _ _ aK=>exact step (λ_ h=>by cases h) aK
 | obj _ _ _ _ aK=>exact step (λ_ h=>by cases h) aK
 | mp _ _ _ _ aK=>exact step (λ_ h=>by cases h) aK
 | agg _ _ _ aK=>exact step (λ_ h=>by cases h) aK
 | bN _ _ _ aK=>exact step (λ_ h=>by cases h) aK
theorem Take.Cs {g g':aG}{xs xs':List ab}(h:Take g xs xs' g') (aM:∀ x∈xs,r0 x):∀ x∈xs',r0 x:=by
 induction h with
 | bd=>exact aM
 | cons _ _ aK =>
  intro x j;rcases List.mem_cons.1 j with rfl | j
  ·exact aM _ (by simp)
  ·exact aK (λx h=>aM x (by simp [h])) x j
 | bn _ _ _ _ _ aK | bC _ _ _ _ _ _ aK | zf _ _ _ _ _ _ _ _ _ _ aK | obj _ _ _ _ aK | mp _ _ _ _ aK | bN _ _ _ aK =>
  intro x j;rcases List.mem_cons.1 j with rfl | j
  ·intro cs e; cases e
  ·exact aK (λx h=>aM x (by simp [h])) x j
 | agg h1 _ _ aK =>
  intro x j;rcases List.mem_cons.1 j with rfl | j
  ·intro cs e;cases e;exact λk aa hk=>aM _ (List.mem_cons_self ..) _ rfl k aa (h1.self k aa hk)
  ·exact aK (λx h=>aM x (by simp [h])) x j
theorem Hand.cons {ρ:ab->Value->Prop}{Fs:Nat->a6}{x:ab}{v:Value}{F:a6}{xs:List ab}{vs:List Value}{dj:Nat->a6}(h:Hand w I ρ Fs xs vs dj) (j:R w I ρ x v F)
  (aO:∀ k c,k<xs.length->F c->¬ dj k c) (aM:∀ t c,F c->¬ Fs t c) (hi:∀ c,F c->¬ I c):Hand w I ρ Fs (x::xs) (v::vs) (λk=>match k with | 0=>F | k+1=>dj k):=by
 refine ⟨by simp [h.len],λk y u ai hu=>?_,λaa k c ag hk h1 af=>?_,λk t c hk J=>?_,λk c hk J=>?_⟩
 ·cases k with
  | zero=>simp at ai hu; subst ai hu; exact j
  | succ k=>simp at ai hu; exact h.rel k y u ai hu
 ·cases aa <;> cases k
  ·rfl
  ·exact absurd af (aO _ c (by simpa using hk) h1)
  ·exact absurd h1 (aO _ c (by simpa using ag) af)
  ·rw [h.et _ _ c (by simpa using ag) (by simpa using hk) h1 af]
 ·cases k with
  | zero=>exact aM t c J
  | succ k=>exact h.off k t c (by simpa using hk) J
 ·cases k with
  | zero=>exact hi c J
  | succ k=>exact h.bc k c (by simpa using hk) J
theorem Hand.tail {ρ:ab->Value->Prop}{Fs:Nat->a6}{x:ab}{v:Value}{xs:List ab}{vs:List Value}{dj:Nat->a6}(h:Hand w I ρ Fs (x::xs) (v::vs) dj):Hand w I ρ Fs xs vs (λk=>dj (k+1)) :=
  ⟨by simpa using h.len,λk y u ai hu=>h.rel (k+1) y u ai hu,λaa k c ag hk h1 af=>by have:=h.et (aa+1) (k+1) c (by simpa using ag) (by simpa using hk) h1 af; omega,
   λk t c hk J=>h.off (k+1) t c (by simpa using hk) J,λk c hk J=>h.bc (k+1) c (by simpa using hk) J⟩
theorem oY {x:ab}{xs:List ab}(h:cE x) (aK:∀ y∈xs,cE y):∀ y∈x::xs,cE y:=by
 intro y ai;rcases List.mem_cons.1 ai with rfl | ai
 ·exact h
 ·exact aK y ai
theorem Take.Cp {g g':aG}{xs xs':List ab}(h:Take g xs xs' g'):∀ x∈xs',cE x:=by
 induction h with
 | bd h=>exact h
 | cons h _ aK=>exact oY h aK
 | bn _ _ _ _ ga fP=>exact oY (.own ga) fP
 | bC _ _ _ _ _ ga fP=>exact oY (.own ga) fP
 | zf _ _ _ _ _ _ _ _ _ ga fP=>exact oY (.own ga) fP
 | obj _ _ _ ga fP=>exact oY (.obj ga) fP
 | mp _ _ _ _ fP=>exact oY .mp fP
 | agg _ _ ga fP=>exact oY (.agg ga) fP
 | bN _ _ ga fP=>exact oY (.bN ga) fP
def GH (w:World) (I:a6) (T:Array Value) (g:aG) (xs xs':List ab) (g':aG):Prop :=
 ∀ {Fs:Nat->a6}{vs:List Value}{dj:Nat->a6},jc w I T g Fs->Hand w I (fL w T) Fs xs vs dj ->
  ∃ bY ja,jc w I T g' bY/\Hand w I (fL w T) bY xs' vs ja/\∀ c,ly bY xs'.length ja c->ly Fs xs.length dj c
theorem Kj {w:World}{e bZ:TypeId}{z n:Nat}{v:Value}{us im:List Value}(h:w.ownsRow 0 e z v n us) (aL:w.ownsRow 0 bZ z v n im):us=im:=by
 obtain ⟨h1,af⟩:=h;obtain ⟨kr,HJ⟩:=aL;rcases af with ⟨rfl,rfl⟩ | ⟨b,cap,cur,rfl,_,aI,_,_,_,ak⟩
 ·simp at h1 kr; rw [h1,kr]
 ·rcases HJ with ⟨bE,_⟩ | ⟨ix,mj,acn,bE,_,ED,_,_,_,so⟩
  ·cases bE
  ·cases bE;rw [aI] at ED;cases ED;rw [<- ak,<- so]
theorem Take.node {g1 g2 g':aG}{Fs fu:Nat->a6}{B H0:a6}{cs cs' xs xs':List ab}{us vs:List Value}{bK dj:Nat->a6}{X:ab}{v0:Value}
  (a_:jc w I T g1 fu) (hH:Hand w I (fL w T) fu cs us bK) (f':∀ c,B c->(∃ t,Fs t c)/\(∀ t,¬ fu t c)/\(∀ k,k<cs.length->¬ bK k c)/\¬ I c)
  (fz:∀ c,ly fu cs.length bK c->(∃ t,Fs t c)\/H0 c) (dn:Hand w I (fL w T) Fs xs vs dj) (uI:∀ c,H0 c->(∀ t,¬ Fs t c)/\∀ k,k<xs.length->¬ dj k c)
  (ga:GH w I T g1 cs cs' g2) (fP:GH w I T g2 xs xs' g')
  (build:∀ ja:Nat->a6,(∀ (k:Nat) (x:ab) (u:Value),cs'[k]?=some x->us[k]?=some u->R w I (fL w T) x u (ja k))->(∀ (aa k c:Nat),aa<cs'.length->k<cs'.length->ja aa c->ja k c->aa=k) ->
   (∀ k c,k<cs'.length->ja k c->¬ B c)->R w I (fL w T) X v0 (λc=>B c\/∃ k,k<cs'.length/\ja k c)) :
  ∃ bY ja,jc w I T g' bY/\Hand w I (fL w T) bY (X::xs') (v0::vs) ja/\∀ c,ly bY (X::xs').length ja c->(∃ t,Fs t c)\/H0 c\/∃ k,k<xs.length/\dj k c:=by
 obtain ⟨jr,H1,hJ,Et,A4⟩:=ga a_ hH;have X_:∀ k t c,k<xs.length->dj k c->¬ jr t c:=by
  intro k t c hk J aU;rcases fz c (A4 c (.inl ⟨t,aU⟩)) with ⟨t',h⟩ | h
  ·exact dn.off k t' c hk J h
  ·exact (uI c h).2 k hk J
 obtain ⟨vQ,Ai,yE,UI,Nz⟩:=fP hJ (⟨dn.len,dn.rel,dn.et,X_,dn.bc⟩:Hand w I (fL w T) jr xs vs dj);have Uy:∀ k c,k<cs'.length->H1 k c->¬ B c:=by
  intro k c hk J au;obtain ⟨_,h1,af,_⟩:=f' c au;rcases A4 c (.inr ⟨k,hk,J⟩) with ⟨t,h⟩ | ⟨aa,ag,h⟩
  ·exact h1 t h
  ·exact af aa ag h
 have wu:=build H1 Et.rel Et.et Uy
 -- the node's blocks: apart from all else
 have key:∀ c,(B c\/∃ k,k<cs'.length/\H1 k c)->(∀ t,¬ jr t c)/\(∀ k,k<xs.length->¬ dj k c)/\¬ I c/\((∃ t,Fs t c)\/H0 c):=by
  rintro c (au | ⟨k,hk,J⟩)
  ·obtain ⟨⟨t0,aH⟩,h1,af,aJ⟩:=f' c au;refine ⟨λt aU=>?_,λk hk J=>dn.off k t0 c hk J aH,aJ,.inl ⟨t0,aH⟩⟩;rcases A4 c (.inl ⟨t,aU⟩) with ⟨t',h⟩ | ⟨aa,ag,h⟩
   ·exact h1 t' h
   ·exact af aa ag h
  ·have ax:=fz c (A4 c (.inr ⟨k,hk,J⟩));refine ⟨λt aU=>Et.off k t c hk J aU,λaa ag ND=>?_,Et.bc k c hk J,ax⟩;rcases ax with ⟨t,h⟩ | h
   ·exact dn.off aa t c ag ND h
   ·exact (uI c h).2 aa ag ND
 have fin:∀ c,(B c\/∃ k,k<cs'.length/\H1 k c)->(∀ t,¬ vQ t c)/\∀ k,k<xs'.length->¬ Ai k c:=by
  intro c J;obtain ⟨h1,af,_,_⟩:=key c J;have none:¬ ly vQ xs'.length Ai c:=by
   intro h;rcases Nz c h with ⟨t,h⟩ | ⟨k,hk,h⟩
   ·exact h1 t h
   ·exact af k hk h
  exact ⟨λt h=>none (.inl ⟨t,h⟩),λk hk h=>none (.inr ⟨k,hk,h⟩)⟩
 refine ⟨vQ,_,yE,UI.cons wu (λk c hk J=>(fin c J).2 k hk) (λt c J=>(fin c J).1 t) (λc J=>(key c J).2.2.1),?_⟩;have back:∀ c,ly vQ xs'.length Ai c->(∃ t,Fs t c)\/H0 c\/∃ k,k<xs.length/\dj k c:=by
  intro c h;rcases Nz c h with ⟨t,h⟩ | h
  ·rcases fz c (A4 c (.inl ⟨t,h⟩)) with h | h
   ·exact .inl h
   ·exact .inr (.inl h)
  ·exact .inr (.inr h)
 rintro c (h | ⟨k,hk,J⟩)
 ·exact back c (.inl h)
 ·cases k with
  | zero =>
   rcases (key c J).2.2.2 with h | h
   ·exact .inl h
   ·exact .inr (.inl h)
  | succ k=>exact back c (.inr ⟨k,by simpa using hk,J⟩)
end
end Go.Own
namespace Go.Own
open Go
set_option linter.unusedSectionVars false
variable [cw]
section
variable {w:World}{I:a6}{T:Array Value}
theorem jc.kill {g:aG}{Fs:Nat->a6}(h:jc w I T g Fs) (t:Nat):∃ bY,jc w I T (cc g ⟨t,[]⟩ .dead) bY/\(∀ c,¬ bY t c)/\∀ s,s≠t->bY s=Fs s:=by
 refine ⟨λs=>if s=t then cb else Fs s,⟨λs x j=>?_,λs ax c=>?_,λs cG c J dX=>?_,λs c J=>?_,h.lt,h.hd⟩,λc=>by simp,λs ax=>by simp [ax]⟩
 ·by_cases bM:s=t
  ·subst bM;simp only [cc,if_pos] at j;cases aI:g s with
   | none=>rw [aI] at j; cases j
   | some y =>
    rw [aI] at j;have:x=.dead:=by simpa [ab.setAt] using j.symm
    subst this;obtain ⟨v,hv,_⟩:=h.rel s y aI;exact ⟨v,hv,.tree (.dead (by simp))⟩
  ·simp only [cc,if_neg bM] at j; simpa [bM] using h.rel s x j
 ·by_cases bM:s=t
  ·simp [bM]
  ·simp only [cc,if_neg bM] at ax; simpa [bM] using h.kA s ax c
 ·by_cases h1:s=t <;> by_cases af:cG=t <;> simp [h1,af,cb] at J dX;exact h.et _ _ _ J dX
 ·by_cases h1:s=t <;> simp [h1,cb] at J;exact h.bc _ _ J
theorem R.uN {ρ:ab->Value->Prop}{Fs:Nat->a6}{x:ab}{v:Value}{xs:List ab}{vs:List Value}{dj:Nat->a6}(h:Hand w I ρ Fs (x::xs) (v::vs) dj):∀ c,dj 0 c->(∀ t,¬ Fs t c)/\∀ k,k<xs.length->¬ dj (k+1) c:=by
 intro c J;refine ⟨λt=>h.off 0 t c (by simp) J,λk hk hS=>?_⟩;have:=h.et 0 (k+1) c (by simp) (by simpa using hk) J hS;omega
theorem ly.head {Fs:Nat->a6}{x:ab}{xs:List ab}{dj:Nat->a6}{c:Nat}(h:(∃ t,Fs t c)\/dj 0 c\/∃ k,k<xs.length/\dj (k+1) c):ly Fs (x::xs).length dj c:=by
 rcases h with h | h | ⟨k,hk,h⟩
 ·exact .inl h
 ·exact .inr ⟨0,by simp,h⟩
 ·exact .inr ⟨k+1,by simpa using hk,h⟩
theorem FP {g:aG}{p:Place}{y:ab}{q:Place}(h:q.root≠p.root):bu (cc g p y) q=bu g q:=by
 grind [bu,cc]
theorem xF {g:aG}{p:Place}{y:ab}{t:Nat}(h:t≠p.root):cc g p y t=g t:=by
 grind [cc]
theorem Pq {a:Option Addr}{n cap ck mj:Nat}:(Value.slice a n cap).ownBlock=(Value.slice a ck mj).ownBlock:=by cases a <;> rfl
theorem Yi {e:TypeId}{z n N:Nat}{a:Option Addr}{cap:Nat}{us:List Value}(h:w.ownsRow 0 e z (.slice a N cap) N us) (az:n<=N):w.ownsRow 0 e z (.slice a n cap) n (us.take (n * z)):=by
 have hle:n * z<=N * z:=Nat.mul_le_mul_right _ az;obtain ⟨hu,bE⟩:=h;refine ⟨by rw [List.length_take,hu]; omega,?_⟩
 grind
theorem Take.sound {g g':aG}{xs xs':List ab}(h:Take g xs xs' g'):GH w I T g xs xs' g':=by
 induction h with
 | bd h=>exact λ{Fs vs dj} a_ hH=>⟨Fs,dj,a_,hH,λ_ h=>h⟩
 | @cons g g' x xs xs' j _ aK =>
  intro Fs vs dj a_ hH;cases vs with
  | nil=>have:=hH.len; simp at this
  | cons v vs =>
   obtain ⟨bY,ja,dU,UH,fN⟩:=aK a_ hH.tail;have aH:=R.uN hH;have off:∀ c,dj 0 c->¬ ly bY xs'.length ja c:=by
    intro c J au;rcases fN c au with ⟨t,h⟩ | ⟨k,hk,h⟩
    ·exact (aH c J).1 t h
    ·exact (aH c J).2 k hk h
   refine ⟨bY,_,dU,UH.cons (hH.rel 0 x v rfl rfl) (λk c hk J h=>off c J (.inr ⟨k,hk,h⟩)) (λt c J h=>off c J (.inl ⟨t,h⟩)) (λc J=>hH.bc 0 c (by simp) J),?_⟩;rintro c (h | ⟨k,hk,h⟩)
   ·rcases fN c (.inl h) with h | ⟨aa,ag,h⟩
    ·exact .inl h
    ·exact .inr ⟨aa+1,by simpa using ag,h⟩
   ·cases k with
    | zero=>exact .inr ⟨0,by simp,h⟩
    | succ k =>
     rcases fN c (.inr ⟨k,by simpa using hk,h⟩) with h | ⟨aa,ag,h⟩
     ·exact .inl h
     ·exact .inr ⟨aa+1,by simpa using ag,h⟩
 | @bn g g1 g' z n N p cs cs' xs xs' av az t1 _ ga fP =>
  intro Fs vs dj a_ hH;cases vs with
  | nil=>have:=hH.len; simp at this
  | cons v vs =>
   obtain ⟨p7,cp,gq,hh,di,kC⟩:=a_.part av (by simp);obtain ⟨a,iv,cap,h1,rfl,aJ⟩:=(hH.rel 0 _ v rfl rfl).mB;rw [h1] at gq;cases gq;obtain ⟨a2,q0,iC,_⟩:=hh.mE;cases iC;obtain ⟨fu,iU,iX,hU⟩:=kC .dead cb (.dead λ_ h=>h) (λ_ h=>h.elim) (λ_ h=>h.elim) (λ_ _ _ h=>h.elim) (λ_ h=>by cases h);have k9:∀ t c,fu t c->Fs t c/\¬ cp c:=by
    intro t c J;by_cases ak:t=p.root
    ·subst ak;rcases (iX c).1 J with h | h
     ·exact h
     ·exact h.elim
    ·rw [hU t ak] at J;exact ⟨J,λej=>ak (a_.et _ _ _ J (di c ej))⟩
   cases hh with
   | ref j=>simp [ab.isRef] at j
   | @own _ _ _ _ e us bK _ aM ah kr aj aO au aE =>
    have ER:∀ k,k<(cs.take (n * z)).length->k<cs.length:=λk hk=>by rw [List.length_take] at hk; omega
    have eG:∀ k c,k<(cs.take (n * z)).length->bK k c->cp c:=λk c hk J=>(aE c).2 (.inr ⟨k,ER k hk,J⟩);have jx:Hand w I (fL w T) fu (cs.take (n * z)) (us.take (n * z)) bK:=by
     refine ⟨by simp [ah],λk x u j hu=>?_,λaa k c ag hk=>aO aa k c (ER aa ag) (ER k hk),λk t c hk J aU=>(k9 t c aU).2 (eG k c hk J),λk c hk J=>a_.bc _ c (di c (eG k c hk J))⟩;rw [List.getElem?_take] at j hu
     split at j
     ·rename_i dc; rw [if_pos dc] at hu; exact aj k x u j hu
     ·cases j
    have jB:=Yi aM az;obtain ⟨bY,ja,aw,a2,a3⟩:=Take.node (g1:=cc g p .dead) (Fs:=Fs) (B:=λc=>(Value.slice a n cap).ownBlock=some c) (H0:=dj 0) (X:=.own z n cs') (v0:=.slice a n cap) iU jx
     (λc J=>by
      have ej:cp c:=(aE c).2 (.inl (by rw [<- J]; exact Pq));exact ⟨⟨_,di c ej⟩,λt aU=>(k9 t c aU).2 ej,λk hk hS=>au k c (ER k hk) hS (by rw [<- J]; exact Pq),a_.bc _ c (di c ej)⟩)
     (λc J=>by
      rcases J with ⟨t,h⟩ | ⟨k,hk,h⟩
      ·exact .inl ⟨t,(k9 t c h).1⟩
      ·exact .inl ⟨_,di c (eG k c hk h)⟩)
     hH.tail (R.uN hH) ga fP (λx5 gH hs k7=>by
      refine .own jB (by rw [t1.length]; simp [ah]) (λk u hu=>?_) gH hs (λk c hk J h=>k7 k c hk J h) λc=>Iff.rfl;rw [List.getElem?_take] at hu
      split at hu
      ·exact kr k u hu
      ·cases hu)
    exact ⟨bY,ja,aw,a2,λc J=>ly.head (a3 c J)⟩
 | @bC g g1 g' z n m t q cs new cs' xs xs' ak av ba t1 _ ga fP =>
  intro Fs vs dj a_ hH;cases vs with
  | nil=>have:=hH.len; simp at this
  | cons v vs =>
   obtain ⟨a,iv,cap,h1,rfl,aJ⟩:=(hH.rel 0 _ v rfl rfl).mB;obtain ⟨v0,iY,fj⟩:=a_.rel t _ ak;simp only [dN,iY,walk,Option.some.injEq] at h1;subst h1;obtain ⟨bv,e,b7,us,news,fj⟩:=fj.vd;have a8:iv=n+m:=by
    obtain ⟨_,bE⟩:=fj.m';rcases bE with ⟨bE,aH⟩ | ⟨_,_,_,bE,_⟩
    ·cases bE; omega
    ·cases bE; rfl
   subst a8;obtain ⟨Q4,Ib,eM,fk⟩:=a_.kill t;have I9:bu (cc g ⟨t,[]⟩ .dead) q=some (.own z n cs):=by rw [FP (by simpa using ba)]; exact av
   obtain ⟨p7,cp,gq,hh,di,kC⟩:=Ib.part I9 (by simp);obtain ⟨b3,mj,bo,rfl⟩:=fj.j_;rw [bo] at gq;cases gq;obtain ⟨fu,iU,iX,hU⟩:=kC .dead cb (.dead λ_ h=>h) (λ_ h=>h.elim) (λ_ h=>h.elim) (λ_ _ _ h=>h.elim) (λ_ h=>by cases h);have pA:∀ c,cp c->Fs q.root c:=λc J=>by have:=di c J; rwa [fk _ ba] at this
   have k9:∀ s c,fu s c->Fs s c/\¬ cp c/\s≠t:=by
    intro s c J;have bM:s≠t:=by
     rintro rfl;by_cases uZ:s=q.root
     ·exact ba uZ.symm
     ·rw [hU s uZ] at J; exact eM c J
    by_cases ax:s=q.root
    ·subst ax;rcases (iX c).1 J with h | h
     ·exact ⟨by have:=h.1; rwa [fk _ ba] at this,h.2,bM⟩
     ·exact h.elim
    ·rw [hU s ax,fk s bM] at J;exact ⟨J,λej=>ax (a_.et _ _ _ J (pA c ej)),bM⟩
   cases hh with
   | ref j=>simp [ab.isRef] at j
   | @own _ _ _ _ bZ im bK _ aM ah kr aj aO au aE =>
    have:=Kj aM fj.iB;subst this;have eG:∀ k c,k<cs.length->bK k c->cp c:=λk c hk J=>(aE c).2 (.inr ⟨k,hk,J⟩);have jx:Hand w I (fL w T) fu (cs++new) (im++news) (λk=>if k<cs.length then bK k else cb):=by
     refine ⟨by simp [ah,fj.ah],λk x u j hu=>?_,λaa k c ag hk J dX=>?_,λk s c hk J aU=>?_,λk c hk J=>?_⟩
     ·by_cases dc:k<cs.length
      ·rw [List.getElem?_append_left dc] at j;rw [List.getElem?_append_left (by omega)] at hu;simpa [dc] using aj k x u j hu
      ·rw [List.getElem?_append_right (by omega)] at j;rw [List.getElem?_append_right (by omega),<- ah] at hu;simpa [dc] using fj.aj _ x u j hu
     ·by_cases eW:aa<cs.length <;> by_cases dc:k<cs.length <;> simp [eW,dc,cb] at J dX;exact aO aa k c eW dc J dX
     ·by_cases dc:k<cs.length <;> simp [dc,cb] at J;exact (k9 s c aU).2.1 (eG k c dc J)
     ·by_cases dc:k<cs.length <;> simp [dc,cb] at J;exact a_.bc _ c (pA c (eG k c dc J))
    obtain ⟨bY,ja,aw,a2,a3⟩:=Take.node (g1:=cc (cc g ⟨t,[]⟩ .dead) q .dead) (Fs:=Fs) (B:=λc=>(Value.slice a (n+m) cap).ownBlock=some c) (H0:=dj 0) (X:=.own z (n+m) cs') (v0:=.slice a (n+m) cap) iU jx
     (λc J=>by
      by_cases ra:(Value.slice b3 n mj).ownBlock=some c
      ·have ej:cp c:=(aE c).2 (.inl ra);refine ⟨⟨_,pA c ej⟩,λs aU=>(k9 s c aU).2.1 ej,λk hk hS=>?_,a_.bc _ c (pA c ej)⟩;by_cases dc:k<cs.length <;> simp [dc,cb] at hS;exact au k c dc hS ra
      ·have ES:Fs t c:=(fj.aE c).2 ⟨J,ra⟩;refine ⟨⟨_,ES⟩,λs aU=>(k9 s c aU).2.2 (a_.et _ _ _ (k9 s c aU).1 ES),λk hk hS=>?_,a_.bc _ c ES⟩;by_cases dc:k<cs.length <;> simp [dc,cb] at hS;exact ba (a_.et _ _ _ (pA c (eG k c dc hS)) ES))
     (λc J=>by
      rcases J with ⟨s,h⟩ | ⟨k,hk,h⟩
      ·exact .inl ⟨s,(k9 s c h).1⟩
      ·by_cases dc:k<cs.length <;> simp [dc,cb] at h;exact .inl ⟨_,pA c (eG k c dc h)⟩)
     hH.tail (R.uN hH) ga fP (λx5 gH hs k7=>by
      refine .own fj.m' (by rw [t1.length]; simp [ah,fj.ah]) (λk u hu=>?_) gH hs (λk c hk J h=>k7 k c hk J h) λc=>Iff.rfl;by_cases dc:k<im.length
      ·rw [List.getElem?_append_left dc] at hu; exact kr k u hu
      ·rw [List.getElem?_append_right (by omega)] at hu; exact fj.h1 _ u hu)
    exact ⟨bY,ja,aw,a2,λc J=>ly.head (a3 c J)⟩
 | @zf g g1 g' z n m t qy m2 t2 q cs new zb cs' xs xs' ak Oc az av ba qo WE t1 _ ga fP =>
  subst az;intro Fs vs dj a_ hH;cases vs with
  | nil=>have:=hH.len; simp at this
  | cons v vs =>
   obtain ⟨a,iv,cap,h1,rfl,aJ⟩:=(hH.rel 0 _ v rfl rfl).mB;obtain ⟨v0,iY,fj⟩:=a_.rel t _ ak;simp only [dN,iY,walk,Option.some.injEq] at h1;subst h1;obtain ⟨bv,e,b7,us,news,fj⟩:=fj.vd;have a8:iv=qy+m2+m:=by
    obtain ⟨_,bE⟩:=fj.m';rcases bE with ⟨bE,aH⟩ | ⟨_,_,_,bE,_⟩
    ·cases bE; omega
    ·cases bE; rfl
   subst a8;obtain ⟨v2,qq,l4⟩:=a_.rel t2 _ Oc;obtain ⟨Mj,bZ,tf,Z0,J8,l4⟩:=l4.vd;have j_:bv=v2:=by
    obtain ⟨aw,Mu,cu,rfl⟩:=fj.j_;simp only [dN,qq,walk,Option.some.injEq] at cu;exact cu.symm
   subst j_;have ih:us=Z0++J8:=Kj fj.iB l4.m';subst ih;obtain ⟨aaw,U1,V1,IQ⟩:=a_.kill t;obtain ⟨Q4,Ib,eM,fk⟩:=U1.kill t2;have I9:bu (cc (cc g ⟨t,[]⟩ .dead) ⟨t2,[]⟩ .dead) q=some (.own z qy cs):=by rw [FP (by simpa using qo),FP (by simpa using ba)]; exact av
   obtain ⟨p7,cp,gq,hh,di,kC⟩:=Ib.part I9 (by simp);obtain ⟨b3,mj,bo,rfl⟩:=l4.j_;rw [bo] at gq;cases gq;obtain ⟨fu,iU,iX,hU⟩:=kC .dead cb (.dead λ_ h=>h) (λ_ h=>h.elim) (λ_ h=>h.elim) (λ_ _ _ h=>h.elim) (λ_ h=>by cases h);have pA:∀ c,cp c->Fs q.root c:=λc J=>by have:=di c J; rwa [fk _ qo,IQ _ ba] at this
   have k9:∀ s c,fu s c->Fs s c/\¬ cp c/\s≠t/\s≠t2:=by
    intro s c J;have ob:s≠t2:=by
     rintro rfl;by_cases uZ:s=q.root
     ·exact qo uZ.symm
     ·rw [hU s uZ] at J; exact eM c J
    have bM:s≠t:=by
     rintro rfl;by_cases uZ:s=q.root
     ·exact ba uZ.symm
     ·rw [hU s uZ,fk s ob] at J; exact V1 c J
    by_cases ax:s=q.root
    ·subst ax;rcases (iX c).1 J with h | h
     ·exact ⟨by have:=h.1; rwa [fk _ qo,IQ _ ba] at this,h.2,bM,ob⟩
     ·exact h.elim
    ·rw [hU s ax,fk s ob,IQ s bM] at J;exact ⟨J,λej=>ax (a_.et _ _ _ J (pA c ej)),bM,ob⟩
   cases hh with
   | ref j=>simp [ab.isRef] at j
   | @own _ _ _ _ e1 im bK _ aM ah kr aj aO au aE =>
    have:=Kj aM l4.iB;subst this;have eG:∀ k c,k<cs.length->bK k c->cp c:=λk c hk J=>(aE c).2 (.inr ⟨k,hk,J⟩);have jx:Hand w I (fL w T) fu (cs++zb++new) (im++J8++news) (λk=>if k<cs.length then bK k else cb):=by
     have gz:=l4.ah;have Cb:=fj.ah;refine ⟨by simp [ah,gz,Cb],λk x u j hu=>?_,λaa k c ag hk J dX=>?_,λk s c hk J aU=>?_,λk c hk J=>?_⟩
     ·rw [List.append_assoc] at j hu;by_cases dc:k<cs.length
      ·rw [List.getElem?_append_left dc] at j;rw [List.getElem?_append_left (by omega)] at hu;simpa [dc] using aj k x u j hu
      ·rw [List.getElem?_append_right (by omega)] at j;rw [List.getElem?_append_right (by omega),<- ah] at hu;simp only [dc,if_false];by_cases IX:k - cs.length<zb.length
       ·rw [List.getElem?_append_left IX] at j;rw [List.getElem?_append_left (by omega)] at hu;exact l4.aj _ x u j hu
       ·rw [List.getElem?_append_right (by omega)] at j;rw [List.getElem?_append_right (by omega),<- gz] at hu;exact fj.aj _ x u j hu
     ·by_cases eW:aa<cs.length <;> by_cases dc:k<cs.length <;> simp [eW,dc,cb] at J dX;exact aO aa k c eW dc J dX
     ·by_cases dc:k<cs.length <;> simp [dc,cb] at J;exact (k9 s c aU).2.1 (eG k c dc J)
     ·by_cases dc:k<cs.length <;> simp [dc,cb] at J;exact a_.bc _ c (pA c (eG k c dc J))
    have Qj:∀ s c,Fs s c->s=t\/s=t2->(∃ s,Fs s c)/\(∀ s,¬ fu s c)/\(∀ k,k<(cs++zb++new).length->¬ (if k<cs.length then bK k else cb) c)/\¬ I c:=by
     intro s c J ax;refine ⟨⟨_,J⟩,λcG aU=>?_,λk hk hS=>?_,a_.bc _ c J⟩
     ·obtain ⟨f1,_,f2,f3⟩:=k9 cG c aU;have:=a_.et _ _ _ f1 J;rcases ax with rfl | rfl
      ·exact f2 this
      ·exact f3 this
     ·by_cases dc:k<cs.length <;> simp [dc,cb] at hS;have:=a_.et _ _ _ (pA c (eG k c dc hS)) J;rcases ax with rfl | rfl
      ·exact ba this
      ·exact qo this
    obtain ⟨bY,ja,aw,a2,a3⟩:=Take.node (g1:=cc (cc (cc g ⟨t,[]⟩ .dead) ⟨t2,[]⟩ .dead) q .dead) (Fs:=Fs) (B:=λc=>(Value.slice a (qy+m2+m) cap).ownBlock=some c) (H0:=dj 0) (X:=.own z (qy+m2+m) cs') (v0:=.slice a (qy+m2+m) cap) iU jx
     (λc J=>by
      by_cases ra:bv.ownBlock=some c
      ·by_cases It:(Value.slice b3 qy mj).ownBlock=some c
       ·have ej:cp c:=(aE c).2 (.inl It);refine ⟨⟨_,pA c ej⟩,λs aU=>(k9 s c aU).2.1 ej,λk hk hS=>?_,a_.bc _ c (pA c ej)⟩;by_cases dc:k<cs.length <;> simp [dc,cb] at hS;exact au k c dc hS It
       ·exact Qj t2 c ((l4.aE c).2 ⟨ra,It⟩) (.inr rfl)
      ·exact Qj t c ((fj.aE c).2 ⟨J,ra⟩) (.inl rfl))
     (λc J=>by
      rcases J with ⟨s,h⟩ | ⟨k,hk,h⟩
      ·exact .inl ⟨s,(k9 s c h).1⟩
      ·by_cases dc:k<cs.length <;> simp [dc,cb] at h;exact .inl ⟨_,pA c (eG k c dc h)⟩)
     hH.tail (R.uN hH) ga fP (λx5 gH hs k7=>by
      refine .own fj.m' (by rw [t1.length]; simp [ah,l4.ah,fj.ah]) (λk u hu=>?_) gH hs (λk c hk J h=>k7 k c hk J h) λc=>Iff.rfl;rw [List.append_assoc] at hu;by_cases dc:k<im.length
      ·rw [List.getElem?_append_left dc] at hu; exact kr k u hu
      ·rw [List.getElem?_append_right (by omega)] at hu;by_cases IX:k - im.length<J8.length
       ·rw [List.getElem?_append_left IX] at hu; exact l4.h1 _ u hu
       ·rw [List.getElem?_append_right (by omega)] at hu; exact fj.h1 _ u hu)
    exact ⟨bY,ja,aw,a2,λc J=>ly.head (a3 c J)⟩
 | @obj g g1 g' p cs cs' xs xs' av t1 _ ga fP =>
  intro Fs vs dj a_ hH;cases vs with
  | nil=>have:=hH.len; simp at this
  | cons v vs =>
   obtain ⟨p7,cp,gq,hh,di,kC⟩:=a_.part av (by simp);obtain ⟨u,ad,h1,af,rfl⟩:=(hH.rel 0 _ v rfl rfl).mC;rw [h1] at gq;cases gq;obtain ⟨fu,iU,iX,hU⟩:=kC .dead cb (.dead λ_ h=>h) (λ_ h=>h.elim) (λ_ h=>h.elim) (λ_ _ _ h=>h.elim) (λ_ h=>by cases h);have k9:∀ t c,fu t c->Fs t c/\¬ cp c:=by
    intro t c J;by_cases ak:t=p.root
    ·subst ak;rcases (iX c).1 J with h | h
     ·exact h
     ·exact h.elim
    ·rw [hU t ak] at J;exact ⟨J,λej=>ak (a_.et _ _ _ J (di c ej))⟩
   cases hh with
   | ref j=>simp [ab.isRef] at j
   | @obj _ b e arr bK _ aM ah kr aj aO au aE ax =>
    simp only [addrOf,Option.some.injEq] at af;subst af;have eG:∀ k c,k<cs.length->bK k c->cp c:=λk c hk J=>(aE c).2 (.inr ⟨k,hk,J⟩);have jx:Hand w I (fL w T) fu cs arr.toList bK :=
     ⟨by simp [ah],λk x u j hu=>aj k x u j (by simpa using hu),aO,λk t c hk J aU=>(k9 t c aU).2 (eG k c hk J),λk c hk J=>a_.bc _ c (di c (eG k c hk J))⟩
    obtain ⟨bY,ja,aw,a2,a3⟩:=Take.node (g1:=cc g p .dead) (Fs:=Fs) (B:=λc=>c=b) (H0:=dj 0) (X:=.obj cs') (v0:=.pointer (some ⟨b,0,none⟩)) iU jx
     (λc J=>by
      subst J;have ej:cp c:=(aE c).2 (.inl rfl);exact ⟨⟨_,di c ej⟩,λt aU=>(k9 t c aU).2 ej,λk hk hS=>au k hk hS,a_.bc _ c (di c ej)⟩)
     (λc J=>by
      rcases J with ⟨t,h⟩ | ⟨k,hk,h⟩
      ·exact .inl ⟨t,(k9 t c h).1⟩
      ·exact .inl ⟨_,di c (eG k c hk h)⟩)
     hH.tail (R.uN hH) ga fP (λx5 gH hs k7=>by
      refine .obj aM (by rw [t1.length,ah]) kr (λk x u j hu=>gH k x u j (by simpa using hu)) hs (λk hk h=>k7 k b hk h rfl) (λc=>Iff.rfl) λk aa u hk=>ax k aa u (t1.self k aa hk))
    exact ⟨bY,ja,aw,a2,λc J=>ly.head (a3 c J)⟩
 | @mp g g1 g' p q xs xs' av t1 _ ga fP =>
  intro Fs vs dj a_ hH;cases vs with
  | nil=>have:=hH.len; simp at this
  | cons v vs =>
   obtain ⟨p7,cp,gq,hh,di,kC⟩:=a_.part av (by simp);have hm:=hH.rel 0 _ v rfl rfl;cases hm with
   | ref _ hm _ =>
   obtain ⟨GX,h1,rfl⟩:=hm;rw [h1] at gq;cases gq;obtain ⟨fu,iU,iX,hU⟩:=kC .dead cb (.dead λ_ h=>h) (λ_ h=>h.elim) (λ_ h=>h.elim) (λ_ _ _ h=>h.elim) (λ_ h=>by cases h);have k9:∀ t c,fu t c->Fs t c/\¬ cp c:=by
    intro t c J;by_cases ak:t=p.root
    ·subst ak;rcases (iX c).1 J with h | h
     ·exact h
     ·exact h.elim
    ·rw [hU t ak] at J;exact ⟨J,λej=>ak (a_.et _ _ _ J (di c ej))⟩
   cases hh with
   | ref j=>simp [ab.isRef] at j
   | @mp _ b es clock _ aM ba aE =>
    have jx:Hand w I (fL w T) fu [] [] (λ_=>cb) :=
     ⟨rfl,λk x u j=>by simp at j,λ_ _ _ _ _ h=>h.elim,λ_ _ _ _ h=>h.elim,λ_ _ _ h=>h.elim⟩
    obtain ⟨bY,ja,aw,a2,a3⟩:=Take.node (g1:=cc g p .dead) (Fs:=Fs) (B:=λc=>c=b) (H0:=dj 0) (X:=.mp q) (v0:=.map (some b)) iU jx
     (λc J=>by
      subst J;have ej:cp c:=(aE c).2 rfl;exact ⟨⟨_,di c ej⟩,λt aU=>(k9 t c aU).2 ej,λk hk _=>by simp at hk,a_.bc _ c (di c ej)⟩)
     (λc J=>by
      rcases J with ⟨t,h⟩ | ⟨k,hk,h⟩
      ·exact .inl ⟨t,(k9 t c h).1⟩
      ·exact h.elim)
     hH.tail (R.uN hH) ga fP (λx5 gH hs k7=>by
      refine .mp aM ba λc=>⟨λh=>h.elim id λ⟨_,hk,_⟩=>by simp at hk,.inl⟩)
    exact ⟨bY,ja,aw,a2,λc J=>ly.head (a3 c J)⟩
 | @agg g g1 g' cs cs' xs xs' t1 _ ga fP =>
  intro Fs vs dj a_ hH;cases vs with
  | nil=>have:=hH.len; simp at this
  | cons v vs =>
   have j:=hH.rel 0 _ v rfl rfl;have aH:=R.uN hH;cases j with
   | ref j=>simp [ab.isRef] at j
   | @agg _ us bK _ ah kr aj aO aE =>
    have eG:∀ k c,k<cs.length->bK k c->dj 0 c:=λk c hk J=>(aE c).2 ⟨k,hk,J⟩;obtain ⟨bY,ja,aw,a2,a3⟩:=Take.node (g1:=g) (Fs:=Fs) (B:=cb) (H0:=dj 0) (X:=.agg cs') (v0:=.agg us) a_
     (⟨by simp [ah],λk x u j hu=>aj k x u j (by simpa using hu),aO,λk t c hk J=>(aH c (eG k c hk J)).1 t,λk c hk J=>hH.bc 0 c (by simp) (eG k c hk J)⟩:Hand w I (fL w T) Fs cs us.toList bK)
     (λc J=>J.elim)
     (λc J=>by
      rcases J with h | ⟨k,hk,h⟩
      ·exact .inl h
      ·exact .inr (eG k c hk h))
     hH.tail aH ga fP (λx5 gH hs k7=>by
      refine .agg (by rw [t1.length,ah]) kr (λk x u j hu=>gH k x u j (by simpa using hu)) hs λc=>⟨λh=>h.elim (λh=>h.elim) id,.inr⟩)
    exact ⟨bY,ja,aw,a2,λc J=>ly.head (a3 c J)⟩
 | @bN g g1 g' cs cs' xs xs' t1 _ ga fP =>
  intro Fs vs dj a_ hH;cases vs with
  | nil=>have:=hH.len; simp at this
  | cons v vs =>
   have j:=hH.rel 0 _ v rfl rfl;have aH:=R.uN hH;cases j with
   | ref j=>simp [ab.isRef] at j
   | @bN _ us bK _ ah aj aO aE =>
    have eG:∀ k c,k<cs.length->bK k c->dj 0 c:=λk c hk J=>(aE c).2 ⟨k,hk,J⟩;obtain ⟨bY,ja,aw,a2,a3⟩:=Take.node (g1:=g) (Fs:=Fs) (B:=cb) (H0:=dj 0) (X:=.bN cs') (v0:=.tuple us) a_
     (⟨by simp [ah],λk x u j hu=>aj k x u j (by simpa using hu),aO,λk t c hk J=>(aH c (eG k c hk J)).1 t,λk c hk J=>hH.bc 0 c (by simp) (eG k c hk J)⟩:Hand w I (fL w T) Fs cs us.toList bK)
     (λc J=>J.elim)
     (λc J=>by
      rcases J with h | ⟨k,hk,h⟩
      ·exact .inl h
      ·exact .inr (eG k c hk h))
     hH.tail aH ga fP (λx5 gH hs k7=>by
      refine .bN (by rw [t1.length,ah]) (λk x u j hu=>gH k x u j (by simpa using hu)) hs λc=>⟨λh=>h.elim (λh=>h.elim) id,.inr⟩)
    exact ⟨bY,ja,aw,a2,λc J=>ly.head (a3 c J)⟩
end
end Go.Own
namespace Go.Own
open Go
set_option linter.unusedSectionVars false
variable [cw]
inductive j7 (mf:ab->Prop):ab->Prop
 | bd {x:ab}(h:cE x):j7 mf x
 | ref {x:ab}(j:x.isRef=true) (h:mf x):j7 mf x
 | own {z n:Nat}{cs:List ab}(h:∀ x∈cs,j7 mf x):j7 mf (.own z n cs)
 | obj {cs:List ab}(h:∀ x∈cs,j7 mf x):j7 mf (.obj cs)
 | agg {cs:List ab}(h:∀ x∈cs,j7 mf x):j7 mf (.agg cs)
 | bN {cs:List ab}(h:∀ x∈cs,j7 mf x):j7 mf (.bN cs)
 | c7 {fn:Fn}{a b:List ab}(h1:∀ x∈a,j7 mf x) (af:∀ x∈b,j7 mf x):j7 mf (.c7 fn a b)
def zM:ab->Option Place
 | .ptr p _=>some p
 | .bn _ p _=>some p
 | .sub _ p _ _=>some p
 | .bC _ p _ _ _=>some p
 | .ha p=>some p
 | _=>none
def Clear (p:Place) (k m:Nat) (r:ab):Prop:=∀ q,zM r=some q->q.root=p.root->∀ aa dk,q.path=p.path++aa::dk->aa<k\/k+m<=aa
def ew {α:Type}(l:List α) (k:Nat) (c:List α):List α:=l.take k++c++l.drop (k+c.length)
theorem qK {α:Type}{l:List α}{k:Nat}{c:List α}(h:k+c.length<=l.length):(ew l k c).length=l.length:=by
 simp [ew]; omega
theorem qJ {α:Type}{l:List α}{k:Nat}{c:List α}(h:k+c.length<=l.length) (aa:Nat):(ew l k c)[aa]?=if k<=aa/\aa<k+c.length then c[aa - k]? else l[aa]?:=by
 unfold ew;rw [List.append_assoc];by_cases h1:aa<k
 ·rw [List.getElem?_append_left (by simp; omega),List.getElem?_take,if_pos h1,if_neg (by omega)]
 ·rw [List.getElem?_append_right (by simp; omega)];have:(l.take k).length=k:=by simp; omega
  rw [this];by_cases af:aa<k+c.length
  ·rw [List.getElem?_append_left (by omega),if_pos ⟨by omega,af⟩]
  ·rw [List.getElem?_append_right (by omega),List.getElem?_drop,if_neg (by omega)];congr 1; omega
theorem Zr {α:Type}{l:List α}{k:Nat}{c:List α}{m:Nat}(h:k+c.length<=m) (hm:m<=l.length):(ew l k c).take m=ew (l.take m) k c:=by
 have h1:k+c.length<=(l.take m).length:=by rw [List.length_take]; omega
 apply List.ext_getElem?;intro aa;rw [List.getElem?_take,qJ h1,qJ (l:=l) (by omega),List.getElem?_take];by_cases ag:aa<m
 ·rw [if_pos ag,if_pos ag]
 ·rw [if_neg ag,if_neg ag,if_neg (by omega)]
def ab.ew (x:ab) (k:Nat) (c:List ab):ab :=
 match x with
 | .own z n cs=>.own z n (Own.ew cs k c)
 | .obj cs=>.obj (Own.ew cs k c)
 | x=>x
section
variable {w:World}{I:a6}{T:Array Value}{g:aG}{Fs:Nat->a6}
theorem R.C9 {ρ:ab->Value->Prop}{mf:ab->Prop}{x:ab}{v:Value}{F:a6}(h:R w I ρ x v F):j7 mf x->R w I (λr u=>ρ r u/\mf r) x v F:=by
 induction h with
 | lit h aE=>exact λ_=>.lit h aE
 | bf aE=>exact λ_=>.bf aE
 | dead aE=>exact λ_=>.dead aE
 | j1 aE=>exact λ_=>.j1 aE
 | @ref x _ _ j h aE =>
  intro hk;refine .ref j ⟨h,?_⟩ aE;cases hk with
  | ref _ h=>exact h
  | bd h=>cases h <;> simp [ab.isRef] at j
  | _=>simp [ab.isRef] at j
 | hj aE=>exact λ_=>.hj aE
 | mp aM av aE=>exact λ_=>.mp aM av aE
 | dv aM h1 aE=>exact λ_=>.dv aM h1 aE
 | imp aE bb aM av=>exact λ_=>.imp aE bb aM av
 | bc aE kv bb ax ah h1 J aj aK =>
  intro hk;cases hk with
  | ref j=>simp [ab.isRef] at j
  | bd h=>cases h with | bc h=>exact .bc aE kv bb ax ah h1 J λk x j=>aK k x j (.bd (h x (List.mem_of_getElem? j)))
 | cJ aE bb ax h1 J aj aK =>
  intro hk;cases hk with
  | ref j=>simp [ab.isRef] at j
  | bd h=>cases h with | cJ h=>exact .cJ aE bb ax h1 J λk x j=>aK k x j (.bd (h x (List.mem_of_getElem? j)))
 | own aM ah h1 aj aO au aE aK =>
  intro hk;refine .own aM ah h1 (λk x u j hu=>aK k x u j hu ?_) aO au aE;cases hk with
  | ref j=>simp [ab.isRef] at j
  | bd h=>cases h with | own h=>exact .bd (h x (List.mem_of_getElem? j))
  | own h=>exact h x (List.mem_of_getElem? j)
 | obj aM ah h1 aj aO au aE ax aK =>
  intro hk;refine .obj aM ah h1 (λk x u j hu=>aK k x u j hu ?_) aO au aE ax;cases hk with
  | ref j=>simp [ab.isRef] at j
  | bd h=>cases h with | obj h=>exact .bd (h x (List.mem_of_getElem? j))
  | obj h=>exact h x (List.mem_of_getElem? j)
 | agg ah h1 aj aO aE aK =>
  intro hk;refine .agg ah h1 (λk x u j hu=>aK k x u j hu ?_) aO aE;cases hk with
  | ref j=>simp [ab.isRef] at j
  | bd h=>cases h with | agg h=>exact .bd (h x (List.mem_of_getElem? j))
  | agg h=>exact h x (List.mem_of_getElem? j)
 | bN ah aj aO aE aK =>
  intro hk;refine .bN ah (λk x u j hu=>aK k x u j hu ?_) aO aE;cases hk with
  | ref j=>simp [ab.isRef] at j
  | bd h=>cases h with | bN h=>exact .bd (h x (List.mem_of_getElem? j))
  | bN h=>exact h x (List.mem_of_getElem? j)
 | @c7 fn first caps v1 v2 F aE h1 af iX hU ga fP =>
  intro hk;have:(∀ x∈first,j7 mf x)/\∀ x∈caps,j7 mf x:=by
   cases hk with
   | ref j=>simp [ab.isRef] at j
   | bd h=>cases h with | c7 h1 af=>exact ⟨λx j=>.bd (h1 x j),λx j=>.bd (af x j)⟩
   | c7 h1 af=>exact ⟨h1,af⟩
  exact .c7 aE h1 af (λk x u j hu=>ga k x u j hu (this.1 x (List.mem_of_getElem? j))) (λk x u j hu=>fP k x u j hu (this.2 x (List.mem_of_getElem? j)))
theorem jc.store (a_:jc w I T g Fs) {p:Place}{nd:ab}{z n:Nat}{cs:List ab}(av:bu g p=some nd) (ft:nd=.own z n cs\/nd=.obj cs) {k:Nat}{cs':List ab}(hk:k+cs'.length<=cs.length)
  {im:List Value}{dj:Nat->a6}(hH:Hand w I (fL w T) Fs cs' im dj) (mu:∀ x∈cs',cE x) (kR:nd=.obj cs->qS cs') (fy:∀ (aa:Nat) (u:Value),im[aa]?=some u->u.oneCell'=true)
  {g2:aG}(Bp:∀ t x,g2 t=some x->cc g p (nd.ew k cs') t=some x)
  (BF:∀ t x,g2 t=some x->∀ y,g t=some y->j7 (λr=>gG g r/\Clear p k cs'.length r/\gG g2 r) y) (l7:∀ t z q n m new,g2 t≠some (.bC z q n m new)) (mw:g2 p.root≠none) {b:Nat}{v:Value}
  (hv:dN w T p=some v) (au:addrOf v=some ⟨b,0,none⟩) {e:TypeId}{arr:Array Value}(jX:w.heap[b]?=some (.cells arr e (0,0))) :
  ∃ bY,cB (w.setRow b (ew arr.toList k im).toArray) I T g2 bY/\∀ t c,bY t c->Fs t c\/∃ aa,aa<cs'.length/\dj aa c:=by
 have kU:∀ z q n m new,nd≠.bC z q n m new:=by rcases ft with rfl | rfl <;> simp
 have hlen:=hH.len;have rS:∀ c,c≠b->(w.setRow b (ew arr.toList k im).toArray).heap[c]?=w.heap[c]?:=λc J=>setRow_other w b c _ J;have K3:(w.setRow b (ew arr.toList k im).toArray).heap[b]?=some (.cells (ew arr.toList k im).toArray e (0,0)):=setRow_heap w b arr _ e (0,0) jX;have adT:(w.setRow b (ew arr.toList k im).toArray).heap.size=w.heap.size:=by simp
 generalize wR:w.setRow b (ew arr.toList k im).toArray=w' at *
 -- the slot of the node
 obtain ⟨ez,jC⟩:∃ ez,g p.root=some ez:=by
  unfold bu at av;cases j:g p.root with
  | none=>rw [j] at av; cases av
  | some x=>exact ⟨x,rfl⟩
 have q':ez.at p.path=some nd:=by simpa [bu,jC] using av
 obtain ⟨v0,iY,fj⟩:=a_.rel _ _ jC;have H2:=fj.fS (by rintro z q n m new rfl; exact kU _ _ _ _ _ (ab.s9 q').2);have jA:j7 (λr=>gG g r/\Clear p k cs'.length r/\gG g2 r) ez:=by
  cases af:g2 p.root with
  | none=>exact absurd af mw
  | some y=>exact BF _ _ af _ jC
 let Lh:ab->Value->Prop:=λr u=>fL w T r u/\gG g r/\Clear p k cs'.length r/\gG g2 r;have q_:R w I Lh ez v0 (Fs p.root):=H2.C9 jA;obtain ⟨hX,cp,hw,dA,di,ey,kC⟩:=R.focus p.path q_ q';have WQ:hX=v:=by simp only [dN,iY,hw,Option.some.injEq] at hv; exact hv
 subst WQ;have n5:cp b:=dA.Fm (z:=z) (n:=n) ft au;have same:∀ t c,Fs t c->c≠b->w'.heap[c]?=w.heap[c]?:=λ_ c _ J=>rS c J;have yC:∀ c,I c->w'.heap[c]?=w.heap[c]?:=λc J=>rS c λe=>a_.bc _ b (di b n5) (e ▸ J);have N4:∀ t,t≠p.root->¬ Fs t b:=λt ak h=>ak (a_.et _ _ _ h (di b n5))
 -- ways that are clear of the cells
 obtain ⟨Z6,Z7⟩:=ey w' λc J az=>rS c λe=>az (e ▸ n5);have OP:∀ (ρ':ab->Value->Prop),(∀ x v,Lh x v->ρ' x v)->(∃ cM,R w' I ρ' (nd.ew k cs') hX cM/\∀ c,cM c->cp c\/∃ aa,aa<cs'.length/\dj aa c)/\∀ aa dk y,(aa<k\/k+cs'.length<=aa)->nd.at (aa::dk)=some y->walk w' hX (aa::dk)=walk w hX (aa::dk):=by
  intro ρ' lf;have new:∀ (aa:Nat) (x:ab) (u:Value),cs'[aa]?=some x->im[aa]?=some u->R w' I ρ' x u (dj aa):=by
   intro aa x u j hu;have ag:aa<cs'.length:=(List.getElem?_eq_some_iff.1 j).1;have:=(hH.rel aa x u j hu).bd (ρ':=ρ') (mu x (List.mem_of_getElem? j));exact this.frame yC (λ_ h=>h) (λ_ _ h=>h) λc J=>rS c λe=>hH.off aa p.root b ag (e ▸ J) (di b n5)
  rcases ft with rfl | rfl
  ·cases dA with
   | ref j=>simp [ab.isRef] at j
   | @own _ _ _ _ bZ us bK _ aM ah h1 aj aO iV aE =>
    obtain ⟨ih,bE⟩:=aM;rcases bE with ⟨rfl,_⟩ | ⟨ix,cap,cur,rfl,o2,jJ,rL,tR,zL,xy⟩
    ·simp [addrOf] at au
    ·simp only [addrOf,Option.some.injEq,Addr.mk.injEq,and_true] at au;subst au;rw [jX] at jJ;cases jJ;have NG:n * z<=arr.toList.length:=by
      rw [<- ih,<- xy,List.length_take] ; simp; omega
     have adu:us.length=cs.length:=ah.symm;have mv:w'.ownsRow 0 e z (.slice (some ⟨ix,0,none⟩) n cap) n (ew us k im):=by
      refine ⟨by rw [qK (by omega),ih],.inr ⟨ix,cap,_,rfl,o2,K3,rL,tR,?_,?_⟩⟩
      ·rw [List.size_toArray,qK (by omega),Array.length_toList,zL]
      ·show (ew arr.toList k im).take (n * z)=_;rw [Zr (by omega) NG,xy]
     have Nn:∀ aa,aa<cs.length->¬ bK aa ix:=λaa ag h=>iV aa ix ag h rfl;have eG:∀ aa c,aa<cs.length->bK aa c->Fs p.root c:=λaa c ag J=>di c ((aE c).2 (.inr ⟨aa,ag,J⟩));refine ⟨⟨_,.own (Fs:=λaa=>if k<=aa/\aa<k+cs'.length then dj (aa - k) else bK aa) mv (by rw [qK hk,qK (by omega),ah]) (λaa u hu=>?_) (λaa x u j hu=>?_) (λi aa c hi ag J dX=>?_) (λaa c ag J u2=>?_) (λc=>Iff.rfl),λc J=>?_⟩,λaa dk y ag ai=>?_⟩
     ·rw [qJ (by omega)] at hu
      split at hu
      ·exact fy _ u hu
      ·exact h1 aa u hu
     ·rw [qJ hk] at j;rw [qJ (by omega),<- hlen] at hu;by_cases fY:k<=aa/\aa<k+cs'.length
      ·rw [if_pos fY] at j hu;simpa [fY] using new (aa - k) x u j hu
      ·rw [if_neg fY] at j hu;have eW:aa<cs.length:=(List.getElem?_eq_some_iff.1 j).1;rw [if_neg fY];exact (aj aa x u j hu).frame yC (λ_ h=>h) lf λc J=>rS c λe=>Nn aa eW (e ▸ J)
     ·rw [qK hk] at hi ag;by_cases h1:k<=i/\i<k+cs'.length <;> by_cases af:k<=aa/\aa<k+cs'.length <;> simp only [h1,af,if_false] at J dX
      ·have:=hH.et (i - k) (aa - k) c (by omega) (by omega) (by simpa using J) (by simpa using dX);omega
      ·exact absurd (eG aa c ag dX) (hH.off (i - k) _ c (by omega) (by simpa using J))
      ·exact absurd (eG i c hi J) (hH.off (aa - k) _ c (by omega) (by simpa using dX))
      ·exact aO i aa c hi ag J dX
     ·rw [qK hk] at ag;by_cases h1:k<=aa/\aa<k+cs'.length
      ·rw [if_pos h1] at J;simp only [Value.ownBlock,Option.some.injEq] at u2;subst u2;exact hH.off (aa - k) p.root ix (by omega) J (di ix n5)
      ·rw [if_neg h1] at J; exact iV aa c ag J u2
     ·rcases J with J | ⟨aa,ag,J⟩
      ·exact .inl ((aE c).2 (.inl J))
      ·rw [qK hk] at ag;by_cases h1:k<=aa/\aa<k+cs'.length
       ·rw [if_pos h1] at J; exact .inr ⟨aa - k,by omega,J⟩
       ·rw [if_neg h1] at J; exact .inl ((aE c).2 (.inr ⟨aa,ag,J⟩))
     ·obtain ⟨c,n_,J⟩:=ab.uv ai;simp only [ab.kids] at n_;have eW:aa<cs.length:=(List.getElem?_eq_some_iff.1 n_).1;have hu:us[aa]?=some us[aa]:=List.getElem?_eq_getElem (by omega);have mX:child w (.slice (some ⟨ix,0,none⟩) n cap) aa=some us[aa]:=by
       refine ot (e:=e) (z:=z) (n:=n) (us:=us) ⟨ih,.inr ⟨ix,cap,arr,rfl,o2,jX,rL,tR,zL,xy⟩⟩ hu
      have Bi:child w' (.slice (some ⟨ix,0,none⟩) n cap) aa=some us[aa]:=by
       refine ot mv ?_;rw [qJ (by omega),if_neg (by omega)]; exact hu
      have:=R.o8 (w':=w') dk (aj aa c _ n_ hu) J λc J=>rS c λe=>Nn aa eW (e ▸ J);simp [walk,mX,Bi,this]
  ·cases dA with
   | ref j=>simp [ab.isRef] at j
   | @obj _ ix bZ iO bK _ aM ah h1 aj aO iV aE ax =>
    simp only [addrOf,Option.some.injEq,Addr.mk.injEq,and_true] at au;subst au;rw [jX] at aM;cases aM;have wv:cs.length=arr.toList.length:=by simp [ah]
    have eG:∀ aa c,aa<cs.length->bK aa c->Fs p.root c:=λaa c ag J=>di c ((aE c).2 (.inr ⟨aa,ag,J⟩));refine ⟨⟨_,.obj (Fs:=λaa=>if k<=aa/\aa<k+cs'.length then dj (aa - k) else bK aa) K3 (by rw [qK hk,List.size_toArray,qK (by omega),wv]) (λaa u hu=>?_) (λaa x u j hu=>?_) (λi aa c hi ag J dX=>?_) (λaa ag J=>?_) (λc=>Iff.rfl) (λi aa u hi hu=>?_),λc J=>?_⟩,λaa dk y ag ai=>?_⟩
    ·rw [List.getElem?_toArray,qJ (by omega)] at hu
     split at hu
     ·exact fy _ u hu
     ·exact h1 aa u (by simpa using hu)
    ·rw [qJ hk] at j;rw [List.getElem?_toArray,qJ (by omega),<- hlen] at hu;by_cases fY:k<=aa/\aa<k+cs'.length
     ·rw [if_pos fY] at j hu;simpa [fY] using new (aa - k) x u j hu
     ·rw [if_neg fY] at j hu;have eW:aa<cs.length:=(List.getElem?_eq_some_iff.1 j).1;rw [if_neg fY];exact (aj aa x u j (by simpa using hu)).frame yC (λ_ h=>h) lf λc J=>rS c λe=>iV aa eW (e ▸ J)
    ·rw [qK hk] at hi ag;by_cases h1:k<=i/\i<k+cs'.length <;> by_cases af:k<=aa/\aa<k+cs'.length <;> simp only [h1,af,if_false] at J dX
     ·have:=hH.et (i - k) (aa - k) c (by omega) (by omega) (by simpa using J) (by simpa using dX);omega
     ·exact absurd (eG aa c ag dX) (hH.off (i - k) _ c (by omega) (by simpa using J))
     ·exact absurd (eG i c hi J) (hH.off (aa - k) _ c (by omega) (by simpa using dX))
     ·exact aO i aa c hi ag J dX
    ·rw [qK hk] at ag;by_cases h1:k<=aa/\aa<k+cs'.length
     ·rw [if_pos h1] at J;exact hH.off (aa - k) p.root ix (by omega) J (di ix n5)
     ·rw [if_neg h1] at J; exact iV aa ag J
    ·rw [qJ hk] at hi;rw [List.getElem?_toArray,qJ (by omega),<- hlen] at hu;by_cases rh:k<=i/\i<k+cs'.length
     ·rw [if_pos rh] at hi; exact absurd hi (kR rfl _ _)
     ·rw [if_neg rh] at hi hu; exact ax i aa u hi (by simpa using hu)
    ·rcases J with J | ⟨aa,ag,J⟩
     ·exact .inl ((aE c).2 (.inl J))
     ·rw [qK hk] at ag;by_cases h1:k<=aa/\aa<k+cs'.length
      ·rw [if_pos h1] at J; exact .inr ⟨aa - k,by omega,J⟩
      ·rw [if_neg h1] at J; exact .inl ((aE c).2 (.inr ⟨aa,ag,J⟩))
    ·obtain ⟨c,n_,J⟩:=ab.uv ai;simp only [ab.kids] at n_;have eW:aa<cs.length:=(List.getElem?_eq_some_iff.1 n_).1;have hu:arr[aa]?=some arr[aa]:=Array.getElem?_eq_getElem (by omega);have mX:child w (.pointer (some ⟨ix,0,none⟩)) aa=some arr[aa]:=by simp [child,World.cell?,jX,hu]
     have Bi:child w' (.pointer (some ⟨ix,0,none⟩)) aa=some arr[aa]:=by
      have aJ:(ew arr.toList k im)[aa]?=some arr[aa]:=by
       rw [qJ (by omega),if_neg (by omega)]; simp
      simp [child,World.cell?,K3,aJ]
     have:=R.o8 (w':=w') dk (aj aa c _ n_ hu) J λc J=>rS c λe=>iV aa eW (e ▸ J);simp [walk,mX,Bi,this]
 have val:∀ q y,bu g q=some y->(q.root=p.root->∀ aa dk,q.path=p.path++aa::dk->aa<k\/k+cs'.length<=aa)->dN w' T q=dN w T q:=by
  intro q y ba h3;by_cases aj:q.root=p.root
  ·have e5:ez.at q.path=some y:=by simpa [bu,aj,jC] using ba
   rcases Z7 q.path y e5 with ⟨dk,ee⟩ | h
   ·have wR:walk w' v0 q.path=walk w v0 q.path:=by
     rw [ee,Dp,Dp,Z6,hw];simp only [Option.bind_some];cases dk with
     | nil=>rfl
     | cons aa dk =>
      rw [ee,ab.GU,q'] at e5;exact (OP (λ_ _=>True) (λ_ _ _=>trivial)).2 aa dk y (h3 aj aa dk ee) e5
    simp [dN,aj,iY,wR]
   ·simp [dN,aj,iY,h]
  ·unfold bu at ba;cases j:g q.root with
   | none=>rw [j] at ba; cases ba
   | some x =>
    rw [j] at ba;obtain ⟨u,hu,aV⟩:=a_.rel _ _ j;cases aV with
    | tree aV =>
     have:=R.o8 (w':=w') q.path aV ba λc J=>rS c λe=>N4 _ aj (e ▸ J);simp [dN,hu,this]
    | bC aV=>simp [dN,hu,(ab.s9 ba).1,walk]
 have slot:∀ {q:Place}{x:ab},q.path=[]->g q.root=some x->dN w' T q=dN w T q:=by
  intro q x ba j;obtain ⟨u,hu,_⟩:=a_.rel _ _ j;simp [dN,ba,walk]
 have refs:∀ r u,Lh r u->dO w' T g2 r u:=by
  rintro r u ⟨h1,af,aJ,bo⟩;refine ⟨?_,bo⟩;cases r <;> simp only [fL,gG] at h1 af ⊢
  case ptr q aa=>obtain ⟨y,ai,_⟩:=af; rw [val q y ai (aJ q rfl)]; exact h1
  case bn br q ck =>
   rcases af with ⟨_,_,af,_⟩ | ⟨aH,_,_,_,_,af,_⟩
   ·rw [val q _ af (aJ q rfl)]; exact h1
   ·rw [slot aH af]; exact h1
  case sub br q lo ck=>obtain ⟨_,_,af,_⟩:=af; rw [val q _ af (aJ q rfl)]; exact h1
  case ha q=>obtain ⟨_,af⟩:=af; rw [val q _ af (aJ q rfl)]; exact h1
  case bC br q ck bm cK =>
   rcases af with ⟨_,af⟩ | ⟨aH,_,_,_,_,_,af,_⟩
   ·rw [val q _ af (aJ q rfl)]; exact h1
   ·rw [slot aH af]; exact h1
 obtain ⟨⟨Fn,UY,No⟩,_⟩:=OP (dO w' T g2) refs;obtain ⟨cM,H3,oP⟩:=kC w' I (dO w' T g2) _ Fn ⟨yC,λc J az=>rS c λe=>az (e ▸ n5),λ_ h=>h,refs⟩ UY (λc J dX=>by
  rcases No c J with h | ⟨aa,ag,h⟩
  ·exact h
  ·exact absurd dX (hH.off aa _ c ag h)) (λaa h=>by rcases ft with rfl | rfl <;> simp [ab.ew] at h)
 have HP:∀ c,cM c->Fs p.root c\/∃ aa,aa<cs'.length/\dj aa c:=by
  intro c J;rcases (oP c).1 J with h | h
  ·exact .inl h.1
  ·rcases No c h with h | h
   ·exact .inl (di c h)
   ·exact .inr h
 let bY:Nat->a6:=λt c=>if t=p.root then cM c else g2 t≠none/\Fs t c
 have tm:∀ t c,bY t c->Fs t c\/∃ aa,aa<cs'.length/\dj aa c:=by
  intro t c J;by_cases ak:t=p.root
  ·simp only [bY,if_pos ak] at J; rw [ak]; exact HP c J
  ·simp only [bY,if_neg ak] at J; exact .inl J.2
 refine ⟨bY,⟨λt x j=>?_,λt ak c J=>?_,λt t' c J dX=>?_,λt c J hi=>?_,λc J=>by have:=a_.lt c J; omega,λt t' z q n m new br ck bm cK h1=>absurd h1 (l7 _ _ _ _ _ _),cw.keep a_.hd yC λ_ h=>h⟩,tm⟩
 ·have fG:=Bp t x j;by_cases ak:t=p.root
  ·subst ak;have Js:ez.setAt p.path (nd.ew k cs')=x:=by simpa [cc,jC] using fG
   refine ⟨v0,iY,.tree ?_⟩;have HS:bY p.root=cM:=by funext c; simp [bY]
   rw [<- Js,HS]; exact H3
  ·rw [xF ak] at fG;obtain ⟨u,hu,aV⟩:=a_.rel t x fG;replace aV:=aV.fS (by rintro z q n m new rfl; exact l7 _ _ _ _ _ _ j);have HS:bY t=Fs t:=by
    funext c;exact propext ⟨λh=>by simp only [bY,if_neg ak] at h; exact h.2,λh=>by simp only [bY,if_neg ak]; exact ⟨by rw [j]; simp,h⟩⟩
   refine ⟨u,hu,.tree ?_⟩;rw [HS];exact (aV.C9 (BF t x j x fG)).frame yC (λ_ h=>h) refs λc J=>rS c λe=>N4 t ak (e ▸ J)
 ·by_cases hx:t=p.root
  ·exact mw (hx ▸ ak)
  ·simp only [bY,if_neg hx] at J; exact J.1 ak
 ·by_cases h1:t=p.root <;> by_cases af:t'=p.root
  ·rw [h1,af]
  ·simp only [bY,if_pos h1] at J; simp only [bY,if_neg af] at dX;rcases HP c J with h | ⟨aa,ag,h⟩
   ·exact absurd (a_.et _ _ _ h dX.2) (Ne.symm af)
   ·exact absurd dX.2 (hH.off aa _ c ag h)
  ·simp only [bY,if_neg h1] at J; simp only [bY,if_pos af] at dX;rcases HP c dX with h | ⟨aa,ag,h⟩
   ·exact absurd (a_.et _ _ _ J.2 h) h1
   ·exact absurd J.2 (hH.off aa _ c ag h)
  ·simp only [bY,if_neg h1] at J; simp only [bY,if_neg af] at dX;exact a_.et _ _ _ J.2 dX.2
 ·rcases tm t c J with h | ⟨aa,ag,h⟩
  ·exact a_.bc _ c h hi
  ·exact hH.bc aa c ag h hi
end
end Go.Own
namespace Go.Own
open Go
set_option linter.unusedSectionVars false
variable [cw]
section
variable {P:Program}{w:World}{I:a6}{T:Array Value}{g:aG}{Fs:Nat->a6}
theorem View.Qm (h:jc w I T g Fs) {x x':ab}(hv:View g x x'):∀ {v:Value}{F:a6},R w I (fL w T) x v F->(∀ c,F c->∃ t,Fs t c)->∀ ρ',R w (λc=>I c\/∃ t,Fs t c) ρ' x' v cb:=by
 induction hv with
 | pW =>
  intro v F aV aE ρ';have:=aV.pT;subst this;exact .hj λ_ h=>h
 | mp =>
  intro v F aV aE ρ';cases aV with
  | ref j=>simp [ab.isRef] at j
  | mp aM av au=>exact .imp (λ_ h=>h) (.inr (aE _ ((au _).2 rfl))) aM av
 | ha av =>
  intro v F aV aE ρ';cases aV with
  | ref _ aj _ =>
   obtain ⟨b,au,rfl⟩:=aj;obtain ⟨dJ,cp,iD,dA,di,_⟩:=h.part av (by simp);rw [au] at iD;cases iD;cases dA with
   | ref j=>simp [ab.isRef] at j
   | mp aM av au=>exact .imp (λ_ h=>h) (.inr ⟨_,di _ ((au _).2 rfl)⟩) aM av
 | self az h1 af aJ bo cu =>
  intro v F aV aE ρ';refine ((aV.bd az).ng λc J=>.inl J).empty ?_;cases aV with
  | mp=>exact absurd rfl (cu.1 _)
  | dv=>exact absurd rfl (cu.2 _ _)
  | lit _ aE | bf aE | dead aE | j1 aE | ref _ _ aE | hj aE | bc aE | cJ aE | c7 aE | imp aE=>exact aE
  | own=>exact absurd rfl (h1 _ _ _)
  | obj=>exact absurd rfl (af _)
  | agg=>exact absurd rfl (aJ _)
  | bN=>exact absurd rfl (bo _)
 | @agg cs cs' ah _ aK =>
  intro v F aV aE ρ';cases aV with
  | ref j=>simp [ab.isRef] at j
  | @agg _ vs bK _ ht h1 aj aO lD =>
   refine .agg (Fs:=λ_=>cb) (by rw [ah,ht]) h1 (λk y u ai hu=>?_) (λ_ _ _ _ _ h=>h.elim) (λc=>⟨λh=>h.elim,λ⟨_,_,h⟩=>h⟩);have hk:k<cs.length:=by rw [<- ah]; exact (List.getElem?_eq_some_iff.1 ai).1
   have j:=List.getElem?_eq_getElem hk;exact aK k _ y j ai (aj k _ u j hu) (λc J=>aE c ((lD c).2 ⟨k,hk,J⟩)) ρ'
 | @c7 fn cs cs' ah _ aK =>
  intro v F aV aE ρ';cases aV with
  | ref j=>simp [ab.isRef] at j
  | @c7 _ _ _ v1 v2 _ mU h1 af iX hU =>
   refine .c7 (λ_ h=>h) h1 (by rw [ah,af]) (λk x u j=>by simp at j) (λk y u ai hu=>?_);have hk:k<cs.length:=by rw [<- ah]; exact (List.getElem?_eq_some_iff.1 ai).1
   have j:=List.getElem?_eq_getElem hk;exact aK k _ y j ai (hU k _ u j hu) (λc J=>J.elim) ρ'
 | @own z n cs cs' ah _ aK =>
  intro v F aV aE ρ';obtain ⟨a,cap,us,bK,rfl,az,hlen,aQ,J⟩:=aV.ze;cases a with
  | none =>
   have gl:cs=[]:=by
    cases cs with
    | nil=>rfl
    | cons c cs=>obtain ⟨b,au,_⟩:=J 0 c rfl; cases au
   subst gl;have kP:cs'=[]:=List.eq_nil_of_length_eq_zero (by simpa using ah);subst kP;have l6:n=0:=by
    cases aV with
    | ref j=>simp [ab.isRef] at j
    | own aM =>
     obtain ⟨_,bE⟩:=aM;rcases bE with ⟨bE,aH⟩ | ⟨b,c2,cur,bE,_⟩
     ·exact aH
     ·cases bE
   subst l6;exact .hj λ_ h=>h
  | some ad =>
   obtain ⟨b,rfl,iz⟩:=aQ ad rfl;refine .bc (us:=us) (λ_ h=>h) az (.inr (aE b iz)) rfl (by rw [ah,hlen]) (λk y ai=>?_) (λk y ai=>?_) λk y ai=>?_
   all_goals
    have hk:k<cs.length:=by rw [<- ah]; exact (List.getElem?_eq_some_iff.1 ai).1
    have j:=List.getElem?_eq_getElem hk;obtain ⟨ix,kt,h1,af,aJ,bo⟩:=J k _ j;cases kt
   ·exact af
   ·simpa using h1
   ·exact aK k _ y j ai aJ (λc J=>aE c (bo c J)) ρ'
 | @obj cs cs' ah _ aK =>
  intro v F aV aE ρ';cases aV with
  | ref j=>simp [ab.isRef] at j
  | @obj _ b e arr bK _ aM ht h1 aj aO au lD =>
   refine .cJ (us:=λk=>arr.getD k undef) (λ_ h=>h) (.inr (aE b ((lD b).2 (.inl rfl)))) rfl (λk y ai=>?_) (λk y ai=>?_) λk y ai=>?_
   all_goals
    have hk:k<cs.length:=by rw [<- ah]; exact (List.getElem?_eq_some_iff.1 ai).1
    have j:=List.getElem?_eq_getElem hk;have hu:arr[k]?=some arr[k]:=Array.getElem?_eq_getElem (ht ▸ hk)
   ·simpa [hu] using h1 k _ hu
   ·simp [World.cell?,aM,hu]
   ·simpa [hu] using aK k _ y j ai (aj k _ _ j hu) (λc J=>aE c ((lD c).2 (.inr ⟨k,hk,J⟩))) ρ'
 | @bn z n N p cs cs' av az ah _ aK =>
  intro v F aV aE ρ';obtain ⟨a,iv,cap,h1,rfl,aJ⟩:=aV.mB;obtain ⟨p7,p_,gq,hh,l3,_⟩:=h.part av (by simp);rw [h1] at gq;cases gq;obtain ⟨a2,q0,us,bK,iC,kv,hlen,aQ,J⟩:=hh.ze;cases iC;have hle:n * z<=N * z:=Nat.mul_le_mul_right _ az;have cell:∀ k,k<cs'.length->∃ x b,(cs.take (n * z))[k]?=some x/\a=some ⟨b,0,none⟩/\w.cell? ⟨b,k,none⟩=some (us k)/\(us k).oneCell'=true/\R w I (fL w T) x (us k) (bK k)/\∀ c,bK k c->p_ c:=by
   intro k hk;rw [ah,List.length_take] at hk;have j:cs[k]?=some cs[k]:=List.getElem?_eq_getElem (by omega);obtain ⟨b,r⟩:=J k _ j;exact ⟨_,b,by rw [List.getElem?_take,if_pos (by omega)]; exact j,r⟩
  cases a with
  | none =>
   have kP:cs'=[]:=by
    cases cs' with
    | nil=>rfl
    | cons c l=>obtain ⟨_,b,_,au,_⟩:=cell 0 (by simp); cases au
   subst kP;obtain ⟨_,_,iC,_,_,_,rk⟩:=hh.mE;cases iC;have l6:n=0:=by
    rcases Nat.eq_zero_or_pos n with aH | aH
    ·exact aH
    ·have:=rk (by omega); simp at this
   subst l6;exact .hj λ_ h=>h
  | some ad =>
   obtain ⟨b,rfl,iz⟩:=aQ ad rfl;refine .bc (us:=us) (λ_ h=>h) (by omega) (.inr ⟨_,l3 b iz⟩) rfl (by rw [ah,List.length_take,hlen]; omega) (λk y ai=>?_) (λk y ai=>?_) λk y ai=>?_
   all_goals
    obtain ⟨x,ix,j,kt,bo,cu,dC,jh⟩:=cell k (List.getElem?_eq_some_iff.1 ai).1;cases kt
   ·exact cu
   ·simpa using bo
   ·exact aK k x y j ai dC (λc J=>⟨_,l3 c (jh c J)⟩) ρ'
 | @sub z lo n N p cs cs' av az ah _ aK =>
  intro v F aV aE ρ';obtain ⟨a,iv,cap,b3,mj,h1,rfl,I5,aJ,cu⟩:=aV.wZ;obtain ⟨p7,p_,gq,hh,l3,_⟩:=h.part av (by simp);rw [h1] at gq;cases gq;obtain ⟨a2,q0,us,bK,iC,kv,hlen,aQ,J⟩:=hh.ze;cases iC;have hle:lo * z+n * z<=N * z:=by rw [<- Nat.add_mul]; exact Nat.mul_le_mul_right _ az
  have ht:cs'.length=n * z:=by rw [ah,List.length_take,List.length_drop,hlen]; omega
  have cell:∀ k,k<cs'.length->∃ x b,((cs.drop (lo * z)).take (n * z))[k]?=some x/\a=some ⟨b,0,none⟩/\w.cell? ⟨b,lo * z+k,none⟩=some (us (lo * z+k))/\(us (lo * z+k)).oneCell'=true/\R w I (fL w T) x (us (lo * z+k)) (bK (lo * z+k))/\∀ c,bK (lo * z+k) c->p_ c:=by
   intro k hk;have j:cs[lo * z+k]?=some cs[lo * z+k]:=List.getElem?_eq_getElem (by omega);obtain ⟨b,r⟩:=J _ _ j;exact ⟨_,b,by rw [List.getElem?_take,if_pos (by omega),List.getElem?_drop]; exact j,r⟩
  by_cases l6:n=0
  ·subst l6;have kP:cs'=[]:=List.eq_nil_of_length_eq_zero (by simpa using ht);subst kP;exact .hj λ_ h=>h
  ·obtain ⟨ad,rfl,rfl⟩:=cu (by omega);obtain ⟨b,rfl,iz⟩:=aQ ad rfl;refine .bc (us:=λk=>us (lo * z+k)) (λ_ h=>h) I5 (.inr ⟨_,l3 b iz⟩) rfl ht (λk y ai=>?_) (λk y ai=>?_) λk y ai=>?_
   all_goals
    obtain ⟨x,ix,j,kt,bo,HM,dC,jh⟩:=cell k (List.getElem?_eq_some_iff.1 ai).1;cases kt
   ·exact HM
   ·simpa using bo
   ·exact aK k x y j ai dC (λc J=>⟨_,l3 c (jh c J)⟩) ρ'
 | @rows z n p cs cs' av ah _ aK =>
  intro v F aV aE ρ';obtain ⟨a,iv,cap,h1,rfl,aJ⟩:=aV.mB;obtain ⟨v0,e,us,iY,aM,hlen,kr,au,aj⟩:=Rows.sound (w:=w) (I:=I) (T:=T) (Fs:=Fs) (λt z q n m new ak=>h.rel t _ ak) (λp z n cs av=>by obtain ⟨v,cp,h1,af,aJ,_⟩:=h.part av (by simp); exact ⟨v,cp,h1,af,aJ⟩) (λz p n v hv=>by obtain ⟨a,cap,h1,rfl⟩:=hv; exact h1) av;rw [h1] at iY;cases iY;refine PI aM hlen kr au ah λk x y u j ai hu=>?_;obtain ⟨bK,jW,eG⟩:=aj k x u j hu;exact aK k x y j ai jW eG ρ'
 | @ptr p k z n y cs cs' av ai hk ah _ aK =>
  intro v F aV aE ρ';obtain ⟨u,ad,h1,af,rfl⟩:=aV.mC;obtain ⟨p7,p_,gq,hh,l3,_⟩:=h.part av (by rcases ai with rfl | rfl <;> simp);rw [h1] at gq;cases gq;have cell:∀ aa,aa<cs'.length->∃ gi kG vR,w.cell? ⟨ad.block,k+aa,none⟩=some gi/\gi.oneCell'=true/\(cs.drop k)[aa]?=some kG/\R w I (fL w T) kG gi vR/\(∀ c,vR c->∃ t,Fs t c):=by
   intro aa ag;rw [ah,List.length_drop] at ag;have fG:cs[k+aa]?=some cs[k+aa]:=List.getElem?_eq_getElem (by omega);obtain ⟨b,gi,fr,jy,mX,fy,_⟩:=hh.node ai fG;rw [af] at fr;cases fr;have e5:bu g (p.push (k+aa))=some cs[k+aa]:=by rw [s8,av]; rcases ai with rfl | rfl <;> simp [ab.kids]
   by_cases gS:∃ br gn ck bm cK,cs[k+aa]=.bC br gn ck bm cK
   ·obtain ⟨br,gn,ck,bm,cK,gS⟩:=gS;obtain ⟨b,Z1,_,_,Bi,_,bK,jW⟩:=hh.node ai fG;rw [gS] at jW;exact jW.kU.elim
   ·obtain ⟨o7,GB,rm,H4,lD,_⟩:=h.part e5 (λbr gn ck bm cK e=>gS ⟨_,_,_,_,_,e⟩);rw [xN,h1] at rm;simp only [Option.bind_some] at rm;rw [mX] at rm;cases rm;exact ⟨gi,_,GB,jy,fy,by rw [List.getElem?_drop]; exact fG,H4,λc J=>⟨_,lD c J⟩⟩
  obtain ⟨b,gi,fr,_⟩:=hh.node ai (List.getElem?_eq_getElem hk);rw [af] at fr;cases fr;have hblk:∃ t,Fs t b:=⟨_,l3 b (hh.Fm ai af)⟩;refine .cJ (us:=λaa=>(w.cell? ⟨b,k+aa,none⟩).getD undef) (λ_ h=>h) (.inr hblk) rfl (λaa hL sy=>?_) (λaa hL sy=>?_) λaa hL sy=>?_
  all_goals
   obtain ⟨gi,kG,vR,c1,c2,j8,c4,jf⟩:=cell aa (List.getElem?_eq_some_iff.1 sy).1
  ·simpa [c1] using c2
  ·simp [c1]
  ·simpa [c1] using aK aa kG hL j8 sy c4 jf ρ'
end
end Go.Own
namespace Go.Own
open Go
set_option linter.unusedSectionVars false
variable [cw]
def p0 (g:aG):List (Place × ab)->aG
 | []=>g
 | (p,x)::l=>p0 (cc g p x) l
structure Q8 (g g2:aG) (all:List ab) (outs:List (Option ab)) (k:Nat) (p:Place) (x:ab):Prop where
 out:outs[k]?=some (some x)
 L3:bu g2 p=some .dead
 arg:(∃ z n cs,all[k]?=some (.bn z p n)/\bu g p=some (.own z n cs))\/(∃ cs,all[k]?=some (.ptr p 0)/\bu g p=some (.obj cs))
 l_:∀ i,x≠.self i
section
variable {P:Program}{w:World}{I:a6}{T:Array Value}{g:aG}{Fs:Nat->a6}
theorem RM (h:cB w I T g Fs) {z n:Nat}{p:Place}{cs:List ab}{v:Value}{F:a6}(aV:R w I (dO w T g) (.bn z p n) v F) (av:bu g p=some (.own z n cs)):dN w T p=some v:=by
 obtain ⟨⟨a,iv,cap,h1,rfl,aJ⟩,_⟩:=aV.mB;obtain ⟨p7,p_,gq,hh,l3⟩:=h.part av (by simp);rw [h1] at gq;cases gq;obtain ⟨a2,q0,iC,_⟩:=hh.mE;cases iC;exact h1
theorem RL (h:cB w I T g Fs) {p:Place}{cs:List ab}{v:Value}{F:a6}(aV:R w I (dO w T g) (.ptr p 0) v F) (av:bu g p=some (.obj cs)):dN w T p=some v:=by
 obtain ⟨⟨u,ad,h1,af,rfl⟩,_⟩:=aV.mC;obtain ⟨p7,p_,gq,hh,l3⟩:=h.part av (by simp);rw [h1] at gq;cases gq;cases hh with
 | ref j=>simp [ab.isRef] at j
 | obj=>simp only [addrOf,Option.some.injEq] at af; subst af; exact h1
theorem Zb {g:aG}{p q:Place}{y:ab}(ba:bu g q=some .dead) (av:bu g p=some .dead) (cU:p≠q):bu (cc g p y) q=some .dead:=by
 by_cases aj:q.root=p.root
 ·obtain ⟨r,pp⟩:=p;obtain ⟨dk,sL⟩:=q;simp only at aj;subst aj;have EN:pp≠sL:=λe=>cU (by rw [e]);simp only [bu,cc,if_true] at *;cases j:g dk with
  | none=>rw [j] at av; cases av
  | some x =>
   rw [j] at av ba;simp only [Option.map_some];have:∀ (pp sL:List Nat) (x:ab),pp≠sL->x.at pp=some .dead->x.at sL=some .dead->(x.setAt pp y).at sL=some .dead:=by
    intro pp
    induction pp with
    | nil =>
     intro sL x cU h1 af;simp only [ab.at,Option.some.injEq] at h1;subst h1;cases sL with
     | nil=>exact absurd rfl cU
     | cons k q=>simp [ab.at,ab.kids] at af
    | cons k pp aK =>
     intro sL x cU h1 af;cases sL with
     | nil =>
      simp only [ab.at,Option.some.injEq] at af;subst af;simp [ab.at,ab.kids] at h1
     | cons aa q =>
      simp only [ab.at] at h1 af;cases hk:x.kids[k]? with
      | none=>rw [hk] at h1; cases h1
      | some c =>
       rw [hk] at h1;simp only at h1;have uX:x.setAt (k::pp) y=x.tT k (c.setAt pp y):=by simp only [ab.setAt,hk]
       rw [uX];have dc:k<x.kids.length:=(List.getElem?_eq_some_iff.1 hk).1;have IW:(x.tT k (c.setAt pp y)).kids=x.kids.set k (c.setAt pp y):=by
        cases x <;> simp [ab.tT,ab.kids] at dc ⊢
       simp only [ab.at,IW];by_cases fY:aa=k
       ·subst fY;rw [List.getElem?_set_self dc];rw [hk] at af;exact aK q c (λe=>cU (by rw [e])) h1 af
       ·rw [List.getElem?_set_ne (Ne.symm fY)];exact af
   exact this pp sL x EN av ba
 ·rw [FP aj]; exact ba
theorem jc.p0:∀ (l:List (Place × ab)) (dj:Nat->a6) (vs:Nat->Value) {g:aG}{Fs:Nat->a6},jc w I T g Fs->(l.map (·.1)).Nodup->(∀ (aa:Nat) (p:Place) (x:ab),l[aa]?=some (p,x)->bu g p=some .dead/\dN w T p=some (vs aa)/\R w I (fL w T) x (vs aa) (dj aa)/\∀ i,x≠.self i) ->
  (∀ (aa t c:Nat),aa<l.length->dj aa c->¬ Fs t c)->(∀ (aa c:Nat),aa<l.length->dj aa c->¬ I c)->(∀ (i aa c:Nat),i<l.length->aa<l.length->dj i c->dj aa c->i=aa) ->
  ∃ bY,jc w I T (p0 g l) bY/\∀ t c,bY t c->Fs t c\/∃ aa,aa<l.length/\dj aa c
 | [],_,_,g,Fs,a_,_,_,_,_,_=>⟨Fs,a_,λ_ _ h=>.inl h⟩
 | (p,x)::l,dj,vs,g,Fs,a_,ft,ah,qn,NS,mq=>by
  obtain ⟨h1,af,aJ,bo⟩:=ah 0 p x rfl;obtain ⟨v,cp,hv,dA,di,put⟩:=a_.part h1 (by simp);rw [af] at hv;cases hv;obtain ⟨fu,iU,yA,AZ⟩:=put x (dj 0) aJ (λc J aU=>absurd aU (qn 0 _ c (by simp) J)) (λc J=>NS 0 c (by simp) J) (λt c _ J=>qn 0 t c (by simp) J) (λi e=>absurd e (bo i));have fz:∀ t c,fu t c->Fs t c\/dj 0 c:=by
   intro t c J;by_cases ak:t=p.root
   ·subst ak;rcases (yA c).1 J with ⟨h,_⟩ | h
    ·exact .inl h
    ·exact .inr h
   ·rw [AZ t ak] at J; exact .inl J
  simp only [List.map_cons,List.nodup_cons] at ft;obtain ⟨jr,hJ,yB⟩:=jc.p0 l (λaa=>dj (aa+1)) (λaa=>vs (aa+1)) iU ft.2 (λaa q y ag=>by
    obtain ⟨aw,a2,a3⟩:=ah (aa+1) q y (by simpa using ag);refine ⟨Zb aw h1 ?_,a2,a3⟩;rintro rfl;exact ft.1 (List.mem_map.2 ⟨(p,y),List.mem_of_getElem? ag,rfl⟩))
   (λaa t c ag J aU=>by
    rcases fz t c aU with h | h
    ·exact qn (aa+1) t c (by simpa using ag) J h
    ·have:=mq (aa+1) 0 c (by simpa using ag) (by simp) J h; omega)
   (λaa c ag J=>NS (aa+1) c (by simpa using ag) J)
   (λi aa c hi ag h1 af=>by have:=mq (i+1) (aa+1) c (by simpa using hi) (by simpa using ag) h1 af; omega)
  refine ⟨jr,hJ,λt c J=>?_⟩;rcases yB t c J with h | ⟨aa,ag,h⟩
  ·rcases fz t c h with h | h
   ·exact .inl h
   ·exact .inr ⟨0,by simp,h⟩
  ·exact .inr ⟨aa+1,by simpa using ag,h⟩
end
end Go.Own
namespace Go.Own
open Go
set_option linter.unusedSectionVars false
variable [cw]
inductive gE:ab->ab->Prop
 | refl {x:ab}:gE x x
 | Cm {z:Nat}:gE .bf (.own z 0 [])
 | oh {x y:ab}(az:cE x) (h:View (λ_=>none) x y):gE x y
 | own {z n:Nat}{cs cs':List ab}(ah:cs'.length=cs.length) (h:∀ (k:Nat) (x y:ab),cs[k]?=some x->cs'[k]?=some y->gE x y):gE (.own z n cs) (.own z n cs')
 | obj {cs cs':List ab}(ah:cs'.length=cs.length) (h:∀ (k:Nat) (x y:ab),cs[k]?=some x->cs'[k]?=some y->gE x y):gE (.obj cs) (.obj cs')
 | agg {cs cs':List ab}(ah:cs'.length=cs.length) (h:∀ (k:Nat) (x y:ab),cs[k]?=some x->cs'[k]?=some y->gE x y):gE (.agg cs) (.agg cs')
theorem View.up {g g':aG}(h:∀ t x,g t=some x->g' t=some x) {x y:ab}(hv:View g x y):View g' x y:=by
 induction hv with
 | pW=>exact .pW
 | self h1 af aJ bo cu dC=>exact .self h1 af aJ bo cu dC
 | mp=>exact .mp
 | ha av=>exact .ha (kq h av)
 | agg ah _ aK=>exact .agg ah aK
 | own ah _ aK=>exact .own ah aK
 | obj ah _ aK=>exact .obj ah aK
 | c7 ah _ aK=>exact .c7 ah aK
 | bn av az ah _ aK=>exact .bn (kq h av) az ah aK
 | sub av az ah _ aK=>exact .sub (kq h av) az ah aK
 | ptr av ai hk ah _ aK=>exact .ptr (kq h av) ai hk ah aK
 | rows av ah _ aK=>exact .rows (av.mono (λav=>kq h av) h) ah aK
theorem View.l_ {g:aG}{x y:ab}{aa:Nat × Nat}(h:View g x y) (e:y=.self aa):x=.self aa:=by
 cases h <;> first | exact e | cases e
theorem gE.l_ {x y:ab}{aa:Nat × Nat}(h:gE x y) (e:y=.self aa):x=.self aa:=by
 cases h <;> first | exact e | exact View.l_ ‹_› e | cases e
theorem Fp {F:ab->ab->Prop}{cs cs':List ab}(ah:cs'.length=cs.length) (h:∀ (k:Nat) (x y:ab),cs[k]?=some x->cs'[k]?=some y->F x y) (aE:∀ x y aa,F x y->y=.self aa->x=.self aa) (k:Nat) (aa:Nat × Nat) (hk:cs'[k]?=some (.self aa)):cs[k]?=some (.self aa):=by
 have aN:k<cs.length:=ah ▸ (List.getElem?_eq_some_iff.1 hk).1;rw [List.getElem?_eq_getElem aN];exact congrArg some (aE _ _ aa (h k _ _ (List.getElem?_eq_getElem aN) hk) rfl)
theorem xe {cs cs':List ab}(ah:cs'.length=cs.length) (az:∀ x∈cs,cE x) (aK:∀ (k:Nat) (x y:ab),cs[k]?=some x->cs'[k]?=some y->cE x->cE y):∀ y∈cs',cE y:=by
 intro y ai;obtain ⟨k,hk⟩:=List.getElem?_of_mem ai;have dc:=(List.getElem?_eq_some_iff.1 hk).1;have j:=List.getElem?_eq_getElem (ah ▸ dc:k<cs.length)
 grind
section
variable {w:World}{I:a6}
theorem R.oh {ρ:ab->Value->Prop}{x y:ab}{v:Value}{F:a6}(aV:R w I ρ x v F) (az:cE x) (h:View (λ_=>none) x y) (bb:∀ c,F c->¬ I c) (aN:∀ c,I c->c<w.heap.size) (hV:cw.q w I):R w (λc=>I c\/F c) ρ y v cb:=by
 have a_:jc w I #[v] (λt=>if t=0 then some x else none) (λt c=>t=0/\F c):=by
  refine ⟨λt z aS=>?_,λt ak c J=>?_,λt t' c J dX=>J.1.trans dX.1.symm,λt c J=>bb c J.2,aN,hV⟩
  ·by_cases aH:t=0
   ·subst aH;rw [if_pos rfl] at aS;cases aS;exact ⟨v,rfl,.tree ((aV.bd az).te λc=>⟨λh=>⟨rfl,h⟩,λh=>h.2⟩)⟩
   ·rw [if_neg aH] at aS; cases aS
  ·rw [if_pos J.1] at ak; cases ak
 have:=View.Qm a_ (h.up λ_ _ h=>by cases h) (aV.bd az) (λc J=>⟨0,rfl,J⟩) ρ;exact this.ng λc J=>by
  rcases J with h | ⟨t,_,h⟩
  ·exact .inl h
  ·exact .inr h
theorem gE.bd {x y:ab}(h:gE x y):cE x->cE y:=by
 induction h with
 | refl=>exact id
 | Cm=>exact λ_=>.own (by simp)
 | oh az h =>
  intro _;have key:∀ {x y:ab},View (λ_=>none) x y->cE x->cE y:=by
   intro x y h
   induction h with
   | pW=>exact λ_=>.bc (by simp)
   | self h=>exact λ_=>h
   | mp=>exact λ_=>.imp
   | ha av=>simp [bu] at av
   | agg ah _ aK=>intro az; cases az with | agg az=>exact .agg (xe ah az aK)
   | own ah _ aK=>intro az; cases az with | own az=>exact .bc (xe ah az aK)
   | obj ah _ aK=>intro az; cases az with | obj az=>exact .cJ (xe ah az aK)
   | c7 ah _ aK=>intro az; cases az with | c7 h1 af=>exact .c7 h1 (xe ah af aK)
   | bn av=>simp [bu] at av
   | sub av=>simp [bu] at av
   | ptr av=>simp [bu] at av
   | rows av =>
    cases av with
    | own av=>simp [bu] at av
    | bC ak=>cases ak
  grind
 | own ah _ aK=>intro az; cases az with | own az=>exact .own (xe ah az aK)
 | obj ah _ aK=>intro az; cases az with | obj az=>exact .obj (xe ah az aK)
 | agg ah _ aK=>intro az; cases az with | agg az=>exact .agg (xe ah az aK)
theorem HD {ρ:ab->Value->Prop}{cs cs':List ab}{get:Nat->Option Value}{Fs:Nat->a6}{F B:a6}(ah:cs'.length=cs.length)
  (aI:∀ k,k<cs.length->∃ u,get k=some u)
  (aO:∀ (aa k c:Nat),aa<cs.length->k<cs.length->Fs aa c->Fs k c->aa=k) (au:∀ k c,k<cs.length->Fs k c->¬ B c) (aE:∀ c,F c↔B c\/∃ k,k<cs.length/\Fs k c)
  (aK:∀ (k:Nat) (x y:ab),cs[k]?=some x->cs'[k]?=some y->∀ u,get k=some u->∃ cM,(∀ c,cM c->Fs k c)/\R w (λc=>I c\/(Fs k c/\¬ cM c)) ρ y u cM) :
  ∃ p':Nat->a6,(∀ k c,k<cs'.length->p' k c->Fs k c)/\(∀ (k:Nat) (y:ab) (u:Value),cs'[k]?=some y->get k=some u->R w (λc=>I c\/(F c/\¬ (B c\/∃ aa,aa<cs'.length/\p' aa c))) ρ y u (p' k)):=by
 have:∀ k,∃ G:a6,k<cs.length->(∀ c,G c->Fs k c)/\∀ (y:ab) (u:Value),cs'[k]?=some y->get k=some u->R w (λc=>I c\/(Fs k c/\¬ G c)) ρ y u G:=by
  intro k;by_cases hk:k<cs.length
  ·have j:=List.getElem?_eq_getElem hk;have ai:=List.getElem?_eq_getElem (ah ▸ hk:k<cs'.length);obtain ⟨u,hu⟩:=aI k hk
   simp_all
  ·exact ⟨cb,λh=>absurd h hk⟩
 obtain ⟨p',Np⟩:=Classical.axiomOfChoice this;refine ⟨p',λk c hk=>(Np k (ah ▸ hk)).1 c,λk y u ai hu=>?_⟩;have hk:k<cs'.length:=(List.getElem?_eq_some_iff.1 ai).1;have hS:k<cs.length:=ah ▸ hk;refine ((Np k hS).2 y u ai hu).ng λc J=>?_
 grind
theorem R.eF {ρ:ab->Value->Prop}{x y:ab}(h:gE x y):∀ {v:Value}{F:a6},R w I ρ x v F->cE x->(∀ c,F c->¬ I c)->(∀ c,I c->c<w.heap.size)->cw.q w I->∃ cM,(∀ c,cM c->F c)/\R w (λc=>I c\/(F c/\¬ cM c)) ρ y v cM:=by
 induction h with
 | refl=>exact λaV _ _ _ _=>⟨_,λ_ h=>h,aV.ng λ_ h=>.inl h⟩
 | Cm =>
  intro v F aV _ _ _ _;have:=aV.pT;subst this;refine ⟨cb,λ_ h=>h.elim,.own (e:=0) (us:=[]) (Fs:=λ_=>cb) ⟨by simp,.inl ⟨rfl,rfl⟩⟩ rfl (by simp) (by simp) (λ_ _ _ _ _ h=>h.elim) (λ_ _ _ h=>h.elim) λc=>⟨λh=>h.elim,λh=>?_⟩⟩;rcases h with h | ⟨_,_,h⟩
  ·cases h
  ·exact h
 | oh az h=>exact λaV _ bb aN hV=>⟨cb,λ_ h=>h.elim,(aV.oh az h bb aN hV).ng λc J=>J.elim .inl λh=>.inr ⟨h,λh=>h⟩⟩
 | @own z n cs cs' ah _ aK =>
  intro v F aV az bb aN hV;cases aV with
  | ref j=>simp [ab.isRef] at j
  | @own _ _ _ _ e us Fs _ aM ht h1 aj aO au aE =>
   cases az with
   | own az =>
    obtain ⟨p',pB,A1⟩:=HD (get:=λk=>us[k]?) (B:=λc=>v.ownBlock=some c) ah (λk hk=>⟨_,List.getElem?_eq_getElem (ht ▸ hk)⟩) aO (λk c hk J e=>au k c hk J e) aE (λk x y j ai u hu=>aK k x y j ai (aj k x u j hu) (az x (List.mem_of_getElem? j)) (λc J=>bb c ((aE c).2 (.inr ⟨k,(List.getElem?_eq_some_iff.1 j).1,J⟩))) aN hV);exact ⟨_,λc J=>(aE c).2 (J.imp id λ⟨k,hk,h⟩=>⟨k,ah ▸ hk,pB k c hk h⟩),
     .own aM (by rw [ah,ht]) h1 (λk y u ai hu=>A1 k y u ai hu) (λaa k c ag hk af aJ=>aO aa k c (ah ▸ ag) (ah ▸ hk) (pB aa c ag af) (pB k c hk aJ)) (λk c hk J=>au k c (ah ▸ hk) (pB k c hk J)) (λc=>Iff.rfl)⟩
 | @obj cs cs' ah nF aK =>
  intro v F aV az bb aN hV;cases aV with
  | ref j=>simp [ab.isRef] at j
  | @obj _ b e arr Fs _ aM ht h1 aj aO au aE ax =>
   cases az with
   | obj az =>
    obtain ⟨p',pB,A1⟩:=HD (get:=λk=>arr[k]?) (B:=λc=>c=b) ah (λk hk=>⟨_,Array.getElem?_eq_getElem (ht ▸ hk)⟩) aO (λk c hk J e=>au k hk (e ▸ J)) aE (λk x y j ai u hu=>aK k x y j ai (aj k x u j hu) (az x (List.mem_of_getElem? j)) (λc J=>bb c ((aE c).2 (.inr ⟨k,(List.getElem?_eq_some_iff.1 j).1,J⟩))) aN hV);exact ⟨_,λc J=>(aE c).2 (J.imp id λ⟨k,hk,h⟩=>⟨k,ah ▸ hk,pB k c hk h⟩),
     .obj aM (by rw [ah,ht]) h1 (λk y u ai hu=>A1 k y u ai hu) (λaa k c ag hk af aJ=>aO aa k c (ah ▸ ag) (ah ▸ hk) (pB aa c ag af) (pB k c hk aJ)) (λk hk J=>au k (ah ▸ hk) (pB k b hk J)) (λc=>Iff.rfl) (λk aa u hk=>ax k aa u (Fp ah nF (λ_ _ _=>gE.l_) k aa hk))⟩
 | @agg cs cs' ah _ aK =>
  intro v F aV az bb aN hV;cases aV with
  | ref j=>simp [ab.isRef] at j
  | @agg _ vs Fs _ ht h1 aj aO aE =>
   cases az with
   | agg az =>
    obtain ⟨p',pB,A1⟩:=HD (get:=λk=>vs[k]?) (B:=λ_=>False) ah (λk hk=>⟨_,Array.getElem?_eq_getElem (ht ▸ hk)⟩) aO (λk c hk J e=>e) (λc=>(aE c).trans ⟨.inr,λh=>h.elim (λh=>h.elim) id⟩) (λk x y j ai u hu=>aK k x y j ai (aj k x u j hu) (az x (List.mem_of_getElem? j)) (λc J=>bb c ((aE c).2 ⟨k,(List.getElem?_eq_some_iff.1 j).1,J⟩)) aN hV);refine ⟨λc=>∃ k,k<cs'.length/\p' k c,λc ⟨k,hk,h⟩=>(aE c).2 ⟨k,ah ▸ hk,pB k c hk h⟩,
     .agg (Fs:=p') (by rw [ah,ht]) h1 (λk y u ai hu=>(A1 k y u ai hu).ng λc J=>J.imp id λ⟨h1,af⟩=>⟨h1,λh=>af (.inr h)⟩) (λaa k c ag hk af aJ=>aO aa k c (ah ▸ ag) (ah ▸ hk) (pB aa c ag af) (pB k c hk aJ)) (λc=>Iff.rfl)⟩
end
end Go.Own
