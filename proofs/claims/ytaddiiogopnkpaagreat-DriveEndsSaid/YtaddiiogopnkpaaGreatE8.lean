/- Parts of the proof that the last text states. -/
import Derived.Test.YtaddiiogopnkpaaGreatE7
set_option linter.unusedSectionVars false
set_option linter.unusedVariables false
namespace Go.Proofs
open Go Go.Own
set_option maxRecDepth 100000
theorem aa' (m:e') (x:Sym) (aP:m.d'.length=m.ba.br.length) (aD:3<=m.ba.br.length) (h:m.ba.br.length<=100000000000) (ah:m.dw.length<=100000000000) (J:l9 x) (ar:x.Lit=true\/∀ y∈m.dw,y≠x.Name) :
  Tot (tj m x) λr=>Grow m r.2 1/\(0<=r.1/\r.1<r.2.ba.br.length)/\(r.2.eG=0->m.eG=0):=by
 unfold tj;have sc:Grow m m 1:=⟨aP,Nat.le_refl _,Nat.le_succ _,Nat.le_succ _,rfl,rfl,rfl,rfl,λ_ h=>h⟩;refine Tot.bM (λ_=>?_) (λoF=>?_)
 ·exact .aA (t175 m x aP h J) λr ⟨⟨hr,aK,h1⟩,he,_⟩=>.al ⟨hr,⟨aK,h1⟩,he⟩
 ·have ar:∀ y∈m.dw,y≠x.Name:=ar.resolve_left (by rw [oF]; decide);refine .aA (t150 m x.Name (by simp only [ef]; omega)) λk hk=>Tot.bt (λaK=>?_) (λ_=>?_)
  ·rcases hk with ⟨rfl,_⟩ | ⟨h1,af,aD⟩
   ·exact absurd aK (by decide)
   ·exact absurd rfl (ar _ (List.mem_of_getElem? aD))
  ·refine .aA (t149 m x (by simp only [ef]; omega)) λt ar=>Tot.bt (λ_=>?_) (λaK=>.al ⟨sc,?_,id⟩)
   ·refine .aA (t148 m _ _) λm' hm=>.al ⟨hm.1.grow aP 1,⟨Int.le_refl 0,?_⟩,λe=>absurd e hm.2⟩;show (0:Int)<(m'.ba.br.length:Int);rw [hm.1.g]; omega
   ·show 0<=t/\t<(m.ba.br.length:Int);rcases ar with ar | ar <;> omega
structure Bk (T:Nat) (N:Int) (p:Prod):Prop where
 left:0<=p.Left/\p.Left<=N
 right:∀ s∈p.dD,wH T N s
 prec:-1<=p.Prec/\p.Prec<T
theorem Bk.mono {T T':Nat}{N kx:Int}{p:Prod}(h:Bk T N p) (cU:T<=T') (bp:N<=kx):Bk T' kx p :=
 ⟨⟨h.left.1,by have:=h.left.2; omega⟩,λs aw=>(h.right s aw).mono cU bp,⟨h.prec.1,by have:=h.prec.2; omega⟩⟩
def EI (P:List Prod):Prop:=∀ p∈P,∀ s∈p.dD,s≠0
def y9 (m:e') (N s:Int):Prop:=wH m.ba.br.length N s/\(m.eG=0->s≠0)
structure lf (m:e') (T L I Q:Nat):Prop where
 gm:m.d'.length=m.ba.br.length
 lo:3<=m.ba.br.length
 hi:m.ba.br.length<=T
 ty:m.fw.length<=T
 hD:m.dw.length=L
 hl:0<=m.dd/\m.dd<=I
 AT:m.ba.bx.length<=Q
 gx:∀ p∈m.ba.bx,Bk m.ba.br.length (L+m.dd) p
 lvl:0<=m.fb
 jr:∀ t∈m.ba.br,0<=t.Level
 we:m.eG=0->EI m.ba.bx
theorem lf.mono {m:e'}{T L I Q T' I' Mk:Nat}(h:lf m T L I Q) (cU:T<=T') (bf:I<=I') (eu:Q<=Mk):lf m T' L I' Mk :=
 ⟨h.gm,h.lo,by have:=h.hi; omega,by have:=h.ty; omega,h.hD,⟨h.hl.1,by have:=h.hl.2; omega⟩,by have:=h.AT; omega,h.gx,h.lvl,h.jr,h.we⟩
theorem lf.grow {m m':e'}{T L I Q k:Nat}(h:lf m T L I Q) (g:Grow m m' k) (Vq:m'.eG=0->m.eG=0):lf m' (T+k) L I Q :=
 ⟨g.gm,by have:=h.lo; have:=g.lo; omega,by have:=h.hi; have:=g.hi; omega,by have:=h.ty; have:=g.ty; omega,by rw [g.hD]; exact h.hD,by rw [g.hl]; exact h.hl,by rw [g.gx]; exact h.AT,
  by rw [g.gx,g.hl]; exact λp aq=>(h.gx p aq).mono g.lo (by omega),by rw [g.lvl]; exact h.lvl,g.jr h.lvl h.jr,λe=>by rw [g.gx]; exact h.we (Vq e)⟩
theorem Lf {P:List Prod}{p:Prod}(h:EI P) (aq:∀ s∈p.dD,s≠0):EI (P++[p]):=λq a8=>by
 rcases List.mem_append.1 a8 with a8 | a8
 ·exact h q a8
 ·rw [List.mem_singleton.1 a8]; exact aq
theorem t151 (m:e') (left:ByteArray) (a:Alt) {T L I Q:Nat}(hm:lf m T L I Q) (cU:T<=10000000000) (fK:L<=10000000000) (bf:I<=10000000000) (eu:Q<=10000000000) (au:A7 a) (c7:Ex a) :
  Tot (vX m left a) λm'=>lf m' (T+1001) L (I+1000) (Q+1001)/\1<=m'.ba.bx.length:=by
 unfold vX;have aB:=au.n;refine .aA (t150 m left (by rw [hm.hD]; simp only [ef]; omega)) λaR gE=>?_;have afl:-1<=aR/\aR<L:=by rw [<- hm.hD]; rcases gE with h | h <;> omega
 refine Tot.aA (Ξ:=λa7=>lf a7.1 (T+1000) L (I+1000) (Q+1000)/\(∀ s∈a7.2.1,y9 a7.1 (L+a7.1.dd) s)/\a7.2.1.length<=1000) ?_ λa7 hb=>?_
 ·refine Tot.count (λs=>s.2.2.2.2) a.Parts.length (λs=>0<=s.2.2.2.2/\s.2.2.2.2<=a.Parts.length/\lf s.1 (T+s.2.2.2.2.toNat) L (I+s.2.2.2.2.toNat) (Q+s.2.2.2.2.toNat)/\(∀ y∈s.2.1,y9 s.1 (L+s.1.dd) y)/\s.2.1.length<=s.2.2.2.2.toNat) ⟨by show (0:Int)<=0; omega,by show (0:Int)<=_; omega,hm,by simp,Nat.le_refl 0⟩ (by show (a.Parts.length:Int) - 0<_; omega) λs aw=>?_;obtain ⟨m1,rt,bM,at_,i⟩:=s;obtain ⟨aK,h1,ag,hr,ah⟩:=aw;simp only at aK h1 ag hr ah ⊢;have hw:aG (i+1)=i+1:=by rw [cB]; omega
  have b9:(i+1).toNat=i.toNat+1:=by omega
  refine Tot.bt (λaN=>?_) (λ_=>.al ⟨ag.mono (by omega) (by omega) (by omega),hr,by show rt.length<=1000; omega⟩);refine Tot.aA (Ξ:=λj=>lf j.1 (T+(i.toNat+1)) L (I+(i.toNat+1)) (Q+(i.toNat+1))/\(∀ y∈j.2.1,y9 j.1 (L+j.1.dd) y)/\j.2.1.length<=i.toNat+1) ?_ λj JA=>?_
  ·refine Tot.aA (Tot.hn (Φ:=λy=>y∈a.Parts) aK aN λy _ ao=>ao) λy ao=>?_;refine Tot.aA (Ξ:=λj=>lf j.1 (T+(i.toNat+1)) L (I+(i.toNat+1)) (Q+(i.toNat+1))/\(∀ y∈j.2.1,y9 j.1 (L+j.1.dd) y)/\j.2.1.length<=i.toNat+1) ?_ λj JB=>.al JB;refine Tot.aA (Ξ:=λj=>lf j.1 (T+(i.toNat+1)) L (I+(i.toNat+1)) (Q+(i.toNat+1))/\(∀ y∈j.2.1,y9 j.1 (L+j.1.dd) y)/\j.2.1.length<=i.toNat+1) ?_ λj JB=>.al JB;refine Tot.bM (λ_=>?_) (λ_=>?_)
   ·have bP:=ag.hi;refine .aA (t177 m1 y.Sym ag.gm ag.lo (by omega) (by rw [ag.hD]; omega) (c7.parts y ao)) λr ⟨aP,OW,CV⟩=>?_;refine .bK<|.al ⟨(ag.grow aP λe=>(CV e).1).mono (by omega) (by omega) (by omega),λz aX=>?_,by simp; omega⟩;rcases List.mem_append.1 aX with aX | aX
    ·exact ⟨(hr z aX).1.mono aP.lo (by show (L:Int)+m1.dd<=L+r.2.dd; rw [aP.hl]; omega),λe=>(hr z aX).2 (CV e).1⟩
    ·rw [List.mem_singleton.1 aX];rw [ag.hD] at OW;exact ⟨OW.mono (Nat.le_refl _) (by show (L:Int)<=L+r.2.dd; rw [aP.hl]; have:=ag.hl.1; omega),λe=>(CV e).2⟩
   ·refine Tot.aA (Ξ:=λj=>lf (⟨(⟨m1.ba.br,m1.ba.dC,j.1,m1.ba.hf,m1.ba.jX⟩:bD),m1.d',m1.fw,m1.dw,m1.eG,m1.kg,m1.kh,m1.fb,j.2.1⟩:dc) (T+(i.toNat+1)) L (I+(i.toNat+1)) (Q+(i.toNat+1))/\(∀ y∈j.2.2.1,y9 m1 (L+j.2.1) y)/\j.2.2.1.length<=i.toNat+1) ?_ λj Xp=>.al Xp;refine Tot.bM (λ_=>.al ⟨⟨ag.gm,ag.lo,by have:=ag.hi; show m1.ba.br.length<=_; omega,by have:=ag.ty; show m1.fw.length<=_; omega,ag.hD,⟨ag.hl.1,by have:=ag.hl.2; show m1.dd<=_; omega⟩,by have:=ag.AT; show m1.ba.bx.length<=_; omega,ag.gx,ag.lvl,ag.jr,ag.we⟩,hr,by show rt.length<=_; omega⟩) (λ_=>?_);have zF:=ag.hl;have zJ:=ag.hD;have sh:=ag.AT;have ik:aG (m1.dd+1)=m1.dd+1:=by rw [cB]; omega
    have hs:aG (((m1.dw.length:Int))+(m1.dd+1))=L+(m1.dd+1):=by rw [cB,zJ]; omega
    have LP:aG (1000+(m1.dw.length:Int))=1000+L:=by rw [cB,zJ]; omega
    have LQ:aG (1000+(L:Int)+(m1.dd+1))=1000+(L:Int)+(m1.dd+1):=by rw [cB]; omega
    rw [ik,hs,LP,LQ];refine .bK<|.bK<|.bK<|.al ⟨⟨ag.gm,ag.lo,?_,?_,ag.hD,?_,?_,?_,ag.lvl,ag.jr,λe=>Lf (ag.we e) λs h=>by cases h⟩,?_,?_⟩
    ·have:=ag.hi; show m1.ba.br.length<=_; omega
    ·have:=ag.ty; show m1.fw.length<=_; omega
    ·show 0<=m1.dd+1/\m1.dd+1<=((I+(i.toNat+1):Nat):Int); omega
    ·show (m1.ba.bx++[_]).length<=_; simp; omega
    ·intro p aq;rcases List.mem_append.1 aq with aq | aq
     ·exact (ag.gx p aq).mono (Nat.le_refl _) (by show (L:Int)+m1.dd<=L+(m1.dd+1); omega)
     ·rw [List.mem_singleton.1 aq];refine ⟨?_,by simp,?_⟩
      ·show 0<=(L:Int)+(m1.dd+1)/\(L:Int)+(m1.dd+1)<=L+(m1.dd+1); omega
      ·have:=ag.lo; show (-1:Int)<=-1/\(-1:Int)<(m1.ba.br.length:Int); omega
    ·intro z aX;rcases List.mem_append.1 aX with aX | aX
     ·exact ⟨(hr z aX).1.mono (Nat.le_refl _) (by show (L:Int)+m1.dd<=L+(m1.dd+1); omega),(hr z aX).2⟩
     ·rw [List.mem_singleton.1 aX];exact ⟨.inr (by show 1000<=1000+(L:Int)+(m1.dd+1)/\1000+(L:Int)+(m1.dd+1)<=1000+((L:Int)+(m1.dd+1)); omega),λ_=>by show 1000+(L:Int)+(m1.dd+1)≠0; omega⟩
    ·show (rt++[_]).length<=_; simp; omega
  ·rw [hw];refine .al ⟨⟨?_,?_,?_,JA.2.1,?_⟩,?_,?_⟩
   ·show (0:Int)<=i+1; omega
   ·show i+1<=(a.Parts.length:Int); omega
   ·show lf j.1 (T+(i+1).toNat) L (I+(i+1).toNat) (Q+(i+1).toNat);rw [b9]; exact JA.1
   ·show j.2.1.length<=(i+1).toNat;rw [b9]; exact JA.2.2
   ·show i<i+1; omega
   ·show i+1<=(a.Parts.length:Int); omega
 ·obtain ⟨ag,hr,ah⟩:=hb;have me:=ag.lo;have zF:=ag.hl;refine Tot.aA (Ξ:=λp=>-1<=p/\p<(a7.1.ba.br.length:Int)) ?_ λgx FA=>?_
  ·refine Tot.count (λs=>s.2) a7.2.1.length (λs=>0<=s.2/\s.2<=a7.2.1.length/\-1<=s.1/\s.1<(a7.1.ba.br.length:Int)) ⟨by show (0:Int)<=0; omega,by show (0:Int)<=_; omega,by show (-1:Int)<=-1; omega,by show (-1:Int)<_; omega⟩ (by show (a7.2.1.length:Int) - 0<_; omega) λs aw=>?_;obtain ⟨aK,h1,af,aD⟩:=aw;have hw:aG (s.2+1)=s.2+1:=by rw [cB]; omega
   rw [hw];refine Tot.bt (λaN=>?_) (λ_=>.al ⟨af,aD⟩);refine Tot.aA (Ξ:=λp=>-1<=p/\p<(a7.1.ba.br.length:Int)) ?_ λp aq=>.al ⟨⟨?_,?_,aq.1,aq.2⟩,?_,?_⟩
   ·refine .aA (Tot.hn (Φ:=λy=>idx a7.2.1 s.2=some y/\y∈a7.2.1) aK aN λy h1 af=>⟨h1,af⟩) λy ao=>?_;refine .aA (Ξ:=λp=>-1<=p/\p<(a7.1.ba.br.length:Int)) ?_ λp aq=>.al aq;refine Tot.bt (λaN=>?_) (λ_=>.al ⟨af,aD⟩);rw [ao.1];refine Tot.aV (.al ?_);rcases (hr y ao.2).1 with h | h
    ·omega
    ·omega
   ·show (0:Int)<=s.2+1; omega
   ·show s.2+1<=(a7.2.1.length:Int); omega
   ·show s.2<s.2+1; omega
   ·show s.2+1<=(a7.2.1.length:Int); omega
  ·refine Tot.aA (Ξ:=λj=>Grow a7.1 j.1 1/\(-1<=j.2/\j.2<(j.1.ba.br.length:Int))/\(j.1.eG=0->a7.1.eG=0)) ?_ λj zG=>?_
   ·have sc:Grow a7.1 a7.1 1:=⟨ag.gm,Nat.le_refl _,Nat.le_succ _,Nat.le_succ _,rfl,rfl,rfl,rfl,λ_ h=>h⟩;refine Tot.bM (λ_=>?_) (λ_=>.al ⟨sc,FA,id⟩);refine Tot.aA (Ξ:=λc=>c=true->a.Prec.Lit=true\/∀ y∈a7.1.dw,y≠a.Prec.Name) ?_ λc aa=>?_
    ·refine Tot.bM (λh=>.al λ_=>.inl h) (λ_=>?_);refine .aA (t150 a7.1 a.Prec.Name (by rw [ag.hD]; simp only [ef]; omega)) λk hk=>.al λaN=>?_;have aN:=of_decide_eq_true aN;rcases hk with ⟨_,h⟩ | h
     ·exact .inr h
     ·omega
    ·refine Tot.aA (Ξ:=λj=>Grow a7.1 j.1 1/\(-1<=j.2/\j.2<(j.1.ba.br.length:Int))/\(j.1.eG=0->a7.1.eG=0)) ?_ λj ag=>.al ag;have bP:=ag.hi;refine Tot.bM (λh=>?_) (λ_=>?_)
     ·refine .aA (aa' a7.1 a.Prec ag.gm ag.lo (by omega) (by rw [ag.hD]; omega) c7.prec (aa h)) λr hr=>.al ⟨hr.1,⟨?_,hr.2.1.2⟩,hr.2.2⟩;have:=hr.2.1.1; show -1<=r.1; omega
     ·refine .aA (t148 a7.1 _ _) λm' hT=>.al ⟨hT.1.grow ag.gm 1,⟨by show (-1:Int)<=-1; omega,?_⟩,λe=>absurd e hT.2⟩;show (-1:Int)<(m'.ba.br.length:Int); omega
   ·have hT:=ag.grow zG.1 zG.2.2;have sh:=hT.AT;refine .bK<|.bK<|.al ⟨⟨hT.gm,hT.lo,?_,?_,hT.hD,⟨hT.hl.1,?_⟩,?_,?_,hT.lvl,hT.jr,λe=>Lf (hT.we e) λs aw=>(hr s aw).2 (zG.2.2 e)⟩,by simp⟩
    ·have:=hT.hi; show j.1.ba.br.length<=_; omega
    ·have:=hT.ty; show j.1.fw.length<=_; omega
    ·have:=hT.hl.2; show j.1.dd<=_; omega
    ·show (j.1.ba.bx++[_]).length<=_; simp; omega
    ·intro p aq;rcases List.mem_append.1 aq with aq | aq
     ·exact hT.gx p aq
     ·rw [List.mem_singleton.1 aq];have ae5:=hT.hl;refine ⟨?_,λz aX=>?_,zG.2.1⟩
      ·show 0<=aG (1+aR)/\aG (1+aR)<=(L:Int)+j.1.dd;rw [cB]; omega
      ·exact (hr z aX).1.mono zG.1.lo (by show (L:Int)+a7.1.dd<=L+j.1.dd; rw [zG.1.hl]; omega)
theorem Lw (l:List Int):(strOfNums l).size=l.length:=strOfNums_size ..
theorem t153 (n:Int) (aK:0<=n) (h1:n<=1000000000000):Tot (Dz n) λs=>s.size<=2000000000000:=by
 unfold Dz;have hu:IntKind.u64.wrap n=n:=by rw [IntKind.wrap_u64]; omega
 refine Tot.aA (Ξ:=λj=>j=n) (Tot.bt (λh=>absurd h (by omega)) (λ_=>.al hu)) λj ag=>?_;subst ag;refine Tot.aA (Ξ:=λs=>s.size<=1000000000001) ?_ λs aw=>Tot.bt (λh=>absurd h (by omega)) (λ_=>.al (by omega));refine Tot.loop (λs=>0<=s.1/\s.1+s.2.size<=1000000000000+1/\(s.2.size=0->s.1<=1000000000000)) (λs=>s.1.toNat+(if s.2.size=0 then 1 else 0)) ⟨aK,by show j+((0:Nat):Int)<=_; omega,λ_=>h1⟩ (by show j.toNat+(if (0:Nat)=0 then 1 else 0)<1000000000000000000; simp; omega) λs aw=>?_
 obtain ⟨m,t⟩:=s;obtain ⟨g0,g1,g2⟩:=aw;simp only at g0 g1 g2 ⊢;refine Tot.aA (Ξ:=λc=>c=true->0<m\/t.size=0) ?_ λc aa=>Tot.bM (λkl=>?_) (λ_=>.al ?_)
 ·refine Tot.bt (λh=>.al λ_=>.inl h) (λ_=>.al λh=>.inr ?_);have:=of_decide_eq_true h;rw [this]; rfl
 ·have aa:=aa kl;refine .aA (Ξ:=λx=>x=m.tmod 10) (Tot.uL (by decide) rfl) λx J=>?_;refine .aA (Ξ:=λy=>y.size=t.size+1) (Tot.cat ?_ ?_) λy ao=>.aA (Ξ:=λz=>z=m / 10) (Tot.uI (by decide) ?_) λz aX=>.al ?_
  ·rw [Lw]; simp; omega
  ·rw [ByteArray.size_append,Lw]; simp; omega
  ·rw [Int.tdiv_eq_ediv_of_nonneg g0,IntKind.wrap_u64]; omega
  ·subst aX;refine ⟨⟨?_,?_,?_⟩,?_⟩
   ·show 0<=m / 10; omega
   ·show m / 10+(y.size:Int)<=_; rw [ao]; omega
   ·intro h; have h:y.size=0:=h; omega
   ·show (m / 10).toNat+(if y.size=0 then 1 else 0)<m.toNat+(if t.size=0 then 1 else 0);rw [if_neg (by omega)]
    split <;> omega
 ·show t.size<=1000000000001; omega
structure fZ (g:bD):Prop where
 k9:3<=g.br.length/\g.br.length<=40
 eW:1<=g.dC.length/\g.dC.length<=24
 jt:1<=g.bx.length/\g.bx.length<=60
 gx:∀ p∈g.bx,Bk g.br.length (g.dC.length - 1) p
 aF:∀ p∈g.bx,p.dD.length<=8
 jr:∀ t∈g.br,0<=t.Level
 we:EI g.bx
structure iC (m:e') (T L:Nat):Prop where
 gm:m.d'.length=m.ba.br.length
 lo:3<=m.ba.br.length
 hi:m.ba.br.length<=3+T
 ty:m.fw.length<=T
 hD:m.dw.length<=L
 gx:m.ba.bx=[]
 hl:m.dd=0
 lvl:0<=m.fb
 jr:∀ t∈m.ba.br,0<=t.Level
theorem iC.mono {m:e'}{T L T' L':Nat}(h:iC m T L) (cU:T<=T') (fK:L<=L'):iC m T' L' :=
 ⟨h.gm,h.lo,by have:=h.hi; omega,by have:=h.ty; omega,by have:=h.hD; omega,h.gx,h.hl,h.lvl,h.jr⟩
theorem iC.grow {m m':e'}{T L k:Nat}(h:iC m T L) (g:Grow m m' k):iC m' (T+k) L :=
 ⟨g.gm,by have:=h.lo; have:=g.lo; omega,by have:=h.hi; have:=g.hi; omega,by have:=h.ty; have:=g.ty; omega,by rw [g.hD]; exact h.hD,g.gx.trans h.gx,g.hl.trans h.hl,by rw [g.lvl]; exact h.lvl,g.jr h.lvl h.jr⟩
theorem iC.same {m m':e'}{T L:Nat}(h:iC m T L) (g:rX m m'):iC m' T L:=by
 have:=h.grow (g.grow h.gm 0);exact this
theorem t19 (a n:Int) (h:0<n) (aB:n<=9223372036854775807):Tot (uE a n) λr=>0<=r/\r<n:=by
 unfold uE;have h1:-n<a.tmod n:=by
  by_cases aI:0<=a
  ·have:=Int.tmod_nonneg n aI;omega
  ·have af:(-a).tmod n<n:=Int.tmod_lt_of_pos _ h;rw [Int.neg_tmod] at af;omega
 have af:a.tmod n<n:=Int.tmod_lt_of_pos a h;refine .aA (Ξ:=λx=>x=a.tmod n) (Tot.rem (by omega) rfl) λx J=>?_;subst J;refine Tot.aA (Ξ:=λr=>0<=r/\r<n) (Tot.bt (λaD=>.al ?_) (λaD=>.al (by omega))) λr hr=>.al hr
 grind [cB]
theorem t33 (k:Int) (h:0<=k):Tot (v_ k) λx=>x.Name.size=1/\x.Lit=true/\x.cc=0:=by
 unfold v_;refine .aA (Ξ:=λx=>x.size=4) (.al rfl) λaR h1=>.aA (Ξ:=λr=>r=k.tmod 4) (Tot.rem (by decide) rfl) λx2 af=>.aA (Ξ:=λr=>r=k.tmod 4) (Tot.rem (by decide) rfl) λa7 aD=>?_;subst af aD;have e:k.tmod 4=k % 4:=Int.tmod_eq_emod_of_nonneg h;rw [e];have hw:aG (k % 4+1)=k % 4+1:=by rw [cB]; omega
 rw [hw];refine .aA (Ξ:=λx=>x.size=1) (Tot.cut (by rw [h1]; omega) ?_) λbl bm=>.al ⟨bm,rfl,rfl⟩
 grind [UM]
theorem t31 (k:Int):Tot (AG k) λx=>x.size=1:=by
 unfold AG;exact .al (by rw [Lw]; rfl)
theorem t32 (k n:Int) (h:0<n) (aB:n<=100):Tot (DH k n) λx=>x.Name.size<=5:=by
 unfold DH;refine .aA (t19 k 14 (by decide) (by decide)) λaR h1=>Tot.bt (λb7=>?_) (λb7=>Tot.bM (λ_=>.al ?_) (λ_=>?_))
 ·refine .aA (Ξ:=λ_=>True) (Tot.rem (by omega) trivial) λa7 _=>.aA (t31 a7) λbl bm=>.al ?_
  grind
 ·show (5:Nat)<=5;omega
 ·refine .aA (t33 _ ?_) λx J=>.al (by omega)
  grind [cB]
structure A' (n:Nat) (d:Decl):Prop where
 tag:d.Tag.size=0
 n:d.fa.length<=n
 syms:∀ x∈d.fa,x.Name.size<=ef
theorem t30 (l:List Int):Tot (AF l) λr=>r.length<=4/\∀ d∈r,A' 10 d:=by
 unfold AF;refine Tot.aA (Ξ:=λr=>r.length<=4/\∀ d∈r,A' 10 d) ?_ λr hr=>.al hr;refine Tot.count (λs=>s.2) 4 (λs=>0<=s.2/\s.2<=4/\s.1.length<=s.2.toNat/\∀ d∈s.1,A' (1+s.2.toNat) d) ⟨Int.le_refl 0,by decide,Nat.le_refl 0,λd aO=>absurd aO (by simp)⟩ (by decide) λs aw=>?_;obtain ⟨r,i⟩:=s;obtain ⟨aK,bm,ah,aO⟩:=aw;simp only at aK bm ah aO ⊢;have hw:aG (i+1)=i+1:=by rw [cB]; omega
 rw [hw];refine .aA (Ξ:=λc=>c=true->i<l.length/\i<4) (Tot.bt (λh=>.al λaf=>⟨h,of_decide_eq_true af⟩) (λ_=>.al λh=>by cases h)) λc aa=>Tot.bM (λkl=>?_) (λ_=>.al ⟨by omega,λd k3=>⟨(aO d k3).tag,by have:=(aO d k3).n; omega,(aO d k3).syms⟩⟩);obtain ⟨hi,ae1⟩:=aa kl;refine Tot.aA (Ξ:=λj=>j.length<=i.toNat+1/\∀ d∈j,A' (1+(i.toNat+1)) d) ?_ λj ag=>.al ⟨⟨?_,?_,?_,?_⟩,?_,?_⟩
 ·refine .aA (Tot.hn (Φ:=λ_=>True) aK hi λ_ _ _=>trivial) λbE _=>.aA (t19 bE 8 (by decide) (by decide)) λcm BV=>.aA (Ξ:=λ_=>True) (Tot.rem (by decide) trivial) λb5 _=>?_;have o5:∀ d∈r,A' (1+(i.toNat+1)) d:=λd k3=>⟨(aO d k3).tag,by have:=(aO d k3).n; omega,(aO d k3).syms⟩;refine Tot.bM (λ_=>.al ⟨by omega,o5⟩) (λ_=>?_);refine .aA (Ξ:=λc=>c=true->0<(r.length:Int)) (Tot.bM (λ_=>.al λh=>of_decide_eq_true h) (λ_=>.al λh=>by cases h)) λc aa=>Tot.bM (λqq=>?_) (λ_=>?_)
  ·have pO:=aa qq;have Yc:aG ((r.length:Int) - 1)=(r.length:Int) - 1:=by rw [cB]; omega
   rw [Yc];refine .aA (Tot.hn (Φ:=λy=>y∈r) (by omega) (by omega) λ_ _ h=>h) λd k3=>.aA (t33 i aK) λx J=>.aA (Ξ:=λ_=>True) (Tot.ap (by have:=(aO d k3).n; simp [lim]; omega) trivial) λ_ _=>.al ⟨by simp; omega,λNd zC=>?_⟩;rcases PJ zC with h | rfl
   ·grind
   ·refine ⟨(aO d k3).tag,?_,λy ao=>?_⟩
    ·have:=(aO d k3).n
     grind
    ·rcases List.mem_append.1 ao with ao | ao
     ·exact (aO d k3).syms y ao
     grind
  ·refine .aA (Ξ:=λ_=>True) (Tot.rem (by decide) trivial) λdP _=>.aA (t33 i aK) λx J=>.bK<|.al ⟨by simp; omega,λNd zC=>?_⟩;rcases List.mem_append.1 zC with h | h
   ·grind
   ·rw [List.mem_singleton.1 h];refine ⟨rfl,by show 1<=_; omega,λy ao=>?_⟩
    grind
 all_goals grind
structure mD (n:Nat) (r:fI):Prop where
 left:r.Left.size<=ef
 n:r.gg.length<=n
 alts:∀ a∈r.gg,A7 a
theorem mD.mono {n m:Nat}{r:fI}(h:mD n r) (hm:n<=m):mD m r:=⟨h.left,Nat.le_trans h.n hm,h.alts⟩
theorem mD.add {n:Nat}{r:fI}{a:Alt}(h:mD n r) (aI:A7 a):mD (n+1) (⟨r.Left,r.gg++[a],r.At⟩:fI):=by
 refine ⟨h.left,by have:=h.n; show (r.gg++[a]).length<=_; simp; omega,λb au=>?_⟩;rcases List.mem_append.1 au with au | au
 ·exact h.alts b au
 grind
theorem Mx {l:List fI}{i n:Nat}{r:fI}(h:∀ x∈l,mD n x) (hr:mD n r):∀ x∈l.set i r,mD n x:=by grind
theorem t10 (x:qS):Tot (An x) u4:=by
 unfold An;refine .aA (t19 x.dC 4 (by decide) (by decide)) λaR h1=>.aA (t30 x.wE) λx2 af=>?_;have Ka:aG (1+aR)=1+aR:=by rw [cB]; omega
 rw [Ka];refine .aA (Ξ:=λl=>l=List.replicate (1+aR).toNat false) (Tot.mk (by simp [lim]; omega) rfl) λa7 aD=>?_;have aet:a7.length=(1+aR).toNat:=by rw [aD]; simp
 refine Tot.aA (Ξ:=λl=>(l.length:Int)=1+aR/\∀ r∈l,mD 0 r) ?_ λbW b7=>?_
 ·refine Tot.count (λs=>s.2) (1+aR) (λs=>0<=s.2/\s.2<=1+aR/\(s.1.length:Int)=s.2/\∀ r∈s.1,mD 0 r) ⟨Int.le_refl 0,by show 0<=1+aR; omega,rfl,λd aO=>absurd aO (by simp)⟩ (by show 1+aR - 0<_; omega) λs aw=>?_;obtain ⟨l,i⟩:=s;obtain ⟨g0,g1,ah,bQ⟩:=aw;simp only at g0 g1 ah bQ ⊢;have hw:aG (i+1)=i+1:=by rw [cB]; omega
  rw [hw];refine Tot.bt (λaN=>?_) (λ_=>.al ⟨by omega,bQ⟩);refine .aA (t31 i) λbE w5=>.bK<|.al ⟨⟨?_,?_,?_,λr hr=>?_⟩,?_,?_⟩
  ·grind
  ·grind
  ·grind
  ·rcases List.mem_append.1 hr with hr | hr
   ·grind
   ·rw [List.mem_singleton.1 hr];exact ⟨by show bE.size<=_; rw [w5]; decide,Nat.le_refl 0,λa aI=>absurd aI (by simp)⟩
  ·grind
  grind
 refine Tot.aA (Ξ:=λr=>(r.1.length:Int)=1+aR/\(r.2.length:Int)=1+aR/\∀ y∈r.1,mD 9 y) ?_ λa1 BT=>?_
 ·refine Tot.count (λs=>s.2.2) 9 (λs=>0<=s.2.2/\s.2.2<=9/\(s.1.length:Int)=1+aR/\(s.2.1.length:Int)=1+aR/\∀ y∈s.1,mD s.2.2.toNat y) ⟨Int.le_refl 0,by show (0:Int)<=9; decide,b7.1,by show (a7.length:Int)=_; omega,b7.2⟩ (by show (9:Int) - 0<_; decide) λs aw=>?_;obtain ⟨l,au,i⟩:=s;obtain ⟨g0,g1,ah,Jy,bQ⟩:=aw;simp only at g0 g1 ah Jy bQ ⊢;have hw:aG (i+1)=i+1:=by rw [cB]; omega
  rw [hw];refine .aA (Ξ:=λc=>c=true->i<x.eM.length/\i<9) (Tot.bt (λh=>.al λaf=>⟨h,of_decide_eq_true af⟩) (λ_=>.al λh=>by cases h)) λc aa=>Tot.bM (λkl=>?_) (λ_=>.al ⟨ah,Jy,λy ao=>(bQ y ao).mono (by omega)⟩);obtain ⟨hi,ae2⟩:=aa kl;have pL:i.toNat<x.eM.length:=by omega
  have Cl:idx x.eM i=some x.eM[i.toNat]:=by simp [idx,g0,pL]
  rw [Cl];generalize x.eM[i.toNat]=d;have N7:∀ y∈l,mD (i.toNat+1) y:=λy ao=>(bQ y ao).mono (by omega);refine Tot.aA (Ξ:=λj=>(j.1.length:Int)=1+aR/\(j.2.length:Int)=1+aR/\∀ y∈j.1,mD (i.toNat+1) y) ?_ λj ag=>.al ⟨⟨?_,?_,ag.1,ag.2.1,?_⟩,?_,?_⟩
  ·refine Tot.aV (Tot.bt (λ_=>.al ⟨ah,Jy,N7⟩) (λcO=>Tot.aV ?_));refine .aA (Tot.hn (Φ:=λ_=>True) (by decide) (by omega) λ_ _ _=>trivial) λeL _=>.aA (t19 eL (1+aR) (by omega) (by omega)) λfN NS=>?_;have oz:∀ c:ByteArray,c.size<=ef->((⟨(⟨⟨#[]⟩,false,0,0⟩:Sym),c,0⟩:Part).Sym.Name.size<=ef/\(⟨(⟨⟨#[]⟩,false,0,0⟩:Sym),c,0⟩:Part).Code.size<=ef):=λc aa=>⟨by show 0<=_; exact Nat.zero_le _,aa⟩;refine Tot.aA (Ξ:=λr=>r.1.length<=10/\∀ p∈r.1,p.Sym.Name.size<=ef/\p.Code.size<=ef) ?_ λfY VF=>?_
   ·refine Tot.count (λs=>s.2.2) 5 (λs=>1<=s.2.2/\s.2.2<=5/\(s.1.length:Int)<=2 * (s.2.2 - 1)/\∀ p∈s.1,p.Sym.Name.size<=ef/\p.Code.size<=ef) ⟨Int.le_refl 1,by decide,by decide,λp aq=>absurd aq (by simp)⟩ (by decide) λs aw=>?_;obtain ⟨ps,pl,k⟩:=s;obtain ⟨k0,vQ,YU,Pv⟩:=aw;simp only at k0 vQ YU Pv ⊢;have sm:aG (k+1)=k+1:=by rw [cB]; omega
    rw [sm];refine .aA (Ξ:=λc=>c=true->k<d.length/\k<5) (Tot.aV (Tot.bt (λh=>.al λaf=>⟨h,of_decide_eq_true af⟩) (λ_=>.al λh=>by cases h))) λc aa=>Tot.bM (λkl=>?_) (λ_=>.al ⟨by show ps.length<=10; omega,Pv⟩);obtain ⟨hk,ae7⟩:=aa kl;refine Tot.aA (Ξ:=λj=>(j.1.length:Int)<=2 * k/\∀ p∈j.1,p.Sym.Name.size<=ef/\p.Code.size<=ef) ?_ λj ag=>.al ⟨⟨?_,?_,?_,ag.2⟩,?_,?_⟩
    ·refine Tot.aV (.aA (Tot.hn (Φ:=λ_=>True) (by omega) hk λ_ _ _=>trivial) λoT _=>.aA (t32 oT (1+aR) (by omega) (by omega)) λdb NT=>?_);refine .aA (Ξ:=λ_=>True) (Tot.bM (λ_=>Tot.bM (λ_=>.al trivial) (λ_=>.al trivial)) (λ_=>.al trivial)) λ_ _=>.bK<|?_;have a8:∀ p∈ps++[(⟨db,⟨#[]⟩,0⟩:Part)],p.Sym.Name.size<=ef/\p.Code.size<=ef:=λp aq=>by
      grind
     refine .aA (Ξ:=λ_=>True) ?_ λM5 _=>?_
     ·refine Tot.bt (λh=>Tot.bM (λ_=>.aA (Tot.hn (Φ:=λ_=>True) g0 h λ_ _ _=>trivial) λ_ _=>.aA (Ξ:=λ_=>True) (Tot.rem (by decide) trivial) λ_ _=>.al trivial) (λ_=>.al trivial)) (λ_=>.al trivial)
     ·refine Tot.aA (Ξ:=λl=>(l.length:Int)<=2 * k/\∀ p∈l,p.Sym.Name.size<=ef/\p.Code.size<=ef) ?_ λj ag=>.al ag;refine Tot.bM (λ_=>?_) (λ_=>.al ⟨by simp; omega,a8⟩);refine .bK<|.al ⟨by simp; omega,λp aq=>?_⟩;rcases List.mem_append.1 aq with aq | aq
      ·grind
      ·rw [List.mem_singleton.1 aq];exact oz _ (by decide)
    all_goals grind
   ·refine .aA (Ξ:=λ_=>True) (Tot.bt (λh=>.aA (Tot.hn (Φ:=λ_=>True) g0 h λ_ _ _=>trivial) λ_ _=>.aA (Ξ:=λ_=>True) (Tot.rem (by decide) trivial) λ_ _=>.al trivial) (λ_=>.al trivial)) λacq _=>?_;refine Tot.aA (Ξ:=λl=>l.length<=20/\∀ p∈l,p.Sym.Name.size<=ef/\p.Code.size<=ef) ?_ λpa VJ=>?_
    ·refine Tot.bM (λ_=>?_) (λ_=>.al ⟨by omega,VF.2⟩);refine .bK<|.al ⟨by simp; omega,λp aq=>?_⟩;rcases List.mem_append.1 aq with aq | aq
     ·grind
     ·rw [List.mem_singleton.1 aq];exact oz _ (by decide)
    ·refine Tot.aA (Ξ:=λl=>(l.length:Int)=1+aR) ?_ λMY VL=>?_
     ·refine .aA (Tot.hn (Φ:=λ_=>True) NS.1 (by omega) λ_ _ _=>trivial) λ_ _=>Tot.bM (λ_=>.al (by simp; omega)) (λ_=>.al (by simp; omega))
     ·refine .aA (Tot.hn (Φ:=λy=>y∈l) NS.1 (by omega) λ_ _ h=>h) λmv VM=>?_;have rq:=bQ mv VM;refine .aA (Ξ:=λ_=>True) (Tot.ap (by have:=rq.n; simp [lim]; omega) trivial) λ_ _=>.al ⟨by show ((l.set _ _).length:Int)=_; simp; omega,VL,Mx N7 (rq.add ⟨by show pa.length<=_; omega,VJ.2,Nat.zero_le _⟩)⟩
  all_goals grind
 refine Tot.aA (Ξ:=λl=>(l.length:Int)=1+aR/\∀ y∈l,mD 20 y) ?_ λwy VO=>.al ⟨Nat.zero_le _,?_,λd aO=>?_,?_,λr hr=>?_⟩
 ·refine Tot.count (λs=>s.2) (1+aR) (λs=>0<=s.2/\s.2<=1+aR/\(s.1.length:Int)=1+aR/\∀ y∈s.1,mD (9+s.2.toNat) y) ⟨Int.le_refl 0,by show 0<=1+aR; omega,BT.1,BT.2.2⟩ (by show 1+aR - 0<_; omega) λs aw=>?_;obtain ⟨l,i⟩:=s;obtain ⟨g0,g1,ah,bQ⟩:=aw;simp only at g0 g1 ah bQ ⊢;have hw:aG (i+1)=i+1:=by rw [cB]; omega
  rw [hw];refine Tot.bt (λaN=>?_) (λ_=>.al ⟨ah,λy ao=>(bQ y ao).mono (by omega)⟩);refine Tot.aA (Ξ:=λl=>(l.length:Int)=1+aR/\∀ y∈l,mD (9+i.toNat+1) y) ?_ λj ag=>.al ⟨⟨?_,?_,ag.1,?_⟩,?_,?_⟩
  ·refine .aA (Ξ:=λ_=>True) ?_ λacr _=>?_
   ·refine .aA (Tot.hn (Φ:=λ_=>True) g0 (by omega) λ_ _ _=>trivial) λwz _=>Tot.bM (λ_=>.al trivial) (λ_=>.aA (Tot.hn (Φ:=λ_=>True) g0 (by omega) λ_ _ _=>trivial) λ_ _=>Tot.bM (λ_=>.al trivial) (λ_=>.al trivial))
   ·refine Tot.aA (Ξ:=λl=>(l.length:Int)=1+aR/\∀ y∈l,mD (9+i.toNat+1) y) ?_ λj ag=>.al ag;refine Tot.bM (λ_=>?_) (λ_=>.al ⟨ah,λy ao=>(bQ y ao).mono (by omega)⟩);refine .aA (Tot.hn (Φ:=λy=>y∈l) g0 (by omega) λ_ _ h=>h) λkM Ff=>.aA (t33 i g0) λkN aeA=>?_;have J:=bQ kM Ff;refine .aA (Ξ:=λ_=>True) (Tot.ap (by have:=J.n; simp [lim]; omega) trivial) λ_ _=>.al ⟨by simp; omega,Mx (λy ao=>(bQ y ao).mono (by omega)) (J.add ⟨by show 1<=_; omega,λp aq=>?_,Nat.zero_le _⟩)⟩;have aq:p∈[(⟨kN,⟨#[]⟩,0⟩:Part)]:=aq;rw [List.mem_singleton.1 aq];exact ⟨by show kN.Name.size<=1000000000000; omega,Nat.zero_le _⟩
  all_goals grind
 ·grind
 ·have:=af.2 d aO;exact ⟨by rw [this.tag]; exact Nat.zero_le _,by have:=this.n; omega,this.syms⟩
 ·grind
 ·have:=VO.2 r hr;exact ⟨this.left,by have:=this.n; omega,this.alts⟩
end Go.Proofs
namespace Go.Own
open Go Go.Sort
variable [cE]
variable {α:Type} [DecidableEq α]
structure Ord (lt:α->α->Bool):Prop where
 swo:SWO lt
 ju:∀ x y,lt x y=false->lt y x=false->x=y
def e_ (lt:α->α->Bool) (l:List α):Prop:=l.Pairwise λa b=>lt a b=true
omit [DecidableEq α] in
theorem e_.nd {lt:α->α->Bool}(h:Ord lt) {l:List α}(ah:e_ lt l):l.Nodup:=ah.imp λ{a b} B9 e=>by
 subst e;rw [h.swo.irrefl] at B9; cases B9
omit [DecidableEq α] in
theorem e_.uniq {lt:α->α->Bool}(h:Ord lt) {l m:List α}(ah:e_ lt l) (hm:e_ lt m) (he:∀ x,x∈l↔x∈m):l=m :=
 List.Perm.eq_of_pairwise (le:=λa b=>lt a b=true) (λa b _ _ h1 af=>by have:=h.swo.trans _ _ _ h1 af; rw [h.swo.irrefl] at this; cases this) ah hm ((List.perm_ext_iff_of_nodup (ah.nd h) (hm.nd h)).2 he)
omit [DecidableEq α] in
theorem Aa {l m:List α}(aO:l.Nodup) (hm:∀ x∈l,x∈m):l.length<=m.length:=by
 classical
 induction l generalizing m with
 | nil=>exact Nat.zero_le _
 | cons x l aM =>
  have J:=hm x (by simp);have o5:=List.nodup_cons.1 aO;have:=aM (m:=m.erase x) o5.2 λy ao=>(List.mem_erase_of_ne (λe=>o5.1 (by rw [<- e]; exact ao))).2 (hm y (by simp [ao]));have ah:=List.length_erase_of_mem J;have aq:=List.length_pos_of_mem J;simp only [List.length_cons];omega
theorem aaW {lt:α->α->Bool}(h:Ord lt) {fC:α->α->Option Int}{l:List α}(aa:∀ a∈l,∀ b∈l,∃ v,fC a b=some v/\(v<0↔lt a b=true)) (aB:l.length<4611686018427387904):pZ fC l=some (h_ (kG fC) l)/\∀ a∈l,∀ b∈l,kG fC a b=lt a b:=by
 have aN:∀ a∈l,∀ b∈l,kG fC a b=lt a b:=by
  intro a aI b au;obtain ⟨v,hv,h⟩:=aa a aI b au;unfold kG;simp only [hv,Option.getD_some];cases hk:lt a b with
  | true=>exact decide_eq_true (h.2 hk)
  | false=>exact decide_eq_false λbP=>by rw [h.1 bP] at hk; cases hk
 refine ⟨?_,aN⟩;unfold pZ;rw [if_pos];simp only [Bool.and_eq_true,decide_eq_true_eq,List.all_eq_true];refine ⟨⟨λa aI b au=>?_,?_⟩,aB⟩
 ·obtain ⟨v,hv,_⟩:=aa a aI b au;rw [hv]; rfl
 ·unfold Ai;simp only [List.all_eq_true,Bool.and_eq_true,Bool.or_eq_true,Bool.not_eq_true',decide_eq_true_eq];intro a aI;refine ⟨by rw [aN a aI a aI]; exact h.swo.irrefl a,λb au=>⟨?_,λc aa=>⟨?_,?_⟩⟩⟩
  ·rw [aN a aI b au,aN b au a aI];cases h1:lt a b with
   | true=>exact .inl (.inl rfl)
   | false =>
    cases af:lt b a with
    | true=>exact .inl (.inr rfl)
    | false=>exact .inr (h.ju _ _ h1 af)
  ·rw [aN a aI b au,aN b au c aa,aN a aI c aa];cases h1:lt a b with
   | false=>exact .inl rfl
   | true =>
    cases af:lt b c with
    | false=>exact .inl rfl
    | true=>exact .inr (h.swo.trans _ _ _ h1 af)
  ·rw [aN a aI b au,aN b au c aa,aN a aI c aa];cases h1:lt a b with
   | true=>exact .inl (.inl rfl)
   | false =>
    cases af:lt b c with
    | true=>exact .inl (.inr rfl)
    | false=>exact .inr (h.swo.ntrans _ _ _ h1 af)
omit [DecidableEq α] in
theorem Pf {lt lt':α->α->Bool}(x:α):∀ l:List α,(∀ y∈l,lt y x=lt' y x)->ins lt x l=ins lt' x l
 | [],_=>rfl
 | y::l,h=>by
  simp only [ins,h y (by simp)];rw [Pf x l λz aX=>h z (by simp [aX])]
omit [DecidableEq α] in
theorem Po {lt lt':α->α->Bool}:∀ l:List α,(∀ a∈l,∀ b∈l,lt a b=lt' a b)->h_ lt l=h_ lt' l
 | [],_=>rfl
 | x::l,h=>by
  simp only [h_];rw [Po l λa aI b au=>h a (by simp [aI]) b (by simp [au])];exact Pf x _ λy ao=>h y (by simp [(tc lt' l).mem_iff.1 ao]) x (by simp)
theorem aaV {lt:α->α->Bool}(h:Ord lt) {fC:α->α->Option Int}{l:List α}(aa:∀ a∈l,∀ b∈l,∃ v,fC a b=some v/\(v<0↔lt a b=true)) (aB:l.length<4611686018427387904):pZ fC l=some (h_ lt l):=by
 obtain ⟨h1,af⟩:=aaW h aa aB;rw [h1,Po l af]
end Go.Own
namespace Go.Proofs
open Go Go.Own Go.Sort
set_option maxRecDepth 100000
def gI (a b:Item):Bool:=decide (a.Prod<b.Prod\/(a.Prod=b.Prod/\a.eb<b.eb))
theorem KN {a b:Item}:gI a b=true↔(a.Prod<b.Prod\/(a.Prod=b.Prod/\a.eb<b.eb)):=by simp [gI]
theorem C_ {a b:Item}:gI a b=false↔¬ (a.Prod<b.Prod\/(a.Prod=b.Prod/\a.eb<b.eb)):=by simp [gI]
theorem vS:Ord gI where
 swo:=⟨λx=>by rw [C_]; omega,λx y z h1 af=>by rw [KN] at *; omega,λx y z h1 af=>by rw [C_] at *; omega⟩
 ju x y h1 af:=by
  rw [C_] at h1 af;obtain ⟨aR,x2⟩:=x;obtain ⟨bB,y2⟩:=y;simp only at h1 af;have:aR=bB:=by omega
  have:x2=y2:=by omega
  subst_vars; rfl
def iH (g:bD) (x:Item):Prop:=∃ q,idx g.bx x.Prod=some q/\0<=x.eb/\x.eb<=q.dD.length
def gw (g:bD) (x:Item):Int:=match idx g.bx x.Prod with
 | some q=>(idx q.dD x.eb).getD (-1)
 | none=>-1
theorem j6 {α:Type}{l:List α}{i:Int}{y:α}(h:idx l i=some y):0<=i/\i<l.length/\y∈l:=by
 unfold idx at h
 split at h
 ·rename_i aK;obtain ⟨h1,af⟩:=List.getElem?_eq_some_iff.1 h;exact ⟨aK,by omega,List.mem_of_getElem? h⟩
 ·cases h
theorem Kp {α:Type}{l:List α}{i:Int}(h:i<0\/(l.length:Int)<=i):idx l i=none:=by
 unfold idx;split
 ·exact List.getElem?_eq_none (by omega)
 ·rfl
theorem nD {α:Type}{l:List α}{i:Int}(aK:0<=i) (h1:i<l.length):∃ y,idx l i=some y/\y∈l:=by
 have aN:i.toNat<l.length:=by omega
 exact ⟨l[i.toNat],by simp [idx,aK,aN],List.getElem_mem aN⟩
theorem dN {α:Type}{l:List α}{k:Nat}(h:k<l.length):idx l (k:Int)=some l[k]:=by simp [idx,h]
theorem Ni (g:bD) (x:Item):∃ c,Aw g x=some c/\(c=true↔iH g x):=by
 unfold Aw;by_cases aK:0<=x.Prod
 ·by_cases h1:x.Prod<g.bx.length
  ·obtain ⟨q,a8,_⟩:=nD aK h1;by_cases af:0<=x.eb
   ·refine ⟨decide (x.eb<=(q.dD.length:Int)),by simp [aK,h1,af,a8],?_⟩;rw [decide_eq_true_eq];exact ⟨λh=>⟨q,a8,af,h⟩,λ⟨fB,zN,_,h⟩=>by rw [a8] at zN; cases zN; exact h⟩
   ·exact ⟨false,by simp [aK,h1,af],λh=>(by cases h),λ⟨_,_,h,_⟩=>absurd h af⟩
  ·exact ⟨false,by simp [aK,h1],λh=>(by cases h),λ⟨_,h,_⟩=>absurd (j6 h).2.1 h1⟩
 ·exact ⟨false,by simp [aK],λh=>(by cases h),λ⟨_,h,_⟩=>absurd (j6 h).1 aK⟩
theorem Im (g:bD) (x:Item):x7 g x=some (gw g x):=by
 unfold x7 gw;obtain ⟨c,aa,hi⟩:=Ni g x;rw [aa];simp only [Option.bind_some];cases c with
 | false =>
  have aB:¬ iH g x:=λh=>by have:=hi.2 h; cases this
  simp only [Bool.not_false,cond_true,Option.bind_some];cases a8:idx g.bx x.Prod with
  | none=>rfl
  | some q =>
   have:idx q.dD x.eb=none:=Kp (by
    by_cases aK:0<=x.eb
    ·right;by_cases h1:x.eb<=q.dD.length
     ·exact absurd ⟨q,a8,aK,h1⟩ aB
     ·omega
    ·left; omega)
   simp [this]
 | true =>
  obtain ⟨q,a8,aK,h1⟩:=hi.1 rfl;simp only [Bool.not_true,cond_false,a8,Option.bind_some];by_cases he:x.eb=q.dD.length
  ·rw [Kp (.inr (by omega))];simp [he]
  ·obtain ⟨s,aw,_⟩:=nD (l:=q.dD) (i:=x.eb) aK (by omega);simp [he,aw]
theorem Ge {g:bD}(aP:fZ g) {x:Item}(h:0<=gw g x):iH g x/\wH g.br.length (g.dC.length - 1) (gw g x)/\∃ q,idx g.bx x.Prod=some q/\idx q.dD x.eb=some (gw g x):=by
 cases a8:idx g.bx x.Prod with
 | none =>
  have:gw g x=-1:=by unfold gw; rw [a8]
  rw [this] at h; exact absurd h (by decide)
 | some q =>
  cases aw:idx q.dD x.eb with
  | none =>
   have:gw g x=-1:=by unfold gw; rw [a8]; simp [aw]
   rw [this] at h; exact absurd h (by decide)
  | some s =>
   have e:gw g x=s:=by unfold gw; rw [a8]; simp [aw]
   rw [e];obtain ⟨aK,h1,hm⟩:=j6 aw;exact ⟨⟨q,a8,aK,by omega⟩,(aP.gx q (j6 a8).2.2).right s hm,q,rfl,aw⟩
inductive l7 (g:bD) (l:List Item):Item->Prop
 | base {x:Item}(h:x∈l) (hi:iH g x):l7 g l x
 | step {x:Item}{q:Prod}{p:Nat}(h:l7 g l x) (aq:g.bx[p]?=some q) (aB:gw g x=1000+q.Left) (aK:1000<=gw g x):l7 g l ⟨p,0⟩
theorem Pm {g:bD}{p:Nat}{q:Prod}(aq:g.bx[p]?=some q):iH g ⟨p,0⟩:=⟨q,by simp [idx,aq],Int.le_refl _,by show (0:Int)<=_; omega⟩
theorem l7.iH {g:bD}{l:List Item}{x:Item}(h:l7 g l x):iH g x:=by
 cases h with
 | base _ hi=>exact hi
 | step _ aq _ _=>exact Pm aq
theorem Ze {g:bD}(aP:fZ g) (x:Item):-1<=gw g x/\gw g x<=1023:=by
 by_cases h:0<=gw g x
 ·obtain ⟨_,aw,_⟩:=Ge aP h;have:=aP.eW;have:=aP.k9;rcases aw with aw | aw <;> omega
 ·refine ⟨?_,by omega⟩;revert h;unfold gw;cases a8:idx g.bx x.Prod with
  | none=>intro _; exact Int.le_refl _
  | some q =>
   cases aw:idx q.dD x.eb with
   | none=>intro _; simp [aw]
   | some s =>
    intro h;have hm:=(aP.gx q (j6 a8).2.2).right s (j6 aw).2.2;simp only [aw,Option.getD_some] at h ⊢;rcases hm with hm | hm <;> omega
def iO (m:List Bool):Nat:=(m.filter λb=>b).length
theorem M_:∀ (m:List Bool) (i:Nat),i<m.length->m.getD i false=false->iO (m.set i true)=iO m+1
 | [],i,h,_=>by simp at h
 | b::m,0,_,h=>by
  have:b=false:=by simpa using h
  subst this;simp [iO]
 | b::m,i+1,h,aK=>by
  have:=M_ m i (by simpa using h) (by simpa using aK);unfold iO at this ⊢;simp only [List.set_cons_succ,List.filter_cons];cases b <;> simp [this]
theorem T5 (m:List Bool):iO m<=m.length:=List.length_filter_le _ _
theorem l2 {α:Type}{r:List α}{k:Nat}(h:k<r.length):r.take (k+1)=r.take k++[r[k]]:=by
 simp_all
theorem G8 (k:Nat) (h:k<=1000000000000):aG ((k:Int)+1)=((k+1:Nat):Int):=by
 grind [cB]
def allI (g:bD):List Item:=(List.range g.bx.length).flatMap λp=>(List.range 9).map λd=>(⟨(p:Nat),(d:Nat)⟩:Item)
theorem SJ (g:bD):(allI g).length=g.bx.length * 9:=by
 have:∀ l:List Nat,(l.map λ_=>9).sum=l.length * 9:=λl=>by
  induction l with
  | nil=>rfl
  | cons a l aM=>simp only [List.map_cons,List.sum_cons,aM,List.length_cons]; omega
 simp [allI,List.length_flatMap,this]
theorem Y1 {g:bD}(aP:fZ g) {x:Item}(h:iH g x):x∈allI g:=by
 obtain ⟨q,a8,aK,h1⟩:=h;obtain ⟨af,aD,bm⟩:=j6 a8;have:=aP.aF q bm;refine List.mem_flatMap.2 ⟨x.Prod.toNat,by simp; omega,List.mem_map.2 ⟨x.eb.toNat,by simp; omega,?_⟩⟩;obtain ⟨a,b⟩:=x;simp only at aK af ⊢;congr 1 <;> omega
theorem tK {g:bD}(aP:fZ g) {l:List Item}(ah:e_ gI l) (hi:∀ x∈l,iH g x):l.length<=540:=by
 have:=Aa (ah.nd vS) λx J=>Y1 aP (hi x J);rw [SJ] at this;have:=aP.jt;omega
theorem S8 {l:List Item}(ah:e_ gI l) {i j:Nat}(hi:i<l.length) (ag:j<l.length) (h:i<j):gI l[i] l[j]=true:=List.pairwise_iff_getElem.1 ah i j hi ag h
theorem HS (l:List Item) (x:Item) (ah:e_ gI l) (aB:l.length<=100000):Tot (x_ l x) λr=>e_ gI r/\(∀ y,y∈r↔y∈l\/y=x):=by
 unfold x_;refine .aA (Ξ:=λz:Int=>∃ k:Nat,z=(k:Int)/\k<=l.length/\(∀ (i:Nat) (h:i<l.length),k<=i->gI x l[i]=true)/\∀ (h:0<k),gI x (l[k - 1]?.getD default)=false) ?_ λz aX=>?_
 ·refine Tot.count (λs=>-s) 1 (λs=>∃ k:Nat,s=(k:Int)/\k<=l.length/\∀ (i:Nat) (h:i<l.length),k<=i->gI x l[i]=true) ⟨l.length,rfl,Nat.le_refl _,λi h hk=>by omega⟩ (by show 1 - -(l.length:Int)<_; omega) λs aw=>?_;obtain ⟨k,rfl,hk,uk⟩:=aw;refine .aA (Ξ:=λc:Bool=>(c=true->0<k/\gI x (l[k - 1]?.getD default)=true)/\(c=false->∀ (h:0<k),gI x (l[k - 1]?.getD default)=false)) ?_ λc aa=>Tot.bM (λh=>?_) (λh=>.al ⟨k,rfl,hk,uk,aa.2 h⟩)
  ·refine Tot.bt (λh=>?_) (λh=>.al ⟨λaJ=>(by cases aJ),λ_ aJ=>by omega⟩);have gv:k - 1<l.length:=by omega
   have hw:aG ((k:Int) - 1)=((k - 1:Nat):Int):=by rw [cB]; omega
   rw [hw,dN gv,List.getElem?_eq_getElem gv];simp only [Option.bind_some,Option.getD_some];generalize l[k - 1]=y;refine Tot.bt (λh1=>.al ⟨λ_=>⟨by omega,KN.2 (.inl h1)⟩,λaJ=>(by cases aJ)⟩) (λh1=>Tot.bt (λaf=>.al ⟨λaD=>⟨by omega,KN.2 (.inr ⟨af.symm,of_decide_eq_true aD⟩)⟩,λaD _=>?_⟩) (λaf=>.al ⟨λaJ=>(by cases aJ),λ_ _=>?_⟩))
   ·have:=of_decide_eq_false aD;rw [C_]; omega
   ·rw [C_]; omega
  ·obtain ⟨aK,h1⟩:=aa.1 h;refine .al ⟨⟨k - 1,by rw [cB]; omega,by omega,λi hi Xu=>?_⟩,by show -(k:Int) < -aG _; rw [cB]; omega,by show -aG _<=1; rw [cB]; omega⟩;by_cases e:i=k - 1
   ·subst e;rw [List.getElem?_eq_getElem hi] at h1;exact h1
   ·exact uk i hi (by omega)
 ·obtain ⟨k,rfl,hk,uk,me⟩:=aX;refine .aA (Ξ:=λc:Bool=>(c=true↔(0<k/\l[k - 1]?.getD default=x))) ?_ λc aa=>Tot.bM (λh=>?_) (λh=>?_)
  ·refine Tot.bt (λh=>?_) (λh=>.al ⟨λaJ=>(by cases aJ),λaJ=>by omega⟩);have gv:k - 1<l.length:=by omega
   have hw:aG ((k:Int) - 1)=((k - 1:Nat):Int):=by rw [cB]; omega
   rw [hw,dN gv,List.getElem?_eq_getElem gv];simp only [Option.bind_some,Option.getD_some];generalize l[k - 1]=y;refine .al ?_;obtain ⟨bB,y2⟩:=y;obtain ⟨aR,x2⟩:=x;simp only [Bool.and_true,Bool.and_eq_true,decide_eq_true_eq,Item.mk.injEq];exact ⟨λaJ=>⟨by omega,aJ⟩,λaJ=>aJ.2⟩
  ·obtain ⟨aK,h1⟩:=aa.1 h;have gv:k - 1<l.length:=by omega
   rw [List.getElem?_eq_getElem gv] at h1;have J:x∈l:=by rw [<- h1]; exact List.getElem_mem gv
   exact .al ⟨ah,λy=>⟨.inl,λh=>h.elim id λe=>e ▸ J⟩⟩
  ·have cO:∀ (i:Nat) (hi:i<l.length),i<k->gI l[i] x=true:=by
    intro i hi vx;have gv:k - 1<l.length:=by omega
    have me:=me (by omega);have aB:l[k - 1]?.getD default≠x:=λe=>by rw [aa.2 ⟨by omega,e⟩] at h; cases h
    rw [List.getElem?_eq_getElem gv] at me aB;simp only [Option.getD_some] at me aB;have fy:gI l[k - 1] x=true:=by
     cases bP:gI l[k - 1] x with
     | true=>rfl
     | false=>exact absurd (vS.ju _ _ bP me) aB
    by_cases e:i=k - 1
    ·subst e; exact fy
    ·exact vS.swo.trans _ _ _ (S8 ah hi gv (by omega)) fy
   refine .aA (Ξ:=λz=>z=l.take k) (Tot.sub ⟨by omega,by omega,by omega⟩ (by simp)) λz aX=>?_;subst aX;refine .bK<|.bK<|?_;refine .aA (Ξ:=λz=>z=l.drop k) (Tot.sub ⟨by omega,by omega,by omega⟩ ?_) λz aX=>?_
   ·rw [List.take_of_length_le]
    ·congr 1
    ·rw [List.length_drop]; omega
   subst aX;refine .bK<|.al ?_;rw [List.nil_append];constructor
   ·have h1:∀ a∈l.take k,gI a x=true:=by
     intro a aI;obtain ⟨i,hi,rfl⟩:=List.mem_iff_getElem.1 aI;rw [List.length_take] at hi;rw [List.getElem_take];exact cO i (by omega) (by omega)
    have af:∀ a∈l.drop k,gI x a=true:=by
     intro a aI;obtain ⟨i,hi,rfl⟩:=List.mem_iff_getElem.1 aI;rw [List.length_drop] at hi;rw [List.getElem_drop];exact uk (k+i) (by omega) (by omega)
    unfold e_;rw [List.append_assoc,List.pairwise_append];refine ⟨List.Pairwise.sublist (List.take_sublist k l) ah,?_,λa aI b au=>?_⟩
    ·rw [List.singleton_append,List.pairwise_cons];exact ⟨af,List.Pairwise.sublist (List.drop_sublist k l) ah⟩
    ·rcases List.mem_append.1 au with au | au
     ·rw [List.mem_singleton.1 au]; exact h1 a aI
     ·exact vS.swo.trans _ _ _ (h1 a aI) (af b au)
   ·intro y;rw [List.append_assoc,List.mem_append,List.mem_append,List.mem_singleton];have hm:y∈l↔y∈l.take k\/y∈l.drop k:=by
     rw [<- List.mem_append,List.take_append_drop]
    rw [hm];constructor
    ·rintro (h | h | h)
     ·exact .inl (.inl h)
     ·exact .inr h
     ·exact .inl (.inr h)
    ·rintro ((h | h) | h)
     ·exact .inl h
     ·exact .inr (.inr h)
     ·exact .inr (.inl h)
theorem TG (g:bD) (aP:fZ g) (l:List Item) (ah:l.length<=1000000):Tot (DA g l) λr=>e_ gI r/\∀ x,x∈r↔x∈l/\iH g x:=by
 unfold DA;refine .aA (Ξ:=λr=>e_ gI r/\∀ x,x∈r↔x∈l/\iH g x) ?_ λr hr=>.al hr;refine Tot.count (λs=>s.2) l.length (λs=>∃ k:Nat,k<=l.length/\s.2=(k:Int)/\e_ gI s.1/\∀ x,x∈s.1↔x∈l.take k/\iH g x) ⟨0,Nat.zero_le _,rfl,List.Pairwise.nil,λx=>by simp⟩ (by show (l.length:Int) - 0<_; omega) λs aw=>?_;obtain ⟨out,j8⟩:=s;obtain ⟨k,hk,rfl,aI,hm⟩:=aw;simp only at aI hm ⊢;rw [G8 k (by omega)];refine Tot.bt (λaN=>?_) (λdF=>.al ?_)
 ·have aN:k<l.length:=by omega
  rw [dN aN];refine .aA (Ξ:=λo:List Item=>e_ gI o/\∀ x,x∈o↔x∈l.take (k+1)/\iH g x) ?_ λo aW=>.al ⟨⟨k+1,by omega,rfl,aW⟩,by show (k:Int)<((k+1:Nat):Int); omega,by show ((k+1:Nat):Int)<=_; omega⟩;obtain ⟨c,aa,hi⟩:=Ni g l[k];rw [l2 aN];refine Tot.aV ?_;rw [aa];refine Tot.aV (.aA (Ξ:=λo:List Item=>e_ gI o/\∀ x,x∈o↔x∈l.take k++[l[k]]/\iH g x) (Tot.bM (λh=>?_) (λh=>.al ⟨aI,λx=>?_⟩)) λo aW=>.al aW)
  ·have Cu:=tK aP aI λx J=>((hm x).1 J).2;refine Tot.aV (.aA (HS out _ aI (by omega)) λo aW=>.al ⟨aW.1,λx=>?_⟩);rw [aW.2 x,List.mem_append,List.mem_singleton,hm x];constructor
   ·rintro (⟨h1,af⟩ | rfl)
    ·exact ⟨.inl h1,af⟩
    ·exact ⟨.inr rfl,hi.1 h⟩
   ·rintro ⟨h1 | rfl,af⟩
    ·exact .inl ⟨h1,af⟩
    ·exact .inr rfl
  ·rw [List.mem_append,List.mem_singleton,hm x];constructor
   ·rintro ⟨h1,af⟩;exact ⟨.inl h1,af⟩
   ·rintro ⟨h1 | rfl,af⟩
    ·exact ⟨h1,af⟩
    ·rw [hi.2 af] at h; cases h
 ·have:k=l.length:=by omega
  subst this;rw [List.take_length] at hm;exact ⟨aI,hm⟩
def wC (g:bD) (out:List Item) (x:Item):Prop:=1000<=gw g x->∀ (p:Nat) (q:Prod),g.bx[p]?=some q->q.Left=gw g x - 1000->(⟨p,0⟩:Item)∈out
theorem HR (g:bD) (aP:fZ g) (l:List Item) (ah:l.length<=1000000):Tot (x6 g l) λr=>e_ gI r/\∀ x,x∈r↔l7 g l x:=by
 have sh:=aP.jt;unfold x6;refine .aA (TG g aP l ah) λaR h1=>.aA (Ξ:=λr=>e_ gI r/\∀ x,x∈r↔l7 g l x) ?_ λr hr=>.al hr;obtain ⟨Wx,vy⟩:=h1;refine Tot.loop (λs=>e_ gI s.1/\(∀ x∈s.1,l7 g l x)/\(∀ x∈l,iH g x->x∈s.1)/\(s.2=(s.1.length:Int)->∀ x∈s.1,wC g s.1 x)) (λs=>2 * (1000 - s.1.length)+(if s.2=(s.1.length:Int) then 0 else 1)) ⟨Wx,λx J=>.base ((vy x).1 J).1 ((vy x).1 J).2,λx J hi=>(vy x).2 ⟨J,hi⟩,λh=>by have h:(-1:Int)=_:=h; omega⟩ (by
  show 2 * (1000 - aR.length)+(if (-1:Int)=_ then 0 else 1)<1000000000000000000
  split <;> omega) λs aw=>?_
 obtain ⟨out,n⟩:=s;obtain ⟨aI,hA,vq,hK⟩:=aw;simp only at aI hA vq hK ⊢;have Cu:=tK aP aI λx J=>(hA x J).iH;refine Tot.pA (λcO=>?_) (λhe=>.al ⟨aI,λx=>⟨hA x,λJ=>?_⟩⟩)
 ·refine .aA (Ξ:=λj:List Item × Int=>j.2=(out.length:Int)/\e_ gI j.1/\(∀ x∈j.1,l7 g l x)/\(∀ x∈out,x∈j.1)/\(j.1.length=out.length->∀ x∈j.1,wC g j.1 x)) ?_ λj ag=>?_
  ·refine .aA (Ξ:=λr:List Item=>e_ gI r/\(∀ x∈r,l7 g l x)/\(∀ x∈out,x∈r)/\(r.length=out.length->∀ x∈r,wC g r x)) ?_ λr hr=>.al ⟨rfl,hr⟩;refine .aA (Ξ:=λr:List Item=>e_ gI r/\(∀ x∈r,l7 g l x)/\(∀ x∈out,x∈r)/\(r.length=out.length->∀ x∈r,wC g r x)) ?_ λr hr=>.al hr;refine Tot.count (λs=>s.2) out.length (λs=>∃ k:Nat,k<=out.length/\s.2=(k:Int)/\s.1=out/\∀ (j:Nat) (h:j<out.length),j<k->wC g out out[j]) ⟨0,Nat.zero_le _,rfl,rfl,λj _ ag=>absurd ag (Nat.not_lt_zero _)⟩ (by show (out.length:Int) - 0<_; omega) λs aw=>?_;obtain ⟨cur,j8⟩:=s;obtain ⟨k,hk,rfl,rfl,Om⟩:=aw;simp only;rw [G8 k (by omega)];refine Tot.bt (λaN=>?_) (λdF=>.al ⟨aI,hA,λ_ h=>h,λ_ x J=>?_⟩)
   ·have aN:k<cur.length:=by omega
    rw [dN aN];have CU:=hA _ (List.getElem_mem aN);have CS:∀ P:Item->Prop,P cur[k]->∀ (j:Nat) (h:j<cur.length),j=k->P cur[j]:=λP bQ j h e=>by subst e; exact bQ
    generalize J:cur[k]=x at *;have afc:=Ze aP x;have hw:aG (gw g x - 1000)=gw g x - 1000:=by rw [cB]; omega
    simp only [Option.bind_some,Im g x,hw];refine (.aA (Ξ:=λr:List Item=>e_ gI r/\(∀ x∈r,l7 g l x)/\(∀ x∈cur,x∈r)/\wC g r x) ?_ λr hr=>?_)
    ·refine Tot.count (λs=>s.2) g.bx.length (λs=>∃ i:Nat,i<=g.bx.length/\s.2=(i:Int)/\e_ gI s.1/\(∀ x∈s.1,l7 g l x)/\(∀ x∈cur,x∈s.1)/\∀ (p:Nat) (q:Prod),p<i->g.bx[p]?=some q->q.Left=gw g x - 1000->(⟨p,0⟩:Item)∈s.1) ⟨0,Nat.zero_le _,rfl,aI,hA,λ_ h=>h,λp q aq=>absurd aq (Nat.not_lt_zero _)⟩ (by show (g.bx.length:Int) - 0<_; omega) λs aw=>?_;obtain ⟨o,sr⟩:=s;obtain ⟨i,hi,rfl,sg,Ct,Fx,vB⟩:=aw;simp only at sg Ct Fx vB ⊢;rw [G8 i (by omega)];refine .aA (Ξ:=λc:Bool=>(c=true->i<g.bx.length/\1000<=gw g x)/\(c=false->g.bx.length<=i\/gw g x<1000)) (Tot.bt (λh=>.al ⟨λaJ=>⟨by omega,of_decide_eq_true aJ⟩,λaJ=>.inr (by have:=of_decide_eq_false aJ; omega)⟩) (λh=>.al ⟨λaJ=>(by cases aJ),λ_=>.inl (by omega)⟩)) λc aa=>Tot.bM (λh=>?_) (λh=>.al ⟨sg,Ct,Fx,λaK p q aq=>?_⟩)
     ·obtain ⟨JL,aK⟩:=aa.1 h;have OP:g.bx[i]?=some g.bx[i]:=List.getElem?_eq_getElem JL;rw [dN JL];refine .aA (Ξ:=λo:List Item=>e_ gI o/\(∀ x∈o,l7 g l x)/\(∀ x∈cur,x∈o)/\∀ (p:Nat) (q:Prod),p<i+1->g.bx[p]?=some q->q.Left=gw g x - 1000->(⟨p,0⟩:Item)∈o) ?_ λo aW=>.al ⟨⟨i+1,by omega,rfl,aW⟩,by show (i:Int)<((i+1:Nat):Int); omega,by show ((i+1:Nat):Int)<=_; omega⟩;refine Tot.aV (.aA (Ξ:=λo:List Item=>e_ gI o/\(∀ x∈o,l7 g l x)/\(∀ x∈cur,x∈o)/\∀ (p:Nat) (q:Prod),p<i+1->g.bx[p]?=some q->q.Left=gw g x - 1000->(⟨p,0⟩:Item)∈o) (Tot.bt (λh=>?_) (λh=>.al ⟨sg,Ct,Fx,λp q aq Cz a8=>?_⟩)) λo aW=>.al aW)
      ·have ae':=tK aP sg λx J=>(Ct x J).iH;refine .aA (HS o ⟨(i:Nat),0⟩ sg (by omega)) λr hr=>.al ⟨hr.1,λy ao=>?_,λy ao=>(hr.2 y).2 (.inl (Fx y ao)),λp q aq Cz a8=>?_⟩
       ·rcases (hr.2 y).1 ao with ao | rfl
        ·exact Ct y ao
        ·exact .step CU OP (by omega) aK
       ·by_cases b9:p=i
        ·subst b9; exact (hr.2 _).2 (.inr rfl)
        ·exact (hr.2 _).2 (.inl (vB p q (by omega) Cz a8))
      ·by_cases b9:p=i
       ·subst b9;rw [OP] at Cz; cases Cz;exact absurd a8 h
       ·exact vB p q (by omega) Cz a8
     ·rcases aa.2 h with h1 | h1
      ·exact vB p q (by have:=(List.getElem?_eq_some_iff.1 aq).1; omega) aq
      ·omega
    ·obtain ⟨vD,XN,lp,XT⟩:=hr;have hle:cur.length<=r.length:=Aa (aI.nd vS) lp;refine Tot.pA (λJU=>.al ⟨vD,XN,lp,λe=>absurd (by omega) JU⟩) (λheq=>?_);have oI:r.length=cur.length:=by omega
     have CE:r=cur:=by
      have mM:∀ y,y∈cur↔y∈r:=by
       intro y;refine ⟨lp y,λao=>Classical.byContradiction λaB=>?_⟩;have:=Aa (l:=y::cur) (m:=r) (List.nodup_cons.2 ⟨aB,aI.nd vS⟩) λz aX=>by
        rcases List.mem_cons.1 aX with rfl | aX
        ·exact ao
        ·exact lp z aX
       simp at this;omega
      exact (e_.uniq vS aI vD mM).symm
     subst CE;refine .al ⟨⟨k+1,by omega,rfl,rfl,λj ag gC=>?_⟩,by show (k:Int)<((k+1:Nat):Int); omega,by show ((k+1:Nat):Int)<=_; omega⟩;by_cases b9:j=k
     ·exact CS (wC g r) XT j ag b9
     ·exact Om j ag (by omega)
   ·obtain ⟨j,ag,rfl⟩:=List.mem_iff_getElem.1 J;exact Om j ag (by omega)
  ·obtain ⟨h1,af,aD,bm,b7⟩:=ag;have hle:out.length<=j.1.length:=Aa (aI.nd vS) bm;have ez:=tK aP af λx J=>(aD x J).iH;refine .al ⟨⟨af,aD,λx J hi=>bm x (vq x J hi),λe=>b7 (by show j.1.length=_; have e:j.2=(j.1.length:Int):=e; omega)⟩,?_⟩;show 2 * (1000 - j.1.length)+(if j.2=(j.1.length:Int) then 0 else 1)<2 * (1000 - out.length)+(if n=(out.length:Int) then 0 else 1)
   rw [if_neg cO];split
   ·omega
   ·have:j.1.length≠out.length:=λe=>by omega
    omega
 ·have aa:=hK he
  induction J with
  | base h hi=>exact vq _ h hi
  | @step x q p h aq aB aK aM=>exact aa x aM aK p q aq (by omega)
def p7 (g:bD) (l:List Item) (a:Int) (y:Item):Prop:=∃ x,l7 g l x/\gw g x=a/\0<=a/\y=⟨x.Prod,x.eb+1⟩
theorem Pl {g:bD}(aP:fZ g) {x:Item}(h:0<=gw g x):iH g ⟨x.Prod,x.eb+1⟩:=by
 obtain ⟨_,_,q,a8,aw⟩:=Ge aP h;obtain ⟨aK,h1,_⟩:=j6 aw;exact ⟨q,a8,by show 0<=x.eb+1; omega,by show x.eb+1<=_; omega⟩
theorem YQ {g:bD}(aP:fZ g) {x:Item}(h:iH g x):0<=x.eb/\x.eb<=8:=by
 obtain ⟨q,a8,aK,h1⟩:=h;have:=aP.aF q (j6 a8).2.2;omega
theorem p7.iH {g:bD}(aP:fZ g) {l:List Item}{a:Int}{y:Item}(h:p7 g l a y):iH g y:=by
 obtain ⟨x,_,h1,af,rfl⟩:=h;exact Pl aP (by omega)
theorem TA (g:bD) (aP:fZ g) (l:List Item) (a:Int) (ah:l.length<=1000000):Tot (Dq g l a) λr=>e_ gI r/\∀ y,y∈r↔p7 g l a y:=by
 unfold Dq;refine .aA (HR g aP l ah) λc aa=>.aA (Ξ:=λr=>e_ gI r/\∀ y,y∈r↔p7 g l a y) ?_ λr hr=>.al hr;have hK:=tK aP aa.1 λx J=>((aa.2 x).1 J).iH;refine Tot.count (λs=>s.2) c.length (λs=>∃ k:Nat,k<=c.length/\s.2=(k:Int)/\e_ gI s.1/\∀ y,y∈s.1↔∃ x∈c.take k,gw g x=a/\0<=a/\y=⟨x.Prod,x.eb+1⟩) ⟨0,Nat.zero_le _,rfl,List.Pairwise.nil,λy=>by simp⟩ (by show (c.length:Int) - 0<_; omega) λs aw=>?_;obtain ⟨o,j8⟩:=s;obtain ⟨k,hk,rfl,sg,Cv⟩:=aw;simp only at sg Cv ⊢;rw [G8 k (by omega)];refine Tot.bt (λaN=>?_) (λdF=>.al ⟨sg,λy=>?_⟩)
 ·have aN:k<c.length:=by omega
  have Yx:=((aa.2 _).1 (List.getElem_mem aN)).iH;have fA:c.take (k+1)=c.take k++[c[k]]:=l2 aN;rw [dN aN];generalize c[k]=x at *;have aO:=YQ aP Yx;have hw:aG (x.eb+1)=x.eb+1:=by rw [cB]; omega
  refine .aA (Ξ:=λo:List Item=>e_ gI o/\∀ y,y∈o↔∃ x∈c.take (k+1),gw g x=a/\0<=a/\y=⟨x.Prod,x.eb+1⟩) ?_ λo aW=>.al ⟨⟨k+1,by omega,rfl,aW⟩,by show (k:Int)<((k+1:Nat):Int); omega,by show ((k+1:Nat):Int)<=_; omega⟩;have mM:∀ y,(∃ z∈c.take (k+1),gw g z=a/\0<=a/\y=(⟨z.Prod,z.eb+1⟩:Item))↔(y∈o\/(gw g x=a/\0<=a/\y=⟨x.Prod,x.eb+1⟩)):=by
   intro y;rw [Cv y,fA];constructor
   ·rintro ⟨z,aX,h⟩;rcases List.mem_append.1 aX with aX | aX
    ·exact .inl ⟨z,aX,h⟩
    ·rw [List.mem_singleton.1 aX] at h; exact .inr h
   ·rintro (⟨z,aX,h⟩ | h)
    ·exact ⟨z,by simp [aX],h⟩
    ·exact ⟨x,by simp,h⟩
  simp only [Option.bind_some,Im g x,hw];refine (.aA (Ξ:=λb:Bool=>b=decide (0<=gw g x/\gw g x=a)) (Tot.bt (λh=>.al (by simp [h])) (λh=>.al (by simp [h]))) λb au=>?_);subst au;refine .aA (Ξ:=λo:List Item=>e_ gI o/\∀ y,y∈o↔∃ x∈c.take (k+1),gw g x=a/\0<=a/\y=⟨x.Prod,x.eb+1⟩) (Tot.bt (λh=>?_) (λh=>.al ⟨sg,λy=>?_⟩)) λo aW=>.al aW
  ·have Cu:=tK aP sg λy ao=>by
    obtain ⟨z,_,h1,af,rfl⟩:=(Cv y).1 ao;exact Pl aP (by omega)
   refine (.aA (HS o _ sg (by omega)) λr hr=>.al ⟨hr.1,λy=>?_⟩);rw [hr.2 y,mM y];constructor
   ·rintro (h1 | h1)
    ·exact .inl h1
    ·exact .inr ⟨h.2,by omega,h1⟩
   ·rintro (h1 | h1)
    ·exact .inl h1
    ·exact .inr h1.2.2
  ·rw [mM y];exact ⟨.inl,λaJ=>aJ.elim id λaJ=>absurd ⟨by omega,aJ.1⟩ h⟩
 ·have:k=c.length:=by omega
  subst this;rw [List.take_length] at Cv;rw [Cv y];constructor
  ·rintro ⟨x,J,h⟩;exact ⟨x,(aa.2 x).1 J,h⟩
  ·rintro ⟨x,J,h⟩;exact ⟨x,(aa.2 x).2 J,h⟩
def iK (a b:Int):Bool:=decide (a<b)
theorem PI {a b:Int}:iK a b=true↔a<b:=by simp [iK]
theorem KQ {a b:Int}:iK a b=false↔¬ a<b:=by simp [iK]
theorem Gg:Ord iK where
 swo:=⟨λx=>by rw [KQ]; omega,λx y z h1 af=>by rw [PI] at *; omega,λx y z h1 af=>by rw [KQ] at *; omega⟩
 ju:=λx y h1 af=>by rw [KQ] at *; omega
theorem MH {l:List Int}(ah:e_ iK l) {i j:Nat}(hi:i<l.length) (ag:j<l.length) (h:i<j):iK l[i] l[j]=true:=List.pairwise_iff_getElem.1 ah i j hi ag h
theorem E3 (l:List Int) (x:Int) (ah:e_ iK l) (aB:l.length<=100000):Tot (qH l x) λr=>e_ iK r/\r.length<=l.length+1/\(∀ y,y∈r↔y∈l\/y=x):=by
 unfold qH;refine .aA (Ξ:=λz:Int=>∃ k:Nat,z=(k:Int)/\k<=l.length/\(∀ (i:Nat) (h:i<l.length),k<=i->iK x l[i]=true)/\∀ (h:0<k),iK x (l[k - 1]?.getD default)=false) ?_ λz aX=>?_
 ·refine Tot.count (λs=>-s) 1 (λs=>∃ k:Nat,s=(k:Int)/\k<=l.length/\∀ (i:Nat) (h:i<l.length),k<=i->iK x l[i]=true) ⟨l.length,rfl,Nat.le_refl _,λi h hk=>by omega⟩ (by show 1 - -(l.length:Int)<_; omega) λs aw=>?_;obtain ⟨k,rfl,hk,uk⟩:=aw;refine .aA (Ξ:=λc:Bool=>(c=true->0<k/\iK x (l[k - 1]?.getD default)=true)/\(c=false->∀ (h:0<k),iK x (l[k - 1]?.getD default)=false)) ?_ λc aa=>Tot.bM (λh=>?_) (λh=>.al ⟨k,rfl,hk,uk,aa.2 h⟩)
  ·refine Tot.bt (λh=>?_) (λh=>.al ⟨λaJ=>(by cases aJ),λ_ aJ=>by omega⟩);have gv:k - 1<l.length:=by omega
   have hw:aG ((k:Int) - 1)=((k - 1:Nat):Int):=by rw [cB]; omega
   rw [hw,dN gv,List.getElem?_eq_getElem gv];simp only [Option.bind_some,Option.getD_some];exact .al ⟨λaJ=>⟨by omega,aJ⟩,λaJ _=>aJ⟩
  ·obtain ⟨aK,h1⟩:=aa.1 h;refine .al ⟨⟨k - 1,by rw [cB]; omega,by omega,λi hi Xu=>?_⟩,by show -(k:Int) < -aG _; rw [cB]; omega,by show -aG _<=1; rw [cB]; omega⟩
   grind
 ·obtain ⟨k,rfl,hk,uk,me⟩:=aX;refine .aA (Ξ:=λc:Bool=>(c=true↔(0<k/\l[k - 1]?.getD default=x))) ?_ λc aa=>Tot.bM (λh=>?_) (λh=>?_)
  ·refine Tot.bt (λh=>?_) (λh=>.al ⟨λaJ=>(by cases aJ),λaJ=>by omega⟩);have gv:k - 1<l.length:=by omega
   have hw:aG ((k:Int) - 1)=((k - 1:Nat):Int):=by rw [cB]; omega
   rw [hw,dN gv,List.getElem?_eq_getElem gv];simp only [Option.bind_some,Option.getD_some];generalize l[k - 1]=y;refine .al ?_
   grind
  ·obtain ⟨aK,h1⟩:=aa.1 h;have gv:k - 1<l.length:=by omega
   rw [List.getElem?_eq_getElem gv] at h1;have J:x∈l:=by rw [<- h1]; exact List.getElem_mem gv
   exact .al ⟨ah,by omega,λy=>⟨.inl,λh=>h.elim id λe=>e ▸ J⟩⟩
  ·have cO:∀ (i:Nat) (hi:i<l.length),i<k->iK l[i] x=true:=by
    intro i hi vx;have gv:k - 1<l.length:=by omega
    have me:=me (by omega);have aB:l[k - 1]?.getD default≠x:=λe=>by rw [aa.2 ⟨by omega,e⟩] at h; cases h
    rw [List.getElem?_eq_getElem gv] at me aB;simp only [Option.getD_some] at me aB;have fy:iK l[k - 1] x=true:=by
     grind [iK]
    by_cases e:i=k - 1
    ·grind
    ·exact Gg.swo.trans _ _ _ (MH ah hi gv (by omega)) fy
   refine .aA (Ξ:=λz=>z=l.take k) (Tot.sub ⟨by omega,by omega,by omega⟩ (by simp)) λz aX=>?_;subst aX;refine .bK<|.bK<|?_;refine .aA (Ξ:=λz=>z=l.drop k) (Tot.sub ⟨by omega,by omega,by omega⟩ ?_) λz aX=>?_
   ·grind [List.take_of_length_le]
   subst aX;refine .bK<|.al ?_;rw [List.nil_append];refine ⟨?_,?_,?_⟩
   ·have h1:∀ a∈l.take k,iK a x=true:=by
     grind [List.mem_iff_getElem]
    have af:∀ a∈l.drop k,iK x a=true:=by
     grind [List.mem_iff_getElem]
    unfold e_;rw [List.append_assoc,List.pairwise_append];refine ⟨List.Pairwise.sublist (List.take_sublist k l) ah,?_,λa aI b au=>?_⟩
    ·rw [List.singleton_append,List.pairwise_cons];exact ⟨af,List.Pairwise.sublist (List.drop_sublist k l) ah⟩
    ·rcases List.mem_append.1 au with au | au
     ·grind
     ·exact Gg.swo.trans _ _ _ (h1 a aI) (af b au)
   ·grind
   grind [List.take_append_drop]
theorem pY {α:Type}{l:List α}{k:Nat}{x:α}(hk:k<l.length) (i:Nat):(l.set k x)[i]?=if i=k then some x else l[i]?:=by
 rw [List.getElem?_set];by_cases e:k=i
 ·subst e; simp [hk]
 ·simp [e,Ne.symm e]
theorem Vd (x y:Item):(decide (x.Prod=y.Prod)&&(decide (x.eb=y.eb)&&true))=decide (x=y):=by
 obtain ⟨aR,x2⟩:=x;obtain ⟨bB,y2⟩:=y;simp
theorem TH (a b:List Item) (h:a.length<=1000000):Tot (DB a b) λc=>(c=true↔a=b):=by
 unfold DB;refine Tot.pA (λcO=>.al ⟨λh=>(by cases h),λe=>absurd (by rw [e]) cO⟩) (λhe=>?_);have ah:a.length=b.length:=by omega
 refine Tot.aA (Ξ:=h0 (λ_=>a=b) (λx:Bool=>x=false/\a≠b)) ?_ λx J=>?_
 ·refine Tot.count (λs=>s) a.length (λs=>∃ k:Nat,k<=a.length/\s=(k:Int)/\∀ (j:Nat) (h:j<a.length),j<k->a[j]=b[j]) ⟨0,Nat.zero_le _,rfl,λj _ ag=>absurd ag (Nat.not_lt_zero _)⟩ (by show (a.length:Int) - 0<_; omega) λs aw=>?_;obtain ⟨k,hk,rfl,lk⟩:=aw;rw [et k (by omega)];refine Tot.bt (λaN=>?_) (λdF=>.al ?_)
  ·have aN:k<a.length:=by omega
   have zL:k<b.length:=by omega
   rw [dN aN,dN zL];simp only [Option.bind_some,Vd];refine Tot.pA (λcO=>.al ⟨rfl,λe=>cO (by subst e; rfl)⟩) (λheq=>.al ⟨⟨k+1,by omega,rfl,λj ag gC=>?_⟩,by show (k:Int)<((k+1:Nat):Int); omega,by show ((k+1:Nat):Int)<=_; omega⟩);by_cases e:j=k
   ·subst e; exact heq
   ·exact lk j ag (by omega)
  ·exact List.ext_getElem ah λi h1 af=>lk i h1 (by omega)
 ·rcases x with _ | x
  ·exact .al ⟨λ_=>J,λ_=>rfl⟩
  ·obtain ⟨rfl,cO⟩:x=false/\a≠b:=J;exact .al ⟨λh=>(by cases h),λh=>absurd h cO⟩
def syms (g:bD):List Int:=(List.range g.br.length).map (λk:Nat=>(k:Int))++(List.range g.dC.length).map (λk:Nat=>1000+(k:Int))
theorem MY (g:bD) (aW:fZ g):Tot (Dp g) λl=>l=syms g:=by
 have cU:=aW.k9;have bp:=aW.eW;unfold Dp;refine .aA (Ξ:=λl:List Int=>l=(List.range g.br.length).map (λk:Nat=>(k:Int))) ?_ λl ah=>?_
 ·refine Tot.upto (λs=>s.2) g.br.length (λk s=>s.1=(List.range k).map (λk:Nat=>(k:Int))) rfl (by omega) rfl λk s hk he bf=>?_;obtain ⟨l,i⟩:=s;simp only at he bf ⊢;subst he bf;rw [et k (by omega)];refine Tot.bt (λaN=>?_) (λdF=>.al ?_)
  ·refine .bK<|.al ⟨by omega,rfl,?_⟩;show _=(List.range (k+1)).map _;rw [List.range_succ,List.map_append]; rfl
  ·have:k=g.br.length:=by omega
   subst this; rfl
 ·subst ah;refine .aA (Ξ:=λl:List Int=>l=syms g) ?_ λr hr=>.al hr;refine Tot.upto (λs=>s.2) g.dC.length (λk s=>s.1=(List.range g.br.length).map (λk:Nat=>(k:Int))++(List.range k).map (λk:Nat=>1000+(k:Int))) rfl (by omega) (by simp) λk s hk he bf=>?_;obtain ⟨l,i⟩:=s;simp only at he bf ⊢;subst he bf;rw [et k (by omega)];refine Tot.bt (λaN=>?_) (λdF=>.al ?_)
  ·refine .bK<|.al ⟨by omega,rfl,?_⟩;have hw:aG (1000+(k:Int))=1000+(k:Int):=by rw [cB]; omega
   show _=_++(List.range (k+1)).map _;rw [hw,List.range_succ,List.map_append,List.append_assoc]; rfl
  ·have:k=g.dC.length:=by omega
   subst this; rfl
theorem aa3 (g:bD):(syms g).length=g.br.length+g.dC.length:=by simp [syms]
theorem PK {g:bD}{s:Int}:s∈syms g↔(0<=s/\s<g.br.length)\/(1000<=s/\s<1000+g.dC.length):=by
 unfold syms;rw [List.mem_append,List.mem_map,List.mem_map];constructor
 ·rintro (⟨k,hk,rfl⟩ | ⟨k,hk,rfl⟩)
  ·rw [List.mem_range] at hk; exact .inl (by omega)
  ·rw [List.mem_range] at hk; exact .inr (by omega)
 ·rintro (h | h)
  ·exact .inl ⟨s.toNat,by rw [List.mem_range]; omega,by omega⟩
  ·exact .inr ⟨(s - 1000).toNat,by rw [List.mem_range]; omega,by omega⟩
theorem LG {g:bD}(aW:fZ g):(syms g).Nodup:=by
 have ar:=aW.k9;unfold syms;rw [List.nodup_append];refine ⟨List.pairwise_map.2 ((List.nodup_range (n:=g.br.length)).imp λ{a b} h e=>h (by omega)),List.pairwise_map.2 ((List.nodup_range (n:=g.dC.length)).imp λ{a b} h e=>h (by omega)),λa aI b au=>?_⟩;obtain ⟨i,hi,rfl⟩:=List.mem_map.1 aI;obtain ⟨j,ag,rfl⟩:=List.mem_map.1 au;rw [List.mem_range] at hi;omega
structure yX (g:bD) (K:List Item):Prop where
 a:e_ gI K
 i:∀ x∈K,iH g x
theorem yX.len {g:bD}(aW:fZ g) {K:List Item}(h:yX g K):K.length<=540:=tK aW h.a h.i
theorem sW (l:List Int) (x:Int) (h:l.length<=1000000):Tot (AD l x) λc=>(c=true↔x∈l):=by
 unfold AD;refine .aA (Ξ:=h0 (λ_=>x∉l) (λr:Bool=>r=true/\x∈l)) ?_ λr hr=>?_
 ·refine Tot.upto (λs=>s) l.length (λk s=>x∉l.take k) rfl (by omega) (by simp) λk s hk he bf=>?_;subst he;rw [et k (by omega)];refine Tot.bt (λaN=>?_) (λdF=>.al ?_)
  ·have aN:k<l.length:=by omega
   rw [dN aN];simp only [Option.bind_some];refine Tot.bt (λe=>.al ⟨rfl,by rw [<- e]; exact List.getElem_mem aN⟩) (λe=>.al ⟨aN,rfl,?_⟩);rw [l2 aN,List.mem_append,List.mem_singleton];exact λh=>h.elim bf λh=>e h.symm
  ·rw [List.take_of_length_le (by omega)] at bf;exact bf
 ·rcases r with r | r
  ·exact .al ⟨λh=>(by cases h),λh=>absurd h hr⟩
  ·obtain ⟨rfl,h⟩:=hr;exact .al ⟨λ_=>h,λ_=>rfl⟩
structure y3 (g:bD) (n:Nat) (v:Move):Prop where
 s:v.Sym∈syms g
 t0:0<=v.rY
 t1:v.rY<n
structure nL (g:bD) (m:List State) (q j:Nat):Prop where
 gJ:0<m.length
 nF:m.length<=150
 pT:∀ st∈m,yX g st.Kernel
 ms:∀ (i:Nat) (st:State),m[i]?=some st->(st.dW.map (·.Sym)).Sublist (if i<q then syms g else if i=q then (syms g).take j else [])
 aS:∀ st∈m,∀ v∈st.dW,y3 g m.length v
structure ng (g:bD) (m:List State):Prop where
 gJ:0<m.length
 nF:m.length<=150
 pT:∀ st∈m,yX g st.Kernel
 xT:∀ st∈m,st.dW.length<=64
 nd:∀ st∈m,(st.dW.map (·.Sym)).Nodup
 aS:∀ st∈m,∀ v∈st.dW,y3 g m.length v
theorem y3.up {g:bD}{n cr:Nat}{v:Move}(h:y3 g n v) (aB:n<=cr):y3 g cr v:=⟨h.s,h.t0,by have:=h.t1; omega⟩
theorem nL.put {g:bD}{m:List State}{q j:Nat}(h:nL g m q j) {st:State}(a8:m[q]?=some st) {v:Move}(hv:y3 g m.length v) (ag:(syms g)[j]?=some v.Sym):nL g (m.set q ⟨st.Kernel,st.dW++[v]⟩) q (j+1):=by
 have kF:=(List.getElem?_eq_some_iff.1 a8).1;have hm:=List.mem_of_getElem? a8;refine ⟨by rw [List.length_set]; exact h.gJ,by rw [List.length_set]; exact h.nF,λs aw=>?_,λi s aw=>?_,λs aw w hw=>?_⟩
 ·rcases List.mem_or_eq_of_mem_set aw with aJ | aJ
  ·exact h.pT s aJ
  ·rw [aJ]; exact h.pT st hm
 ·rw [pY kF] at aw;by_cases e:i=q
  ·subst e;rw [if_pos rfl] at aw; cases aw;have:=h.ms i st a8;rw [if_neg (by omega),if_pos rfl] at this ⊢;rw [List.map_append,List.take_add_one,ag];exact this.append (List.Sublist.refl _)
  ·rw [if_neg e] at aw;have:=h.ms i s aw;rw [if_neg e] at this ⊢;exact this
 ·rw [List.length_set];rcases List.mem_or_eq_of_mem_set aw with aJ | aJ
  ·exact h.aS s aJ w hw
  ·rw [aJ] at hw;rcases List.mem_append.1 hw with hw | hw
   ·exact h.aS st hm w hw
   ·rw [List.mem_singleton.1 hw]; exact hv
theorem nL.more {g:bD}{m:List State}{q j:Nat}(h:nL g m q j) (ah:m.length<150) {K:List Item}(hk:yX g K):nL g (m++[⟨K,[]⟩]) q j:=by
 refine ⟨by simp,by simp; omega,λs aw=>?_,λi s aw=>?_,λs aw w hw=>?_⟩
 ·rcases List.mem_append.1 aw with aw | aw
  ·exact h.pT s aw
  ·rw [List.mem_singleton.1 aw]; exact hk
 ·by_cases e:i<m.length
  ·rw [List.getElem?_append_left e] at aw; exact h.ms i s aw
  ·rw [List.getElem?_append_right (by omega)] at aw;have:s=⟨K,[]⟩:=by
    have:=List.mem_of_getElem? aw;simpa using this
   rw [this]; exact List.nil_sublist _
 ·rcases List.mem_append.1 aw with aw | aw
  ·exact (h.aS s aw w hw).up (by simp)
  ·rw [List.mem_singleton.1 aw] at hw; cases hw
theorem nL.mono {g:bD}{m:List State}{q j vP:Nat}(h:nL g m q j) (ag:j<=vP):nL g m q vP:=by
 refine ⟨h.gJ,h.nF,h.pT,λi s aw=>?_,h.aS⟩;have:=h.ms i s aw;split
 ·rename_i e; rw [if_pos e] at this; exact this
 ·rename_i e; rw [if_neg e] at this;split
  ·rename_i b1; rw [if_pos b1] at this;exact this.trans (List.take_sublist_take_left ag)
  ·rename_i b1; rw [if_neg b1] at this; exact this
theorem nL.next {g:bD}{m:List State}{q j:Nat}(h:nL g m q j):nL g m (q+1) 0:=by
 refine ⟨h.gJ,h.nF,h.pT,λi s aw=>?_,h.aS⟩;have:=h.ms i s aw;by_cases e:i<q+1
 ·rw [if_pos e]
  split at this
  ·exact this
  ·split at this
   ·exact this.trans (List.take_sublist _ _)
   ·exact this.trans (List.nil_sublist _)
 ·rw [if_neg (by omega),if_neg (by omega)] at this;rw [if_neg e];exact this.trans (List.nil_sublist _)
theorem Pc {α:Type}{m:List α}{q:Nat}{x:α}(h:m[q]?=some x):idx m (q:Int)=some x:=by simp [idx,h]
def GoTo (m:List State) (a s r:Int):Prop:=(r=-1/\∀ st,idx m a=some st->∀ v∈st.dW,v.Sym≠s)\/∃ st v,idx m a=some st/\v∈st.dW/\v.Sym=s/\r=v.rY
theorem E2 (m:List State) (a s:Int) (hm:∀ st∈m,st.dW.length<=64):Tot (rE m a s) (GoTo m a s):=by
 unfold rE;by_cases aK:0<=a/\a<(m.length:Int)
 ·obtain ⟨st,bU,mM⟩:=nD aK.1 aK.2;have ah:=hm st mM;have d1:decide (0<=a)=true:=decide_eq_true aK.1;have d2:decide (a<(m.length:Int))=true:=decide_eq_true aK.2;rw [d1,d2];simp only [cond_true,bU,Option.bind_some];refine .aA (Ξ:=h0 (λ_=>∀ v∈st.dW,v.Sym≠s) (λr:Int=>∃ v,v∈st.dW/\v.Sym=s/\r=v.rY)) ?_ λx J=>?_
  ·refine Tot.upto (λs=>s) st.dW.length (λk _=>∀ v∈st.dW.take k,v.Sym≠s) rfl (by omega) (by simp) λk i hk he bf=>?_;subst he;rw [et k (by omega)];refine Tot.bt (λaN=>?_) (λdF=>.al (by
    show ∀ v∈st.dW,v.Sym≠s;rw [List.take_of_length_le (by omega)] at bf; exact bf))
   have aN:k<st.dW.length:=by omega
   rw [dN aN];simp only [Option.bind_some];refine Tot.bt (λe=>.al ⟨_,List.getElem_mem aN,e,rfl⟩) (λe=>.al ⟨aN,rfl,λv hv=>?_⟩);rw [l2 aN,List.mem_append,List.mem_singleton] at hv;rcases hv with hv | rfl
   ·exact bf v hv
   ·exact e
  ·rcases x with x | x
   ·exact .al (.inl ⟨rfl,λuR aJ=>by rw [bU] at aJ; cases aJ; exact J⟩)
   ·obtain ⟨v,h1,af,aD⟩:=J;exact .al (.inr ⟨st,v,bU,h1,af,aD⟩)
 ·refine .aA (Ξ:=h0 (λ_=>True) (λ_:Int=>False)) (Tot.loop (λ_=>True) (λ_=>0) trivial (by show 0<1000000000000000000; omega) λi _=>?_) λx J=>?_
  ·refine .aA (Ξ:=λc=>c=false) ?_ λc aa=>by subst aa; exact .al trivial
   refine Tot.bt (λh1=>Tot.bt (λaf=>absurd ⟨h1,af⟩ aK) (λ_=>.al rfl)) (λ_=>.al rfl)
  ·rcases x with x | x
   ·refine .al (.inl ⟨rfl,λst aJ=>absurd ⟨(j6 aJ).1,(j6 aJ).2.1⟩ aK⟩)
   ·exact J.elim
theorem GoTo.aU {g:bD}{m:List State}(hm:ng g m) {a s r:Int}(h:GoTo m a s r):-1<=r/\r<m.length:=by
 rcases h with ⟨rfl,_⟩ | ⟨st,v,h1,af,_,rfl⟩
 ·have:=hm.gJ; exact ⟨by omega,by omega⟩
 ·have:=hm.aS st (j6 h1).2.2 v af;exact ⟨by have:=this.t0; omega,this.t1⟩
theorem GoTo.yes {g:bD}{m:List State}(hm:ng g m) {a s r:Int}(h:GoTo m a s r) {st:State}{v:Move}(aw:idx m a=some st) (hv:v∈st.dW) (e:v.Sym=s):0<=r/\r<m.length:=by
 rcases h with ⟨rfl,h⟩ | ⟨st,v,h1,af,_,rfl⟩
 ·exact absurd e (h st aw v hv)
 ·have:=hm.aS st (j6 h1).2.2 v af;exact ⟨this.t0,this.t1⟩
theorem M0 {g:bD}{m:List State}(hm:ng g m) (a:Int) (l:List Int) (aI:-1<=a/\a<m.length) (ah:l.length<=1000):Tot (As m a l) λr=>-1<=r/\r<m.length:=by
 unfold As;refine .aA (Ξ:=λr:Int=>-1<=r/\r<m.length) ?_ λr hr=>.al hr;refine Tot.upto (λs=>s.2) l.length (λ_ s=>-1<=s.1/\s.1<m.length) rfl (by omega) aI λk s hk he bf=>?_;obtain ⟨r,i⟩:=s;simp only at he bf ⊢;subst he;rw [et k (by omega)];refine .aA (Ξ:=λc=>c=true->k<l.length) (Tot.bt (λh=>.al λ_=>by omega) (λ_=>.al λh=>by cases h)) λc aa=>Tot.bM (λh=>?_) (λ_=>.al bf);have aN:=aa h;rw [dN aN];exact Tot.aV (.aA (E2 m r _ hm.xT) λz aX=>.al ⟨aN,rfl,aX.aU hm⟩)
def u5 (m:List State) (t:Trans):Prop:=∃ st v,idx m t.State=some st/\v∈st.dW/\v.Sym=t.fH/\1000<=t.fH
structure wI (m:List State) (l:List Trans):Prop where
 n:l.length<=9600
 ok:∀ t∈l,u5 m t
 dv:∀ (q:Nat) (st:State) (v:Move),m[q]?=some st->v∈st.dW->1000<=v.Sym->(⟨q,v.Sym⟩:Trans)∈l
theorem TE {g:bD}{m:List State}(hm:ng g m):Tot (qG m) (wI m):=by
 have aB:=hm.nF;unfold qG;refine .aA (Ξ:=wI m) ?_ λr hr=>.al hr;refine Tot.upto (λs=>s.2) m.length (λk s=>s.1.length<=64 * k/\(∀ t∈s.1,u5 m t)/\∀ (q:Nat) (st:State) (v:Move),q<k->m[q]?=some st->v∈st.dW->1000<=v.Sym->(⟨q,v.Sym⟩:Trans)∈s.1) rfl (by omega) ⟨Nat.le_refl 0,λt h=>(by cases h),λq _ _ h=>absurd h (Nat.not_lt_zero _)⟩ λk s hk he bf=>?_;obtain ⟨l,i⟩:=s;obtain ⟨h1,af,aD⟩:=bf;simp only at he h1 af aD ⊢;subst he;rw [et k (by omega)];refine Tot.bt (λaN=>?_) (λdF=>.al ⟨?_,af,λq st v a8=>aD q st v ?_ a8⟩)
 ·have aN:k<m.length:=by omega
  have mL:m[k]?=some m[k]:=List.getElem?_eq_getElem aN;have mM:=List.getElem_mem aN;rw [dN aN];generalize m[k]=st at *;have vA:=hm.xT st mM;simp only [Option.bind_some];refine .aA (Ξ:=λzX:List Trans=>zX.length<=64 * (k+1)/\(∀ t∈zX,u5 m t)/\(∀ t∈l,t∈zX)/\∀ v∈st.dW,1000<=v.Sym->(⟨k,v.Sym⟩:Trans)∈zX) ?_ λzX hL=>.al ⟨aN,rfl,hL.1,hL.2.1,λq uR v a8 bm b7 dp=>?_⟩
  ·refine Tot.upto (λs=>s.2) st.dW.length (λj s=>s.1.length<=64 * k+j/\(∀ t∈s.1,u5 m t)/\(∀ t∈l,t∈s.1)/\∀ v∈st.dW.take j,1000<=v.Sym->(⟨k,v.Sym⟩:Trans)∈s.1) rfl (by omega) ⟨h1,af,λ_ h=>h,λv hv=>by simp at hv⟩ λj s ag he bf=>?_;obtain ⟨o,i⟩:=s;obtain ⟨g1,g2,g3,g4⟩:=bf;simp only at he g1 g2 g3 g4 ⊢;subst he;rw [et j (by omega)];refine Tot.bt (λaN=>?_) (λdF=>.al ⟨by show o.length<=_; omega,g2,g3,by
    rw [List.take_of_length_le (by omega)] at g4; exact g4⟩)
   have aN:j<st.dW.length:=by omega
   have fA:=l2 aN;have FF:=List.getElem_mem aN;rw [dN aN];generalize st.dW[j]=v at *;simp only [Option.bind_some];refine .aA (Ξ:=λo:List Trans=>o.length<=64 * k+(j+1)/\(∀ t∈o,u5 m t)/\(∀ t∈l,t∈o)/\∀ v∈st.dW.take (j+1),1000<=v.Sym->(⟨k,v.Sym⟩:Trans)∈o) ?_ λo aW=>.al ⟨aN,rfl,aW⟩;refine .aA (Ξ:=λo:List Trans=>o.length<=64 * k+(j+1)/\(∀ t∈o,u5 m t)/\(∀ t∈l,t∈o)/\∀ v∈st.dW.take (j+1),1000<=v.Sym->(⟨k,v.Sym⟩:Trans)∈o) (Tot.bt (λh=>?_) (λh=>.al ⟨by omega,g2,g3,λw hw aw=>?_⟩)) λo aW=>.al aW
   ·refine .bK<|.al ⟨by simp; omega,λt ar=>?_,λt ar=>List.mem_append_left _ (g3 t ar),λw hw aw=>?_⟩
    ·rcases List.mem_append.1 ar with ar | ar
     ·exact g2 t ar
     ·rw [List.mem_singleton.1 ar];exact ⟨st,v,Pc mL,FF,rfl,h⟩
    ·rw [fA,List.mem_append,List.mem_singleton] at hw;rcases hw with hw | rfl
     ·exact List.mem_append_left _ (g4 w hw aw)
     ·simp
   ·rw [fA,List.mem_append,List.mem_singleton] at hw;rcases hw with hw | rfl
    ·exact g4 w hw aw
    ·exact absurd aw h
  ·by_cases e:q=k
   ·subst e;rw [mL] at bm; cases bm;exact hL.2.2.2 v b7 dp
   ·exact hL.2.2.1 _ (aD q uR v (by omega) bm b7 dp)
 ·show l.length<=9600;omega
 ·have:=(List.getElem?_eq_some_iff.1 a8).1;omega
theorem By (l:List Trans) (a n:Int) (ah:l.length<=9600):Tot (Ay l a n) λr=>-1<=r/\r<l.length/\((⟨a,n⟩:Trans)∈l->0<=r):=by
 unfold Ay;refine .aA (Ξ:=h0 (λ_=>(⟨a,n⟩:Trans)∉l) (λr:Int=>0<=r/\r<l.length)) ?_ λx J=>?_
 ·refine Tot.upto (λs=>s) l.length (λk _=>(⟨a,n⟩:Trans)∉l.take k) rfl (by omega) (by simp) λk i hk he bf=>?_;subst he;rw [et k (by omega)];refine Tot.bt (λaN=>?_) (λdF=>.al (by
   show (⟨a,n⟩:Trans)∉l;rw [List.take_of_length_le (by omega)] at bf; exact bf))
  have aN:k<l.length:=by omega
  have fA:=l2 aN;rw [dN aN];generalize l[k]=y at *;simp only [Option.bind_some];refine .aA (Ξ:=λc:Bool=>c=false->y≠⟨a,n⟩) (Tot.bt (λh=>.al λaJ e=>?_) (λh=>.al λ_ e=>h (by rw [e]))) λc aa=>Tot.bM (λh=>.al ⟨by show (0:Int)<=k; omega,by show (k:Int)<_; omega⟩) (λh=>.al ⟨aN,rfl,?_⟩)
  ·have:=of_decide_eq_false aJ;exact this (by rw [e])
  ·rw [fA,List.mem_append,List.mem_singleton];exact λaJ=>aJ.elim bf λe=>aa h e.symm
 ·rcases x with x | x
  ·refine .al ⟨by omega,by omega,λh=>absurd h J⟩
  ·have J:0<=x/\x<l.length:=J;exact .al ⟨by omega,J.2,λ_=>J.1⟩
theorem TI (l:List Item) (ah:l.length<=1000000):Tot (DC l) λ_=>True:=by
 unfold DC;refine .aA (Ξ:=λ_=>True) ?_ λx J=>by
  rcases x with x | x
  ·exact .al trivial
  ·exact .al trivial
 refine Tot.upto (λs=>s) l.length (λ_ _=>True) rfl (by omega) trivial λk i hk he _=>?_;subst he;rw [et k (by omega)];refine Tot.bt (λaN=>?_) (λ_=>.al trivial);have aN:k<l.length:=by omega
 rw [dN aN];simp only [Option.bind_some];refine .aA (Ξ:=λ_=>True) (Tot.bt (λ_=>.al trivial) (λ_=>.al trivial)) λc _=>Tot.bM (λ_=>.al trivial) (λ_=>.al ⟨aN,rfl,trivial⟩)
theorem M4 (B:List Bool) (l:List Int) (ah:l.length<=1000) (h:∀ s∈l,s<1000\/(1000<=s/\s - 1000<B.length)) (eV:B.length<=1000):Tot (Az B l) λ_=>True:=by
 unfold Az;refine .aA (Ξ:=λ_=>True) ?_ λx J=>by
  rcases x with x | x
  ·exact .al trivial
  ·exact .al trivial
 refine Tot.upto (λs=>s) l.length (λ_ _=>True) rfl (by omega) trivial λk i hk he _=>?_;subst he;rw [et k (by omega)];refine Tot.bt (λaN=>?_) (λ_=>.al trivial);have aN:k<l.length:=by omega
 have ao:=h _ (List.getElem_mem aN);rw [dN aN];generalize l[k]=y at *;simp only [Option.bind_some];refine .aA (Ξ:=λ_=>True) (Tot.bt (λ_=>.al trivial) (λh1=>?_)) λc _=>Tot.bM (λ_=>.al trivial) (λ_=>.al ⟨aN,rfl,trivial⟩);have hw:aG (y - 1000)=y - 1000:=by rw [cB]; omega
 rw [hw];obtain ⟨b,au,_⟩:=nD (l:=B) (i:=y - 1000) (by omega) (by omega);rw [au];exact .al trivial
theorem QE {g:bD}(aP:fZ g) {q:Prod}(a8:q∈g.bx) {B:List Bool}(eV:B.length=g.dC.length):∀ s∈q.dD,s<1000\/(1000<=s/\s - 1000<B.length):=λs aw=>by
 have ar:=aP.k9;have aB:=aP.eW;rcases (aP.gx q a8).right s aw with h | h <;> omega
theorem M1 (g:bD) (aP:fZ g):Tot (Ax g) λB=>B.length=g.dC.length:=by
 have ar:=aP.k9;have aB:=aP.eW;have aq:=aP.jt;unfold Ax;refine .aA (Ξ:=λB=>B=List.replicate g.dC.length false) (Tot.mk (by simp [lim]; omega) (by simp)) λacg VZ=>?_;subst VZ;refine .aA (Ξ:=λB:List Bool=>B.length=g.dC.length) ?_ λB eV=>.al eV;refine Tot.loop (λs=>s.1.length=g.dC.length) (λs=>2 * (g.dC.length - iO s.1)+s.2.toNat) (by simp) (by
  show 2 * (g.dC.length - iO _)+1<1000000000000000000; omega) λs aw=>?_
 obtain ⟨B,f⟩:=s;simp only at aw ⊢;refine Tot.bM (λaT=>?_) (λ_=>.al aw);subst aT;refine .aA (Ξ:=λr:List Bool × Bool=>r.1.length=g.dC.length/\iO B<=iO r.1/\(r.2=true->iO B<iO r.1)) ?_ λr hr=>?_
 ·refine Tot.upto (λs=>s.2.2) g.bx.length (λ_ s=>s.1.length=g.dC.length/\iO B<=iO s.1/\(s.2.1=true->iO B<iO s.1)) rfl (by omega) ⟨aw,Nat.le_refl _,λh=>by cases h⟩ λk s hk he bf=>?_;obtain ⟨C,f,i⟩:=s;obtain ⟨h1,af,aD⟩:=bf;simp only at he h1 af aD ⊢;subst he;rw [et k (by omega)];refine Tot.bt (λaN=>?_) (λdF=>.al ⟨h1,af,aD⟩);have aN:k<g.bx.length:=by omega
  have kF:=List.getElem_mem aN;rw [dN aN];generalize g.bx[k]=q at *;have a8:=aP.gx q kF;have OR:=a8.left;obtain ⟨b,au,_⟩:=nD (l:=C) (i:=q.Left) OR.1 (by omega);simp only [Option.bind_some,au];refine .aA (Ξ:=λr:List Bool × Bool=>r.1.length=g.dC.length/\iO B<=iO r.1/\(r.2=true->iO B<iO r.1)) ?_ λr hr=>.al ⟨aN,rfl,hr⟩;refine .aA (Ξ:=λc:Bool=>c=true->b=false) ?_ λc aa=>?_
  ·cases b with
   | true=>exact .al λh=>by cases h
   | false =>
    refine .aA (M4 C q.dD (by have:=aP.aF q kF; omega) (QE aP kF h1) (by omega)) λ_ _=>.al λ_=>rfl
  ·refine .aA (Ξ:=λr:List Bool × Bool=>r.1.length=g.dC.length/\iO B<=iO r.1/\(r.2=true->iO B<iO r.1)) (Tot.bM (λh=>.al ?_) (λh=>.al ⟨h1,af,aD⟩)) λr hr=>.al hr;have W0:=aa h;subst W0;have zK:q.Left.toNat<C.length:=by omega
   have mL:C.getD q.Left.toNat false=false:=by
    unfold idx at au;rw [if_pos OR.1] at au;rw [List.getD_eq_getElem?_getD,au]; rfl
   have:=M_ C q.Left.toNat zK mL;exact ⟨by rw [List.length_set]; exact h1,by show iO B<=iO (C.set _ _); omega,λ_=>by show iO B<iO (C.set _ _); omega⟩
 ·obtain ⟨h1,af,aD⟩:=hr;refine .al ⟨h1,?_⟩;have aa:=T5 r.1;show 2 * (g.dC.length - iO r.1)+r.2.toNat<2 * (g.dC.length - iO B)+true.toNat;cases hz:r.2 with
  | false=>simp only [Bool.toNat_false,Bool.toNat_true]; omega
  | true =>
   have:=aD hz;simp only [Bool.toNat_true]; omega
structure jf (T:Nat) (r:List Int):Prop where
 a:e_ iK r
 i:∀ x∈r,0<=x/\x<T
theorem jf.len {T:Nat}{r:List Int}(h:jf T r):r.length<=T:=by
 have:=Aa (m:=(List.range T).map λk:Nat=>(k:Int)) (h.a.nd Gg) λx J=>by
  have:=h.i x J;exact List.mem_map.2 ⟨x.toNat,by rw [List.mem_range]; omega,by omega⟩
 grind
theorem jf.nil {T:Nat}:jf T []:=⟨.nil,λx h=>by cases h⟩
theorem jf.put {T:Nat}(cU:T<=100000) {r:List Int}(h:jf T r) {x:Int}(J:0<=x/\x<T):Tot (qH r x) λc'=>jf T c'/\r.length<=c'.length:=by
 have ah:=h.len;refine (E3 r x h.a (by omega)).use λc' dG=>⟨⟨dG.1,λy ao=>?_⟩,Aa (h.a.nd Gg) λy ao=>(dG.2.2 y).2 (.inl ao)⟩;rcases (dG.2.2 y).1 ao with aJ | rfl
 ·exact h.i y aJ
 grind
def mW (L:List (List Int)) (i:Nat):Nat:=(L.getD i []).length
def ju (L:List (List Int)):Nat:=(L.map List.length).sum
theorem Rt:∀ (L L':List (List Int)),L.length=L'.length->(∀ i,mW L i<=mW L' i)->ju L<=ju L'/\((∃ i,mW L i<mW L' i)->ju L<ju L')
 | [],[],_,_=>⟨Nat.le_refl _,λ⟨i,h⟩=>absurd h (Nat.lt_irrefl _)⟩
 | a::L,b::L',ah,h=>by
  obtain ⟨h1,af⟩:=Rt L L' (by simpa using ah) λi=>by simpa [mW] using h (i+1)
  have aK:a.length<=b.length:=by simpa [mW] using h 0
  have b9:ju (a::L)=a.length+ju L:=by simp [ju]
  have b3:ju (b::L')=b.length+ju L':=by simp [ju]
  rw [b9,b3];refine ⟨by omega,λ⟨i,hi⟩=>?_⟩;cases i with
  | zero =>
   have:a.length<b.length:=by simpa [mW] using hi
   omega
  | succ i =>
   have:=af ⟨i,by simpa [mW] using hi⟩;omega
def Sets (T:Nat) (L:List (List Int)):Prop:=∀ r∈L,jf T r
theorem Rs {T:Nat}:∀ {L:List (List Int)},Sets T L->ju L<=L.length * T
 | [],_=>by simp [ju]
 | a::L,h=>by
  have h1:=(h a (by simp)).len;have af:=Rs (L:=L) λr hr=>h r (by simp [hr]);have b9:ju (a::L)=a.length+ju L:=by simp [ju]
  rw [b9,List.length_cons,Nat.succ_mul]; omega
structure py (T:Nat) (L L':List (List Int)):Prop where
 n:L'.length=L.length
 s:Sets T L'
 u:∀ i,mW L i<=mW L' i
theorem py.refl {T:Nat}{L:List (List Int)}(h:Sets T L):py T L L:=⟨rfl,h,λ_=>Nat.le_refl _⟩
theorem py.trans {T:Nat}{A B C:List (List Int)}(h:py T A B) (aJ:py T B C):py T A C:=⟨aJ.n.trans h.n,aJ.s,λi=>Nat.le_trans (h.u i) (aJ.u i)⟩
theorem py.set {T:Nat}{L:List (List Int)}{k:Nat}{r c':List Int}(aw:Sets T L) (hk:L[k]?=some r) (h:jf T c') (ah:r.length<=c'.length):py T L (L.set k c'):=by
 have dq:=(List.getElem?_eq_some_iff.1 hk).1;refine ⟨List.length_set ..,λx J=>?_,λi=>?_⟩
 ·rcases List.mem_or_eq_of_mem_set J with aJ | aJ
  ·exact aw x aJ
  grind
 grind [mW]
theorem YH {L:List (List Int)}{k:Nat}{r:List Int}(h:L[k]?=some r):mW L k=r.length:=by
 grind [mW]
theorem YF {α:Type}{l:List α}{i:Int}{y:α}(h:idx l i=some y):l[i.toNat]?=some y:=by
 grind [idx]
theorem MZ (T:Nat) (cU:T<=1000) (a0 av:List (List Int)) (aB:a0.length<=9600) (he:av.length=a0.length) (aK:Sets T a0) (h1:Sets a0.length av):Tot (Ar a0 av) λr=>r.length=a0.length/\Sets T r:=by
 unfold Ar;refine .aA (Ξ:=λr:List (List Int)=>r.length=a0.length/\Sets T r) ?_ λr hr=>.al hr;have au:a0.length * T<=9600 * 1000:=Nat.mul_le_mul aB cU;refine Tot.loop (λs=>s.1.length=a0.length/\Sets T s.1) (λs=>2 * (a0.length * T - ju s.1)+s.2.toNat) ⟨rfl,aK⟩ (by
  show 2 * (a0.length * T - ju _)+1<1000000000000000000;omega) λs aw=>?_
 obtain ⟨L,f⟩:=s;obtain ⟨ah,aw⟩:=aw;simp only at ah aw ⊢;refine Tot.bM (λaT=>?_) (λ_=>.al ⟨ah,aw⟩);subst aT;refine .aA (Ξ:=λr:List (List Int) × Bool=>py T L r.1/\(r.2=true->∃ i,mW L i<mW r.1 i)) ?_ λr hr=>?_
 ·refine Tot.upto (λs=>s.2.2) L.length (λ_ s=>py T L s.1/\(s.2.1=true->∃ i,mW L i<mW s.1 i)) rfl (by omega) ⟨.refl aw,λh=>by cases h⟩ λk s hk h8 bf=>?_;obtain ⟨C,f,i⟩:=s;obtain ⟨hu,mK⟩:=bf;simp only at h8 hu mK ⊢;subst h8;rw [et k (by omega)];have OZ:=hu.n;refine Tot.bt (λaN=>?_) (λdF=>.al ⟨hu,mK⟩);have Oz:k<C.length:=by omega
  have gv:k<av.length:=by omega
  have aeW:C[k]?=some C[k]:=List.getElem?_eq_getElem Oz;have rl:=h1 _ (List.getElem_mem gv);rw [dN gv,dN Oz];generalize av[k]=row at *;generalize C[k]=mU at *;simp only [Option.bind_some];have oI:=rl.len;refine .aA (Ξ:=λD:List (List Int)=>py T C D) ?_ λD jm=>?_
  ·refine Tot.upto (λs=>s.2) row.length (λ_ s=>py T C s.1) rfl (by omega) (.refl hu.s) λj s ag h8 bf=>?_;obtain ⟨D,i⟩:=s;simp only at h8 bf ⊢;subst h8;rw [et j (by omega)];have V4:=bf.n;refine Tot.bt (λaN=>?_) (λ_=>.al bf);have aN:j<row.length:=by omega
   have ao:=rl.i _ (List.getElem_mem aN);rw [dN aN];generalize row[j]=y at *;simp only [Option.bind_some];refine .aA (Ξ:=λE:List (List Int)=>py T C E) ?_ λE lk=>.al ⟨aN,rfl,lk⟩;refine Tot.count (λs=>s.2) T (λs=>∃ n:Nat,s.2=(n:Int)/\py T C s.1) ⟨0,rfl,bf⟩ (by show (T:Int) - 0<_; omega) λs aw=>?_;obtain ⟨E,i⟩:=s;obtain ⟨n,Fv,lk⟩:=aw;simp only at Fv lk ⊢;subst Fv;have aeJ:=lk.n;obtain ⟨z,aX,Kl⟩:=nD (l:=E) (i:=y) ao.1 (by omega);have lT:=lk.s z Kl;have uq:=lT.len;have JE:k<E.length:=by omega
   have Xj:E[k]?=some E[k]:=List.getElem?_eq_getElem JE;rw [aX];simp only [Option.bind_some];refine Tot.bt (λaN=>?_) (λ_=>.al lk);have aN:n<z.length:=by omega
   rw [et n (by omega),dN JE,dN aN];simp only [Option.bind_some];refine .aA ((lk.s _ (List.getElem_mem JE)).put (by omega) (lT.i _ (List.getElem_mem aN))) λc' dG=>.al ⟨⟨n+1,rfl,?_⟩,by show (n:Int)<((n+1:Nat):Int); omega,by show ((n+1:Nat):Int)<=T; omega⟩;exact lk.trans (.set lk.s Xj dG.1 dG.2)
  ·have V4:=jm.n;have OA:k<D.length:=by omega
   have aeX:D[k]?=some D[k]:=List.getElem?_eq_getElem OA;have zS:=hu.trans jm;refine .aA (Ξ:=λc:Bool=>c=true->∃ i,mW L i<mW D i) ?_ λc aa=>.al ⟨by omega,rfl,zS,aa⟩;refine Tot.bM (λaT=>.al λ_=>?_) (λ_=>?_)
   ·obtain ⟨i,hi⟩:=mK aT;exact ⟨i,Nat.lt_of_lt_of_le hi (jm.u i)⟩
   ·rw [dN OA];refine Tot.aV (.al λh=>⟨k,?_⟩);have aD:=jm.u k;have bm:=hu.u k
    grind [YH]
 ·obtain ⟨hu,aT⟩:=hr;have CC:=hu.n;obtain ⟨aD,bm⟩:=Rt L r.1 CC.symm hu.u;have b7:=Rs hu.s;rw [show r.1.length=a0.length by omega] at b7;refine .al ⟨⟨by show r.1.length=_; omega,hu.s⟩,?_⟩;show 2 * (a0.length * T - ju r.1)+r.2.toNat<2 * (a0.length * T - ju L)+true.toNat;cases hz:r.2 with
  | false=>simp only [Bool.toNat_false,Bool.toNat_true]; omega
  | true =>
   grind
theorem ng.sym {g:bD}(aP:fZ g) {m:List State}(hm:ng g m) {st:State}(bU:st∈m) {v:Move}(hv:v∈st.dW):0<=v.Sym/\(v.Sym<1000->v.Sym<g.br.length)/\(1000<=v.Sym->v.Sym - 1000<g.dC.length):=by
 have ar:=aP.k9;rcases PK.1 (hm.aS st bU v hv).s with h | h
 ·exact ⟨h.1,λ_=>h.2,λaJ=>by omega⟩
 ·exact ⟨by omega,λaJ=>by omega,λ_=>by omega⟩
theorem u5.go {g:bD}{m:List State}(hm:ng g m) {t:Trans}(h:u5 m t):Tot (rE m t.State t.fH) λr=>0<=r/\r<m.length:=by
 obtain ⟨st,v,h1,af,aD,_⟩:=h;exact (E2 m t.State t.fH hm.xT).use λr hr=>hr.yes hm h1 af aD
theorem Q6 {T:Nat}{L:List (List Int)}{r:List Int}(h:Sets T L) (hr:jf T r):Sets T (L++[r]):=λx J=>by
 rcases List.mem_append.1 J with J | J
 ·exact h x J
 ·rw [List.mem_singleton.1 J]; exact hr
theorem TB (g:bD) (aP:fZ g) {m:List State}(hm:ng g m):Tot (Dt m) λr=>∃ c5,qG m=some c5/\wI m c5/\r.length=c5.length/\Sets g.br.length r:=by
 have ar:=aP.k9;obtain ⟨c5,qi,hM⟩:=TE hm;have xy:=hM.n;unfold Dt;rw [qi];refine Tot.aV (.aA (Ξ:=λr:List (List Int)=>r.length=c5.length/\Sets g.br.length r) ?_ λr hr=>.al ⟨c5,rfl,hM,hr⟩);refine Tot.upto (λs=>s.2) c5.length (λk s=>s.1.length=k/\Sets g.br.length s.1) rfl (by omega) ⟨rfl,λr h=>by cases h⟩ λk s hk he bf=>?_;obtain ⟨L,i⟩:=s;obtain ⟨h1,af⟩:=bf;simp only at he h1 af ⊢;subst he;rw [et k (by omega)];refine Tot.bt (λaN=>?_) (λdF=>.al ⟨by show L.length=_; omega,af⟩);have aN:k<c5.length:=by omega
 have fA:=hM.ok _ (List.getElem_mem aN);rw [dN aN];generalize c5[k]=t at *;simp only [Option.bind_some];refine .aA (fA.go hm) λto CI=>?_;obtain ⟨st,bU,qu⟩:=nD CI.1 CI.2;have cZ:=hm.pT st qu;have vA:=hm.xT st qu;rw [bU];simp only [Option.bind_some];refine .aA (TI _ (by have:=cZ.len aP; omega)) λc _=>?_;refine .aA (Ξ:=jf g.br.length) (Tot.bM (λ_=>?_) (λ_=>.al .nil)) λAW zO=>?_
 ·refine .aA (Ξ:=λ_=>True) (Tot.ap (by simp [lim]) trivial) λ_ _=>.al ⟨List.pairwise_singleton ..,λx J=>?_⟩;rw [List.mem_singleton.1 J]; omega
 refine .aA (Ξ:=jf g.br.length) ?_ λr hr=>?_
 ·refine Tot.upto (λs=>s.2) st.dW.length (λk s=>jf g.br.length s.1) rfl (by omega) zO λj s ag he bf=>?_;obtain ⟨r,i⟩:=s;simp only at he bf ⊢;subst he;rw [et j (by omega)];refine Tot.bt (λaN=>?_) (λ_=>.al bf);have aN:j<st.dW.length:=by omega
  have hv:=hm.sym aP qu (List.getElem_mem aN);rw [dN aN];generalize st.dW[j]=v at *;simp only [Option.bind_some];refine .aA (Ξ:=jf g.br.length) ?_ λr hr=>.al ⟨aN,rfl,hr⟩;refine .aA (Ξ:=jf g.br.length) (Tot.bt (λh=>?_) (λ_=>.al bf)) λr hr=>.al hr;exact .aA (bf.put (by omega) ⟨hv.1,hv.2.1 h⟩) λr hr=>.al hr.1
 ·refine .bK<|.al ⟨aN,rfl,by simp; omega,Q6 af hr⟩
theorem TC (g:bD) (aP:fZ g) {m:List State}(hm:ng g m) {c5:List Trans}(qi:qG m=some c5) (hM:wI m c5):Tot (Du g m) λr=>r.length=c5.length/\Sets c5.length r:=by
 have ar:=aP.k9;have ri:=aP.eW;have xy:=hM.n;unfold Du;rw [qi];refine Tot.aV (.aA (M1 g aP) λB eV=>.aA (Ξ:=λr:List (List Int)=>r.length=c5.length/\Sets c5.length r) ?_ λr hr=>.al hr);refine Tot.upto (λs=>s.2) c5.length (λk s=>s.1.length=k/\Sets c5.length s.1) rfl (by omega) ⟨rfl,λr h=>by cases h⟩ λk s hk he bf=>?_;obtain ⟨L,i⟩:=s;obtain ⟨h1,af⟩:=bf;simp only at he h1 af ⊢;subst he;rw [et k (by omega)];refine Tot.bt (λaN=>?_) (λdF=>.al ⟨by show L.length=_; omega,af⟩);have aN:k<c5.length:=by omega
 have fA:=hM.ok _ (List.getElem_mem aN);rw [dN aN];generalize c5[k]=t at *;simp only [Option.bind_some];refine .aA (fA.go hm) λto CI=>?_;obtain ⟨st,bU,qu⟩:=nD CI.1 CI.2;have n1:=YF bU;have vA:=hm.xT st qu;rw [bU];simp only [Option.bind_some];refine .aA (Ξ:=jf c5.length) ?_ λr hr=>?_
 ·refine Tot.upto (λs=>s.2) st.dW.length (λk s=>jf c5.length s.1) rfl (by omega) .nil λj s ag he bf=>?_;obtain ⟨r,i⟩:=s;simp only at he bf ⊢;subst he;rw [et j (by omega)];refine Tot.bt (λaN=>?_) (λ_=>.al bf);have aN:j<st.dW.length:=by omega
  have FF:=List.getElem_mem aN;have hv:=hm.sym aP qu FF;rw [dN aN];generalize st.dW[j]=v at *;simp only [Option.bind_some];refine .aA (Ξ:=jf c5.length) ?_ λr hr=>.al ⟨aN,rfl,hr⟩;refine .aA (Ξ:=λc:Bool=>c=true->1000<=v.Sym) (Tot.bt (λh=>?_) (λ_=>.al λh=>by cases h)) λc aa=>?_
  ·have hw:aG (v.Sym - 1000)=v.Sym - 1000:=by
    have:=hv.2.2 h;rw [cB]; omega
   rw [hw];obtain ⟨b,au,_⟩:=nD (l:=B) (i:=v.Sym - 1000) (by omega) (by have:=hv.2.2 h; omega);rw [au];exact Tot.aV (.al λ_=>h)
  ·refine .aA (Ξ:=jf c5.length) (Tot.bM (λh=>?_) (λ_=>.al bf)) λr hr=>.al hr;have zF:=hM.dv to.toNat st v n1 FF (aa h);rw [show ((to.toNat:Nat):Int)=to by omega] at zF;refine .aA (By c5 to v.Sym xy) λz aX=>?_;exact .aA (bf.put (by omega) ⟨aX.2.2 zF,aX.2.1⟩) λr hr=>.al hr.1
 ·refine .bK<|.al ⟨aN,rfl,by simp; omega,Q6 af hr⟩
theorem TD (g:bD) (aP:fZ g) {m:List State}(hm:ng g m) {c5:List Trans}(qi:qG m=some c5) (hM:wI m c5):Tot (Dv g m) λr=>r.length=c5.length/\Sets c5.length r:=by
 have ar:=aP.k9;have ri:=aP.eW;have sh:=aP.jt;have xy:=hM.n;unfold Dv;rw [qi];refine Tot.aV (.aA (M1 g aP) λB eV=>.aA (Ξ:=λr=>r=List.replicate c5.length ([]:List Int)) (Tot.mk (by simp [lim]; omega) (by simp)) λacm Wc=>.aA (Ξ:=λr:List (List Int)=>r.length=c5.length/\Sets c5.length r) ?_ λr hr=>.al hr);subst Wc;have acf:∀ {L:List (List Int)},(L.length=c5.length/\Sets c5.length L)->∀ {z:Int}{r c':List Int},idx L z=some r->jf c5.length c'->(L.set z.toNat c').length=c5.length/\Sets c5.length (L.set z.toNat c'):=λ{L} fK {z r c'} _ dG=>⟨by rw [List.length_set]; exact fK.1,λx J=>by
  rcases List.mem_or_eq_of_mem_set J with aJ | aJ
  ·exact fK.2 x aJ
  ·rw [aJ]; exact dG⟩
 refine Tot.upto (λs=>s.2) c5.length (λk s=>s.1.length=c5.length/\Sets c5.length s.1) rfl (by omega) ⟨by simp,λr h=>by rw [List.eq_of_mem_replicate h]; exact .nil⟩ λk s hk he bf=>?_;obtain ⟨L,i⟩:=s;simp only at he bf ⊢;subst he;rw [et k (by omega)];refine Tot.bt (λaN=>?_) (λdF=>.al bf);have aN:k<c5.length:=by omega
 have fA:=hM.ok _ (List.getElem_mem aN);rw [dN aN];generalize c5[k]=t at *;simp only [Option.bind_some];refine .aA (Ξ:=λr:List (List Int)=>r.length=c5.length/\Sets c5.length r) ?_ λr hr=>.al ⟨aN,rfl,hr⟩;refine Tot.upto (λs=>s.2) g.bx.length (λk s=>s.1.length=c5.length/\Sets c5.length s.1) rfl (by omega) bf λp s aq he bf=>?_;obtain ⟨L,i⟩:=s;simp only at he bf ⊢;subst he;rw [et p (by omega)];refine Tot.bt (λFu=>?_) (λdF=>.al bf);have Fu:p<g.bx.length:=by omega
 have kF:=List.getElem_mem Fu;rw [dN Fu];generalize g.bx[p]=q at *;have a8:=aP.gx q kF;have CC:=aP.aF q kF;have lQ:=QE aP kF eV;simp only [Option.bind_some];refine .aA (Ξ:=λr:List (List Int)=>r.length=c5.length/\Sets c5.length r) ?_ λr hr=>.al ⟨Fu,rfl,hr⟩;refine Tot.bM (λ_=>.al bf) (λ_=>.aA (Ξ:=λr:List (List Int)=>r.length=c5.length/\Sets c5.length r) ?_ λr hr=>.al hr);refine Tot.upto (λs=>s.2) q.dD.length (λk s=>s.1.length=c5.length/\Sets c5.length s.1) rfl (by omega) bf λj s ag he bf=>?_;obtain ⟨L,i⟩:=s;simp only at he bf ⊢;subst he;rw [et j (by omega)];refine Tot.bt (λfT=>?_) (λdF=>.al bf);have fT:j<q.dD.length:=by omega
 rw [dN fT];generalize q.dD[j]=y at *;simp only [Option.bind_some];refine .aA (Ξ:=λr:List (List Int)=>r.length=c5.length/\Sets c5.length r) ?_ λr hr=>.al ⟨fT,rfl,hr⟩;refine .aA (Ξ:=λ_=>True) (Tot.bt (λ_=>.al trivial) (λ_=>?_)) λc _=>Tot.bM (λ_=>.al bf) (λ_=>?_)
 ·refine .aA (Ξ:=λr=>r=q.dD.drop (j+1)) (Tot.sub ⟨by omega,by omega,by omega⟩ ?_) λr hr=>?_
  ·rw [List.take_of_length_le]
   ·congr 1
   ·rw [List.length_drop]; omega
  ·subst hr;exact .aA (M4 B _ (by rw [List.length_drop]; omega) (λs aw=>lQ s (List.mem_of_mem_drop aw)) (by omega)) λ_ _=>.al trivial
 refine .aA (Ξ:=λr=>r.length<=8) (Tot.sub ⟨by omega,by omega,by omega⟩ (by rw [List.length_take,List.length_drop]; omega)) λr hr=>?_;obtain ⟨st,_,bU,_⟩:=fA;have J2:=j6 bU;refine .aA (M0 hm t.State r ⟨by omega,J2.2.1⟩ (by omega)) λz aX=>?_;refine .aA (Ξ:=λr:List (List Int)=>r.length=c5.length/\Sets c5.length r) (Tot.bM (λ_=>?_) (λ_=>.al bf)) λr hr=>.al hr;refine .aA (By c5 z y xy) λn aB=>?_;refine .aA (Ξ:=λr:List (List Int)=>r.length=c5.length/\Sets c5.length r) (Tot.bt (λaK=>?_) (λ_=>.al bf)) λr hr=>.al hr;obtain ⟨AW,zO,zQ⟩:=nD (l:=L) aK (by rw [bf.1]; exact aB.2.1);rw [zO];refine Tot.aV (.aA ((bf.2 AW zQ).put (by omega) ⟨by omega,by omega⟩) λc' dG=>.al (acf bf zO dG.1))
theorem TV (g:bD) (aP:fZ g) {m:List State}(hm:ng g m):Tot (AS g m) λr=>∃ c5,qG m=some c5/\wI m c5/\r.length=c5.length/\Sets g.br.length r:=by
 have ar:=aP.k9;unfold AS;refine .aA (TB g aP hm) λuJ h1=>?_;obtain ⟨c5,qi,hM,zI,xv⟩:=h1;have xy:=hM.n;refine .aA (TC g aP hm qi hM) λhE af=>.aA (MZ g.br.length (by omega) uJ hE (by omega) (by omega) xv (by rw [zI]; exact af.2)) λwg aD=>?_;refine .aA (TD g aP hm qi hM) λym bm=>.aA (MZ g.br.length (by omega) wg ym (by omega) (by omega) aD.2 (by rw [aD.1,zI]; exact bm.2)) λGx b7=>?_;exact .al ⟨c5,qi,hM,by omega,b7.2⟩
def oX (g:bD) (p:Int):Prop:=0<p/\p<g.bx.length
theorem TW (g:bD) (aP:fZ g) {m:List State}(hm:ng g m) {c5:List Trans}(qi:qG m=some c5) (hM:wI m c5) (q p:Int):Tot (DT g m q p) λr=>r.length<=9600/\∀ x∈r,0<=x/\x<c5.length:=by
 have xy:=hM.n;have sh:=aP.jt;have ri:=aP.eW;unfold DT;refine .aA (Ξ:=λc:Bool=>c=false->0<=p/\p<g.bx.length) (Tot.bt (λ_=>.al λh=>by cases h) (λ_=>Tot.bt (λ_=>.al λh=>by cases h) (λ_=>Tot.bt (λ_=>.al λh=>by cases h) (λh=>.al λaJ=>by have:=of_decide_eq_false aJ; omega)))) λc aa=>Tot.bM (λ_=>.al ⟨Nat.zero_le _,λx h=>by cases h⟩) (λh=>?_);obtain ⟨aK,h1⟩:=aa h;rw [qi];refine Tot.aV ?_;refine .aA (Ξ:=λr:List Int=>r.length<=9600/\∀ x∈r,0<=x/\x<c5.length) ?_ λr hr=>.al hr;obtain ⟨gx,FA,JY⟩:=nD aK h1;have CC:=aP.aF gx JY;refine Tot.upto (λs=>s.2) c5.length (λk s=>s.1.length<=k/\∀ x∈s.1,0<=x/\x<c5.length) rfl (by omega) ⟨Nat.le_refl 0,λp h=>by cases h⟩ λk s hk he bf=>?_;obtain ⟨L,i⟩:=s;obtain ⟨af,aD⟩:=bf;simp only at he af aD ⊢;subst he;rw [et k (by omega)];refine Tot.bt (λaN=>?_) (λdF=>.al ⟨by show L.length<=_; omega,aD⟩);have aN:k<c5.length:=by omega
 have fA:=hM.ok _ (List.getElem_mem aN);rw [dN aN,FA];generalize c5[k]=t at *;obtain ⟨st,_,bU,_⟩:=fA;have J2:=j6 bU;simp only [Option.bind_some];refine .aA (Ξ:=λL:List Int=>L.length<=k+1/\∀ x∈L,0<=x/\x<c5.length) ?_ λr hr=>.al ⟨aN,rfl,hr⟩;refine .aA (Ξ:=λ_=>True) (Tot.bt (λh=>?_) (λ_=>.al trivial)) λc aa=>?_
 ·exact .aA (M0 hm t.State gx.dD ⟨by omega,J2.2.1⟩ (by omega)) λ_ _=>.al trivial
 refine .aA (Ξ:=λL:List Int=>L.length<=k+1/\∀ x∈L,0<=x/\x<c5.length) (Tot.bM (λh=>?_) (λ_=>.al ⟨by omega,aD⟩)) λr hr=>.al hr;refine .bK<|.al ⟨by simp; omega,λp aq=>?_⟩;rcases List.mem_append.1 aq with aq | aq
 ·exact aD p aq
 ·rw [List.mem_singleton.1 aq]; exact ⟨by omega,by omega⟩
structure y1 (g:bD) (l:lD):Prop where
 p:oX g l.Prod
 t:jf g.br.length l.br
def oe (c:Cell):Nat:=c.bx.length+(if 0<=c.kR then 1 else 0)+(if c.nK then 1 else 0)
theorem abg {x:Option Int}{c:Cell}(ah:c.bx.length<=1000) (e:x=(((bif decide (0<=c.kR) then
some (aG ((c.bx.length:Int)+1))
else
some (c.bx.length:Int))).bind λlr =>
((bif c.nK then
some (aG (lr+1))
else
some lr)).bind λhC =>
some hC)):x=some (oe c:Int):=by
 subst e;have hw:aG ((c.bx.length:Int)+1)=(c.bx.length:Int)+1:=by rw [cB]; omega
 have Kb:aG ((c.bx.length:Int)+1+1)=(c.bx.length:Int)+1+1:=by rw [cB]; omega
 unfold oe;by_cases h:0<=c.kR
 ·cases af:c.nK <;> simp [h,hw,Kb]
 ·cases af:c.nK <;> simp [h,hw]
theorem Nj (c:Cell) (ah:c.bx.length<=1000):AM c=some (oe c:Int):=abg ah (by unfold AM; rfl)
structure pr (g:bD) (n:Nat) (c:Cell):Prop where
 s:0<=c.State/\c.State<n
 t:0<=c.b4/\c.b4<g.br.length
 f:-1<=c.kR/\c.kR<n
 p:e_ iK c.bx
 q:∀ p∈c.bx,oX g p
 Rq:0<oe c
theorem pr.len {g:bD}(aP:fZ g) {n:Nat}{c:Cell}(h:pr g n c):c.bx.length<=60:=by
 have:=aP.jt;have:=jf.len (T:=g.bx.length) ⟨h.p,λx J=>⟨by have:=(h.q x J).1; omega,(h.q x J).2⟩⟩;omega
def yM (a b:Cell):Prop:=a.State<b.State\/(a.State=b.State/\a.b4<b.b4)
structure A_ (g:bD) (n:Nat) (l:List Cell):Prop where
 ok:∀ c∈l,pr g n c
 afw:l.Pairwise yM
 n:l.length<=6000
theorem f128 (m:List State) (k:List Item) (aK:m.length<=1000) (h1:∀ st∈m,st.Kernel.length<=1000000):Tot (Dr m k) λr=>-1<=r/\r<m.length/\(0<=r->∃ st,m[r.toNat]?=some st/\st.Kernel=k):=by
 unfold Dr;refine .aA (Ξ:=h0 (λ_=>True) (λr:Int=>0<=r/\r<m.length/\∃ st,m[r.toNat]?=some st/\st.Kernel=k)) ?_ λx J=>?_
 ·refine Tot.upto (λs=>s) m.length (λ_ _=>True) rfl (by omega) trivial λj s ag he _=>?_;subst he;rw [et j (by omega)];refine Tot.bt (λaN=>?_) (λdF=>.al trivial);have aN:j<m.length:=by omega
  rw [dN aN];refine Tot.aV (.aA (TH _ k (h1 _ (List.getElem_mem aN))) λc aa=>Tot.bM (λh=>.al ⟨by omega,by omega,m[j],?_,aa.1 h⟩) (λh=>.al ⟨aN,rfl,trivial⟩));rw [Int.toNat_natCast]; exact List.getElem?_eq_getElem aN
 ·rcases x with x | x
  ·exact .al ⟨by omega,by omega,λh=>by omega⟩
  ·have J:0<=x/\x<m.length/\∃ st,m[x.toNat]?=some st/\st.Kernel=k:=J;exact .al ⟨by omega,by omega,λ_=>J.2.2⟩
structure jW (g:bD) (m:List State) (q j:Nat):Prop where
 k0:∃ st,m[0]?=some st/\st.Kernel=[(⟨0,0⟩:Item)]
 aS:∀ (i:Nat) (st:State),m[i]?=some st->∀ v∈st.dW,(∃ (t:Nat) (u:State),v.rY=(t:Int)/\m[t]?=some u/\∀ y,y∈u.Kernel↔p7 g st.Kernel v.Sym y)/\∃ y,p7 g st.Kernel v.Sym y
 dv:∀ (i:Nat) (st:State),m[i]?=some st->∀ (k:Nat) (s:Int),(syms g)[k]?=some s->(i<q\/(i=q/\k<j))->∀ y,p7 g st.Kernel s y->∃ v∈st.dW,v.Sym=s
theorem jW.skip {g:bD}{m:List State}{q j:Nat}(h:jW g m q j) {st:State}{s:Int}(a8:m[q]?=some st) (aw:(syms g)[j]?=some s) (aB:∀ y,¬ p7 g st.Kernel s y):jW g m q (j+1):=by
 refine ⟨h.k0,h.aS,λi u hu k cy hk aa y ao=>?_⟩;by_cases e:i=q/\k=j
 ·obtain ⟨rfl,rfl⟩:=e;rw [a8] at hu; cases hu;rw [aw] at hk; cases hk;exact absurd ao (aB y)
 ·exact h.dv i u hu k cy hk (by omega) y ao
theorem jW.more {g:bD}{m:List State}{q j:Nat}(h:jW g m q j) (ah:q<m.length) (K:List Item):jW g (m++[⟨K,[]⟩]) q j:=by
 have up:∀ {i:Nat}{u:State},m[i]?=some u->(m++[(⟨K,[]⟩:State)])[i]?=some u:=λ{i u} hu=>by
  rw [List.getElem?_append_left (List.getElem?_eq_some_iff.1 hu).1]; exact hu
 have qh:∀ {i:Nat}{u:State},(m++[(⟨K,[]⟩:State)])[i]?=some u->m[i]?=some u\/(m.length<=i/\u=⟨K,[]⟩):=λ{i u} hu=>by
  by_cases e:i<m.length
  ·rw [List.getElem?_append_left e] at hu; exact .inl hu
  ·rw [List.getElem?_append_right (by omega)] at hu;have:=List.mem_of_getElem? hu;exact .inr ⟨by omega,by simpa using this⟩
 refine ⟨?_,λi st hi v hv=>?_,λi st hi k s hk aa y ao=>?_⟩
 ·obtain ⟨st,h1,af⟩:=h.k0;exact ⟨st,up h1,af⟩
 ·rcases qh hi with hi | ⟨_,rfl⟩
  ·obtain ⟨⟨t,u,h1,af,aD⟩,bm⟩:=h.aS i st hi v hv;exact ⟨⟨t,u,h1,up af,aD⟩,bm⟩
  ·cases hv
 ·rcases qh hi with hi | ⟨aJ,rfl⟩
  ·exact h.dv i st hi k s hk aa y ao
  ·omega
theorem jW.put {g:bD}{m:List State}{q j:Nat}(h:jW g m q j) {st u:State}{s:Int}{t:Nat}(a8:m[q]?=some st) (aw:(syms g)[j]?=some s) (eA:(syms g).Nodup) (ar:m[t]?=some u) (hu:∀ y,y∈u.Kernel↔p7 g st.Kernel s y) (cO:∃ y,p7 g st.Kernel s y):jW g (m.set q ⟨st.Kernel,st.dW++[⟨s,(t:Int)⟩]⟩) q (j+1):=by
 have kF:=(List.getElem?_eq_some_iff.1 a8).1;have Fa:∀ {i:Nat}{w:State},m[i]?=some w->∃ w',(m.set q ⟨st.Kernel,st.dW++[⟨s,(t:Int)⟩]⟩)[i]?=some w'/\w'.Kernel=w.Kernel:=λ{i w} hw=>by
  rw [pY kF];by_cases e:i=q
  ·subst e;rw [a8] at hw; cases hw;exact ⟨_,if_pos rfl,rfl⟩
  ·exact ⟨w,by rw [if_neg e]; exact hw,rfl⟩
 refine ⟨?_,λi w hi v hv=>?_,λi w hi k cy hk aa y ao=>?_⟩
 ·obtain ⟨w,h1,af⟩:=h.k0;obtain ⟨w',aD,bm⟩:=Fa h1;exact ⟨w',aD,bm.trans af⟩
 ·rw [pY kF] at hi;by_cases e:i=q
  ·subst e;rw [if_pos rfl] at hi; cases hi;rcases List.mem_append.1 hv with hv | hv
   ·obtain ⟨⟨t',sK,h1,af,aD⟩,bm⟩:=h.aS i st a8 v hv;obtain ⟨sL,b7,dp⟩:=Fa af;exact ⟨⟨t',sL,h1,b7,dp ▸ aD⟩,bm⟩
   ·rw [List.mem_singleton.1 hv];obtain ⟨sL,b7,dp⟩:=Fa ar;exact ⟨⟨t,sL,rfl,b7,dp ▸ hu⟩,cO⟩
  ·rw [if_neg e] at hi;obtain ⟨⟨t',sK,h1,af,aD⟩,bm⟩:=h.aS i w hi v hv;obtain ⟨sL,b7,dp⟩:=Fa af;exact ⟨⟨t',sL,h1,b7,dp ▸ aD⟩,bm⟩
 ·rw [pY kF] at hi;by_cases e:i=q
  ·subst e;rw [if_pos rfl] at hi; cases hi;by_cases Iw:k=j
   ·subst Iw;rw [aw] at hk; cases hk;exact ⟨_,List.mem_append.2 (.inr (List.mem_singleton.2 rfl)),rfl⟩
   ·obtain ⟨v,hv,e⟩:=h.dv i st a8 k cy hk (by omega) y ao;exact ⟨v,List.mem_append.2 (.inl hv),e⟩
  ·rw [if_neg e] at hi;exact h.dv i w hi k cy hk (by omega) y ao
theorem jW.next {g:bD}{m:List State}{q:Nat}(h:jW g m q (syms g).length):jW g m (q+1) 0 :=
 ⟨h.k0,h.aS,λi st hi k s hk aa y ao=>h.dv i st hi k s hk (by have:=(List.getElem?_eq_some_iff.1 hk).1; omega) y ao⟩
theorem ZD (g:bD) (aW:fZ g):Tot (AR g) λr=>(r.2=0/\ng g r.1/\jW g r.1 r.1.length 0)\/r.2=4:=by
 have cU:=aW.k9;have bp:=aW.eW;have bQ:=aW.jt;unfold AR;refine Tot.aA (MY g aW) λaR h1=>?_;subst h1;have fK:=aa3 g;refine Tot.aA (Ξ:=h0 (λm=>nL g m m.length 0/\jW g m m.length 0) (λr:List State × Int=>r.2=4)) ?_ λx J=>?_
 ·refine Tot.loop (λs=>∃ q:Nat,s.2=(q:Int)/\q<=s.1.length/\nL g s.1 q 0/\jW g s.1 q 0) (λs=>151 - s.2.toNat) ⟨0,rfl,Nat.zero_le _,⟨by simp,by simp,λs aw=>?_,λi s aw=>?_,λs aw v hv=>?_⟩,⟨_,rfl,rfl⟩,λi s aw v hv=>?_,λi s aw k cy hk aa=>?_⟩ (by show 151 - 0<1000000000000000000; omega) λs bU=>?_
  ·rw [List.mem_singleton.1 aw];refine ⟨List.pairwise_singleton ..,λx J=>?_⟩;rw [List.mem_singleton.1 J];obtain ⟨q,a8⟩:∃ q,g.bx[0]?=some q:=⟨g.bx[0]'(by omega),List.getElem?_eq_getElem _⟩;exact Pm (p:=0) a8
  ·have:=List.mem_of_getElem? aw;rw [List.mem_singleton.1 this]; exact List.nil_sublist _
  ·rw [List.mem_singleton.1 aw] at hv; cases hv
  ·have:=List.mem_of_getElem? aw;rw [List.mem_singleton.1 this] at hv; cases hv
  ·omega
  obtain ⟨q,he,a8,B0,jG⟩:=bU;obtain ⟨m,i⟩:=s;simp only at he a8 B0 jG ⊢;subst he;have xp:=B0.nF;rw [et q (by omega)];refine Tot.bt (λaN=>?_) (λdF=>.al ?_)
  ·have aN:q<m.length:=by omega
   rw [dN aN];have cZ:=B0.pT _ (List.getElem_mem aN);obtain ⟨Sh,I0⟩:∃ K,K=m[q].Kernel:=⟨_,rfl⟩;refine Tot.aV (Tot.aA (HR g aW _ (by have:=cZ.len aW; omega)) λc aa=>?_);have hK:=tK aW aa.1 λx J=>((aa.2 x).1 J).iH;refine Tot.aA (Ξ:=λl:List Int=>l.length<=1000/\∀ a,a∈l↔∃ x∈c,gw g x=a/\0<=a) ?_ λSG N9=>?_
   ·refine Tot.upto (λs=>s.2) c.length (λk s=>e_ iK s.1/\s.1.length<=k/\∀ a,a∈s.1↔∃ x∈c.take k,gw g x=a/\0<=a) rfl (by omega) ⟨.nil,Nat.le_refl 0,λa=>by simp⟩ λk s hk he bf=>?_;obtain ⟨l,i⟩:=s;obtain ⟨g1,g2,g3⟩:=bf;simp only at he g1 g2 g3 ⊢;subst he;rw [et k (by omega)];refine Tot.bt (λaN=>?_) (λdF=>.al ⟨by omega,λa=>by rw [List.take_of_length_le (by omega)] at g3; exact g3 a⟩);have aN:k<c.length:=by omega
    have fA:=l2 aN;rw [dN aN];generalize c[k]=x at *;refine .aA (Ξ:=λl:List Int=>e_ iK l/\l.length<=k+1/\∀ a,a∈l↔∃ x∈c.take (k+1),gw g x=a/\0<=a) ?_ λo aW=>.al ⟨aN,rfl,aW⟩;refine Tot.aV ?_;rw [Im g _];refine Tot.aV (.aA (Ξ:=λl:List Int=>e_ iK l/\l.length<=k+1/\∀ a,a∈l↔∃ x∈c.take (k+1),gw g x=a/\0<=a) ?_ λo aW=>.al aW);refine Tot.bt (λaq=>.aA (E3 l (gw g x) g1 (by omega)) λr hr=>.al ⟨hr.1,by have:=hr.2.1; omega,λa=>?_⟩) (λaq=>.al ⟨g1,by omega,λa=>?_⟩)
    ·rw [hr.2.2,g3,fA];constructor
     ·rintro (⟨z,aX,h⟩ | rfl)
      ·exact ⟨z,List.mem_append.2 (.inl aX),h⟩
      ·exact ⟨x,List.mem_append.2 (.inr (by simp)),rfl,aq⟩
     ·rintro ⟨z,aX,h⟩;rcases List.mem_append.1 aX with aX | aX
      ·exact .inl ⟨z,aX,h⟩
      ·rw [List.mem_singleton.1 aX] at h;exact .inr h.1.symm
    ·rw [g3,fA];constructor
     ·rintro ⟨z,aX,h⟩;exact ⟨z,List.mem_append.2 (.inl aX),h⟩
     ·rintro ⟨z,aX,h⟩;rcases List.mem_append.1 aX with aX | aX
      ·exact ⟨z,aX,h⟩
      ·rw [List.mem_singleton.1 aX] at h;omega
   ·refine Tot.aA (Ξ:=h0 (λm=>nL g m q (syms g).length/\q<m.length/\jW g m q (syms g).length) (λr:List State × Int=>r.2=4)) ?_ λx J=>?_
    ·refine Tot.upto (λs=>s.2) (syms g).length (λk s=>nL g s.1 q k/\q<s.1.length/\jW g s.1 q k/\∃ u,s.1[q]?=some u/\u.Kernel=Sh) rfl (by omega) ⟨B0,aN,jG,_,List.getElem?_eq_getElem aN,I0.symm⟩ λk s hk he bf=>?_;obtain ⟨m,i⟩:=s;obtain ⟨tX,kF,B2,Rw,CJ,CK⟩:=bf;simp only at he tX kF B2 CJ ⊢;subst he;rw [et k (by omega)];have vA:=tX.nF;refine Tot.bt (λaN=>?_) (λdF=>.al ?_)
     ·have aN:k<(syms g).length:=by omega
      have qu:=List.getElem_mem aN;have n0:(syms g)[k]?=some (syms g)[k]:=List.getElem?_eq_getElem aN;rw [dN aN];generalize (syms g)[k]=s at *;refine Tot.aV (Tot.aA (sW SG s (by omega)) λb8 xi=>?_);refine Tot.bM (λCf=>.al ⟨aN,rfl,tX.mono (by omega),kF,B2.skip CJ n0 λy ao=>?_,Rw,CJ,CK⟩) (λCf=>?_)
      ·obtain ⟨x,gE,gF,hb,_⟩:=ao;rw [CK,I0] at gE;have:=xi.2 ((N9.2 s).2 ⟨x,(aa.2 x).2 gE,gF,hb⟩);simp [this] at Cf
      have mL:m[q]?=some m[q]:=List.getElem?_eq_getElem kF;have cZ:=tX.pT _ (List.getElem_mem kF);rw [dN kF];generalize m[q]=st at *;obtain rfl:st=Rw:=by rw [mL] at CJ; exact Option.some.inj CJ
      have cO:∃ y,p7 g st.Kernel s y:=by
       have:b8=true:=by simpa using Cf
       obtain ⟨x,gE,gF,hb⟩:=(N9.2 s).1 (xi.1 this);exact ⟨_,x,by rw [CK,I0]; exact (aa.2 x).1 gE,gF,hb,rfl⟩
      refine Tot.aV (Tot.aV (Tot.aA (TA g aW st.Kernel s (by have:=cZ.len aW; omega)) λyW zx=>?_));have ig:yX g yW:=⟨zx.1,λy ao=>((zx.2 y).1 ao).iH aW⟩;refine Tot.aA (f128 m yW (by omega) λt ar=>by have:=(tX.pT t ar).len aW; omega) λz aX=>?_;have X0:=(tX.ms q st mL).length_le;rw [if_neg (by omega),if_pos rfl,List.length_map,List.length_take] at X0;refine Tot.bt (λCs=>Tot.bt (λ_=>.al rfl) (λOI=>?_)) (λpO=>?_)
      ·refine .bK<|?_;have We:=tX.more (by omega) ig;have Jw:(m++[(⟨yW,[]⟩:State)])[q]?=some st:=by rw [List.getElem?_append_left kF]; exact mL
       have Ck:idx (m++[(⟨yW,[]⟩:State)]) (q:Int)=some st:=by simp only [idx,if_pos (show (0:Int)<=(q:Int) by omega),Int.toNat_natCast]; exact Jw
       rw [Ck];refine Tot.aV (Tot.aV ?_);refine .bK<|.al ⟨aN,rfl,?_⟩;rw [Int.toNat_natCast];refine ⟨We.put Jw ⟨qu,by show (0:Int)<=(m.length:Int); omega,by show (m.length:Int)<_; simp; omega⟩ n0,by show q<(List.set _ _ _).length; rw [List.length_set]; simp; omega,?_,⟨st.Kernel,st.dW++[⟨s,(m.length:Int)⟩]⟩,?_,CK⟩
       ·exact (B2.more kF yW).put (u:=⟨yW,[]⟩) (t:=m.length) Jw n0 (LG aW) (by rw [List.getElem?_append_right (Nat.le_refl _),Nat.sub_self]; rfl) zx.2 cO
       ·rw [pY (by simp; omega),if_pos rfl]
      ·refine Tot.aV (Tot.aV ?_);refine .bK<|.al ⟨aN,rfl,?_⟩;rw [Int.toNat_natCast];obtain ⟨w,Ka,Kb⟩:=aX.2.2 (by omega);refine ⟨tX.put mL ⟨qu,by show 0<=z; omega,aX.2.1⟩ n0,by show q<(List.set _ _ _).length; rw [List.length_set]; exact kF,?_,⟨st.Kernel,st.dW++[⟨s,z⟩]⟩,?_,CK⟩
       ·have:=B2.put (u:=w) (t:=z.toNat) mL n0 (LG aW) Ka (by rw [Kb]; exact zx.2) cO
        rwa [show ((z.toNat:Nat):Int)=z by omega] at this
       ·rw [pY kF,if_pos rfl]
     ·have:k=(syms g).length:=by omega
      subst this;exact ⟨tX,kF,B2⟩
    ·rcases x with x | x
     ·obtain ⟨h1,af,aD⟩:=J;refine .al ⟨⟨q+1,rfl,af,h1.next,aD.next⟩,?_⟩;show 151 - ((q+1:Nat):Int).toNat<151 - (q:Int).toNat;omega
     ·exact .al J
  ·have:q=m.length:=by omega
   subst this;exact ⟨B0,jG⟩
 ·rcases x with x | x
  ·have Wj:jW g x x.length 0:=J.2;have J:nL g x x.length 0:=J.1;have key:∀ st∈x,(st.dW.map (·.Sym)).Sublist (syms g):=λst bU=>by
    obtain ⟨i,hi⟩:=List.getElem?_of_mem bU;have:=J.ms i st hi;rw [if_pos (List.getElem?_eq_some_iff.1 hi).1] at this;exact this
   refine .al (.inl ⟨rfl,⟨J.gJ,J.nF,J.pT,λst bU=>?_,λst bU=>(key st bU).nodup (LG aW),J.aS⟩,Wj⟩);have:=(key st bU).length_le;rw [List.length_map] at this; omega
  ·exact .al (.inr J)
def yN (g:bD) (K:List Item) (p:Int):Prop:=∃ r,idx g.bx p=some r/\l7 g K ⟨p,r.dD.length⟩
def oh (g:bD) (m:List State) (q p:Int):Prop:=∃ st,idx m q=some st/\yN g st.Kernel p
structure tw (g:bD) (m:List State) (c:Cell):Prop where
 T2:∀ p∈c.bx,oh g m c.State p
 dO:GoTo m c.State c.b4 c.kR
 ac:c.nK=true->∃ st,idx m c.State=some st/\(⟨0,1⟩:Item)∈st.Kernel
theorem ZE (g:bD) (aP:fZ g) (K:List Item) (ah:K.length<=1000000):Tot (DS g K) λr=>r.length<=540/\∀ p∈r,oX g p/\yN g K p:=by
 unfold DS;refine .aA (HR g aP K ah) λc Ce=>?_;have hK:=tK aP Ce.1 λx J=>((Ce.2 x).1 J).iH;refine .aA (Ξ:=λr:List Int=>r.length<=540/\∀ p∈r,oX g p/\yN g K p) ?_ λr hr=>.al hr;refine Tot.upto (λs=>s.2) c.length (λk s=>s.1.length<=k/\∀ p∈s.1,oX g p/\yN g K p) rfl (by omega) ⟨Nat.le_refl 0,λp h=>by cases h⟩ λk s hk he bf=>?_;obtain ⟨L,i⟩:=s;obtain ⟨h1,af⟩:=bf;simp only at he h1 af ⊢;subst he;rw [et k (by omega)];refine Tot.bt (λaN=>?_) (λdF=>.al ⟨by show L.length<=_; omega,af⟩);have aN:k<c.length:=by omega
 have Oh:=(Ce.2 _).1 (List.getElem_mem aN);have hi:=Oh.iH;rw [dN aN];generalize c[k]=x at *;obtain ⟨q,a8,aD,bm⟩:=hi;simp only [Option.bind_some];refine .aA (Ξ:=λL:List Int=>L.length<=k+1/\∀ p∈L,oX g p/\yN g K p) ?_ λr hr=>.al ⟨aN,rfl,hr⟩;refine .aA (Ξ:=λc:Bool=>c=true->0<x.Prod/\x.eb=(q.dD.length:Int)) (Tot.bt (λh=>?_) (λ_=>.al λh=>by cases h)) λc aa=>?_
 ·rw [a8]; exact Tot.aV (.al λaJ=>⟨h,of_decide_eq_true aJ⟩)
 refine .aA (Ξ:=λL:List Int=>L.length<=k+1/\∀ p∈L,oX g p/\yN g K p) (Tot.bM (λh=>?_) (λ_=>.al ⟨by omega,af⟩)) λr hr=>.al hr;refine .bK<|.al ⟨by simp; omega,λp aq=>?_⟩;rcases List.mem_append.1 aq with aq | aq
 ·exact af p aq
 ·rw [List.mem_singleton.1 aq];have aO:=aa h;refine ⟨⟨aO.1,(j6 a8).2.1⟩,q,a8,?_⟩;rw [<- aO.2]; exact Oh
theorem ZC (g:bD) (aP:fZ g) {m:List State}(hm:ng g m):Tot (DQ g m) λr=>r.length<=81000/\∀ l∈r,y1 g l/\oh g m l.State l.Prod:=by
 have ar:=aP.k9;have xp:=hm.nF;unfold DQ;refine .aA (TV g aP hm) λF aH=>?_;obtain ⟨c5,qi,hM,aeK,jn⟩:=aH;have xy:=hM.n;refine .aA (Ξ:=λr:List lD=>r.length<=81000/\∀ l∈r,y1 g l/\oh g m l.State l.Prod) ?_ λr hr=>.al hr;refine Tot.upto (λs=>s.2) m.length (λk s=>s.1.length<=540 * k/\∀ l∈s.1,y1 g l/\oh g m l.State l.Prod) rfl (by omega) ⟨Nat.le_refl 0,λp h=>by cases h⟩ λk s hk he bf=>?_;obtain ⟨L,i⟩:=s;obtain ⟨h1,af⟩:=bf;simp only at he h1 af ⊢;subst he;rw [et k (by omega)];refine Tot.bt (λaN=>?_) (λdF=>.al ⟨by show L.length<=_; omega,af⟩);have aN:k<m.length:=by omega
 have cZ:=hm.pT _ (List.getElem_mem aN);have Cm:=dN aN;rw [Cm];generalize m[k]=st at *;refine Tot.aV (.aA (ZE g aP st.Kernel (by have:=cZ.len aP; omega)) λE lk=>?_);obtain ⟨aeI,V5⟩:=lk;refine .aA (Ξ:=λL:List lD=>L.length<=540 * (k+1)/\∀ l∈L,y1 g l/\oh g m l.State l.Prod) ?_ λr hr=>.al ⟨aN,rfl,hr⟩;refine Tot.upto (λs=>s.2) E.length (λj s=>s.1.length<=540 * k+j/\∀ l∈s.1,y1 g l/\oh g m l.State l.Prod) rfl (by omega) ⟨h1,af⟩ λj s ag he bf=>?_;obtain ⟨L,i⟩:=s;obtain ⟨h1,af⟩:=bf;simp only at he h1 af ⊢;subst he;rw [et j (by omega)];refine Tot.bt (λfT=>?_) (λdF=>.al ⟨by show L.length<=_; omega,af⟩);have fT:j<E.length:=by omega
 have aq:=V5 _ (List.getElem_mem fT);rw [dN fT];generalize E[j]=p at *;simp only [Option.bind_some];refine .aA (TW g aP hm qi hM k p) λB eV=>?_;obtain ⟨aeF,V2⟩:=eV;refine .aA (Ξ:=jf g.br.length) ?_ λS bh=>?_
 ·refine Tot.upto (λs=>s.2) B.length (λ_ s=>jf g.br.length s.1) rfl (by omega) .nil λb s au he bf=>?_;obtain ⟨S,i⟩:=s;simp only at he bf ⊢;subst he;rw [et b (by omega)];refine Tot.bt (λzL=>?_) (λdF=>.al bf);have zL:b<B.length:=by omega
  have J:=V2 _ (List.getElem_mem zL);rw [dN zL];generalize B[b]=x at *;obtain ⟨row,rl,zQ⟩:=nD (l:=F) J.1 (by omega);have lp:=jn row zQ;have oI:=lp.len;simp only [Option.bind_some,rl];refine .aA (Ξ:=jf g.br.length) ?_ λS bh=>.al ⟨zL,rfl,bh⟩;refine Tot.upto (λs=>s.2) row.length (λ_ s=>jf g.br.length s.1) rfl (by omega) bf λz s aX he bf=>?_;obtain ⟨S,i⟩:=s;simp only at he bf ⊢;subst he;rw [et z (by omega)];refine Tot.bt (λpM=>?_) (λdF=>.al bf);have pM:z<row.length:=by omega
  rw [dN pM];exact Tot.aV (.aA (bf.put (by omega) (lp.i _ (List.getElem_mem pM))) λr hr=>.al ⟨pM,rfl,hr.1⟩)
 ·refine .bK<|.al ⟨fT,rfl,by simp; omega,λl ah=>?_⟩;rcases List.mem_append.1 ah with ah | ah
  ·exact af l ah
  ·rw [List.mem_singleton.1 ah]; exact ⟨⟨aq.1,bh⟩,st,Cm,aq.2⟩
theorem ZB (g:bD) (aP:fZ g) {m:List State}(hm:ng g m) (ry:List lD) (ah:ry.length<=81000) (hk:∀ l∈ry,y1 g l/\oh g m l.State l.Prod):Tot (DP g m ry) λl=>A_ g m.length l/\∀ c∈l,tw g m c:=by
 have ar:=aP.k9;have xp:=hm.nF;have sh:=aP.jt;unfold DP;refine .aA (Ξ:=λl=>A_ g m.length l/\∀ c∈l,tw g m c) ?_ λr hr=>.al hr;refine Tot.upto (λs=>s.2) m.length (λk s=>s.1.length<=40 * k/\(∀ c∈s.1,pr g m.length c/\tw g m c)/\s.1.Pairwise yM/\∀ c∈s.1,c.State<k) rfl (by omega) ⟨Nat.le_refl 0,λp h=>(by cases h),.nil,λp h=>by cases h⟩ λk s JI he bf=>?_;obtain ⟨L,i⟩:=s;obtain ⟨h1,af,aD,bm⟩:=bf;simp only at he h1 af aD bm ⊢;subst he;rw [et k (by omega)];refine Tot.bt (λaN=>?_) (λdF=>.al ⟨⟨λc aa=>(af c aa).1,aD,by show L.length<=_; omega⟩,λc aa=>(af c aa).2⟩);have aN:k<m.length:=by omega
 have cZ:=hm.pT _ (List.getElem_mem aN);have Cm:=dN aN;rw [Cm];generalize m[k]=st at *;have aeM:=cZ.len aP;refine .aA (Ξ:=λL:List Cell=>L.length<=40 * (k+1)/\(∀ c∈L,pr g m.length c/\tw g m c)/\L.Pairwise yM/\∀ c∈L,c.State<(k+1:Nat)) ?_ λr hr=>.al ⟨aN,rfl,hr⟩;refine Tot.upto (λs=>s.2) g.br.length (λj s=>s.1.length<=40 * k+j/\(∀ c∈s.1,pr g m.length c/\tw g m c)/\s.1.Pairwise yM/\∀ c∈s.1,c.State<k\/(c.State=k/\c.b4<j)) rfl (by omega) ⟨h1,af,aD,λc aa=>.inl (bm c aa)⟩ λj s ag he bf=>?_;obtain ⟨L,i⟩:=s;obtain ⟨h1,af,aD,bm⟩:=bf;simp only at he h1 af aD bm ⊢;subst he;rw [et j (by omega)];refine Tot.bt (λfT=>?_) (λdF=>.al ⟨by show L.length<=_; omega,af,aD,λc aa=>by rcases bm c aa with h | h <;> omega⟩);refine .aA (Ξ:=λL:List Cell=>L.length<=40 * k+(j+1)/\(∀ c∈L,pr g m.length c/\tw g m c)/\L.Pairwise yM/\∀ c∈L,c.State<k\/(c.State=k/\c.b4<(j+1:Nat))) ?_ λr hr=>.al ⟨by omega,rfl,hr⟩;refine .aA (E2 m k j hm.xT) λdO CF=>?_;have XY:=CF.aU hm;refine .aA (Ξ:=λb:Bool=>b=true->(⟨0,1⟩:Item)∈st.Kernel) ?_ λac Fl=>?_
 ·refine Tot.upto (λs=>s.2) st.Kernel.length (λ_ s=>s.1=true->(⟨0,1⟩:Item)∈st.Kernel) rfl (by omega) (λh=>by cases h) λz s aX he bf=>?_;obtain ⟨b,i⟩:=s;simp only at he bf ⊢;subst he;rw [et z (by omega)];simp only [Option.bind_some];refine Tot.bt (λpM=>?_) (λ_=>.al bf);have pM:z<st.Kernel.length:=by omega
  have Kl:=List.getElem_mem pM;rw [dN pM];generalize st.Kernel[z]=y at *;simp only [Option.bind_some];refine .aA (Ξ:=λb:Bool=>b=true->(⟨0,1⟩:Item)∈st.Kernel) (Tot.bM (λau=>.al λ_=>bf au) (λ_=>Tot.bt (λ_=>Tot.bt (λaK=>.al λh1=>?_) (λ_=>.al λh=>by cases h)) (λ_=>.al λh=>by cases h))) λ_ h=>.al ⟨pM,rfl,h⟩;have h1:y.eb=1:=of_decide_eq_true h1;have:y=⟨0,1⟩:=by cases y; simp only at aK h1; rw [aK,h1]
  rw [<- this]; exact Kl
 refine .aA (Ξ:=λP:List Int=>e_ iK P/\∀ p∈P,oX g p/\oh g m k p) ?_ λP bQ=>?_
 ·refine Tot.upto (λs=>s.2) ry.length (λ_ s=>e_ iK s.1/\∀ p∈s.1,oX g p/\oh g m k p) rfl (by omega) ⟨.nil,λp h=>by cases h⟩ λz s aX he bf=>?_;obtain ⟨P,i⟩:=s;obtain ⟨g1,g2⟩:=bf;simp only at he g1 g2 ⊢;subst he;rw [et z (by omega)];refine Tot.bt (λpM=>?_) (λdF=>.al ⟨g1,g2⟩);have pM:z<ry.length:=by omega
  have fK:=hk _ (List.getElem_mem pM);rw [dN pM];generalize ry[z]=l at *;have J5:=fK.1.t.len;have Wi:=jf.len (T:=g.bx.length) ⟨g1,λx J=>⟨by have:=(g2 x J).1.1; omega,(g2 x J).1.2⟩⟩;simp only [Option.bind_some];refine .aA (Ξ:=λP:List Int=>e_ iK P/\∀ p∈P,oX g p/\oh g m k p) ?_ λr hr=>.al ⟨pM,rfl,hr⟩;refine .aA (Ξ:=λb:Bool=>b=true->l.State=(k:Int)) (Tot.bt (λh=>.aA (sW l.br j (by omega)) λ_ _=>.al λ_=>h) (λ_=>.al λh=>by cases h)) λc eS=>?_;refine .aA (Ξ:=λP:List Int=>e_ iK P/\∀ p∈P,oX g p/\oh g m k p) (Tot.bM (λxi=>?_) (λ_=>.al ⟨g1,g2⟩)) λr hr=>.al hr;refine .aA (E3 P l.Prod g1 (by omega)) λr hr=>.al ⟨hr.1,λp aq=>?_⟩;rcases (hr.2.2 p).1 aq with h | rfl
  ·exact g2 p h
  ·exact ⟨fK.1.p,by have:=fK.2; rwa [eS xi] at this⟩
 ·have Wi:=jf.len (T:=g.bx.length) ⟨bQ.1,λx J=>⟨by have:=(bQ.2 x J).1.1; omega,(bQ.2 x J).1.2⟩⟩;rw [Nj _ (by show P.length<=_; omega)];refine Tot.aV (.aA (Ξ:=λL:List Cell=>L.length<=40 * k+(j+1)/\(∀ c∈L,pr g m.length c/\tw g m c)/\L.Pairwise yM/\∀ c∈L,c.State<k\/(c.State=k/\c.b4<(j+1:Nat))) (Tot.bt (λaK=>?_) (λ_=>.al ⟨by omega,af,aD,λc aa=>by rcases bm c aa with h | h <;> omega⟩)) λr hr=>.al hr);refine .bK<|.al ⟨by simp; omega,λc aa=>?_,List.pairwise_append.2 ⟨aD,List.pairwise_singleton ..,λa aI b au=>?_⟩,λc aa=>?_⟩
  ·rcases List.mem_append.1 aa with aa | aa
   ·exact af c aa
   ·rw [List.mem_singleton.1 aa];exact ⟨⟨⟨by show (0:Int)<=k; omega,by show (k:Int)<_; omega⟩,⟨by show (0:Int)<=j; omega,by show (j:Int)<_; omega⟩,XY,bQ.1,λp aq=>(bQ.2 p aq).1,by omega⟩,λp aq=>(bQ.2 p aq).2,CF,λh=>⟨st,Cm,Fl h⟩⟩
  ·rw [List.mem_singleton.1 au];rcases bm a aI with h | h
   ·exact .inl h
   ·exact .inr h
  ·rcases List.mem_append.1 aa with aa | aa
   ·rcases bm c aa with h | h
    ·exact .inl h
    ·exact .inr ⟨h.1,by omega⟩
   ·rw [List.mem_singleton.1 aa];exact .inr ⟨rfl,by show (j:Int)<_; omega⟩
def oi (m:List State) (s x cy:Int):Prop:=∃ st v,idx m s=some st/\v∈st.dW/\v.Sym=x/\v.rY=cy
def rU (g:bD) (m:List State) (s:Int) (x:Item):Prop:=∃ st,idx m s=some st/\l7 g st.Kernel x
theorem FN {α:Type}{m:List α}{s:Int}{x:α}(h:idx m s=some x):∃ i:Nat,s=(i:Int)/\m[i]?=some x:=by
 obtain ⟨aK,h1,af⟩:=mi h;exact ⟨s.toNat,by omega,af⟩
theorem l7.dot {g:bD}{K:List Item}{x:Item}(h:l7 g K x) (aO:x.eb≠0):x∈K:=by
 cases h with
 | base h _=>exact h
 | step _ _ _ _=>exact absurd rfl aO
theorem oi.Px {g:bD}{m:List State}{n:Nat}(jG:jW g m n 0) {s x cy:Int}(h:oi m s x cy):∃ st u,idx m s=some st/\idx m cy=some u/\∀ y,y∈u.Kernel↔p7 g st.Kernel x y:=by
 obtain ⟨st,v,h1,af,rfl,rfl⟩:=h;obtain ⟨i,rfl,hi⟩:=FN h1;obtain ⟨⟨t,u,aD,bm,b7⟩,_⟩:=jG.aS i st hi v af;exact ⟨st,u,h1,by rw [aD]; simp [idx,bm],b7⟩
theorem oi.back {g:bD}{m:List State}{n:Nat}(jG:jW g m n 0) {s x cy p k:Int}(h:oi m s x cy) (aa:rU g m cy ⟨p,k⟩) (hk:1<=k):gw g ⟨p,k - 1⟩=x/\rU g m s ⟨p,k - 1⟩:=by
 obtain ⟨st,u,h1,af,aD⟩:=h.Px jG;obtain ⟨sK,bm,b7⟩:=aa;rw [af] at bm; cases bm;obtain ⟨y,ao,aB,_,e⟩:=(aD _).1 (b7.dot (show k≠0 by omega));have b9:p=y.Prod:=congrArg Item.Prod e;have b3:k=y.eb+1:=congrArg Item.eb e;have:(⟨p,k - 1⟩:Item)=y:=by
  cases y; simp only at b9 b3; rw [b9,b3]; congr 1; omega
 rw [this];exact ⟨aB,st,h1,ao⟩
theorem rU.zero {g:bD}{m:List State}{n:Nat}(jG:jW g m n 0) {x:Item}(h:rU g m 0 x):x.eb=0:=by
 obtain ⟨st,h1,af⟩:=h;obtain ⟨uR,aD,bm⟩:=jG.k0;have:idx m 0=some uR:=by simp [idx,aD]
 rw [h1] at this; cases this;cases af with
 | base h _=>rw [bm,List.mem_singleton] at h; rw [h]
 | step _ _ _ _=>rfl
theorem rU.VB {g:bD}(aP:fZ g) {m:List State}(jG:jW g m m.length 0) {s p:Int}(aw:s=0\/∃ a x,oi m a x s) (h:rU g m s ⟨p,0⟩) (aq:p≠0) {r:Prod}(hr:idx g.bx p=some r):∃ cy,oi m s (1000+r.Left) cy:=by
 obtain ⟨st,h1,af⟩:=h;obtain ⟨i,rfl,hi⟩:=FN h1;generalize J:(⟨p,0⟩:Item)=x at af;cases af with
 | base h _ =>
  exfalso;rcases aw with aw | ⟨a,y,aw⟩
  ·obtain ⟨uR,aD,bm⟩:=jG.k0;have:i=0:=by omega
   subst this;rw [aD] at hi; cases hi;rw [bm,List.mem_singleton] at h;rw [h] at J;exact aq (congrArg Item.Prod J)
  ·obtain ⟨uR,u,aD,bm,b7⟩:=aw.Px jG;rw [h1] at bm; cases bm;obtain ⟨z,aX,_,_,e⟩:=(b7 _).1 h;rw [<- J] at e;have b3:(0:Int)=z.eb+1:=congrArg Item.eb e;obtain ⟨q,_,dp,_⟩:=aX.iH;omega
 | @step y q k h a8 aB aK =>
  have b9:p=(k:Int):=congrArg Item.Prod J;have:r=q:=by
   rw [b9] at hr;have:idx g.bx (k:Int)=some q:=by simp [idx,a8]
   rw [hr] at this; exact Option.some.inj this
  subst this;have mN:p7 g st.Kernel (1000+r.Left) ⟨y.Prod,y.eb+1⟩:=⟨y,h,aB,by omega,rfl⟩;obtain ⟨_,j4,_⟩:=Ge aP (x:=y) (by omega);have mM:(1000+r.Left)∈syms g:=by
   rw [PK];have:=aP.eW;have:=aP.k9;rw [aB] at j4;rcases j4 with aJ | aJ
   ·omega
   ·exact .inr (by omega)
  obtain ⟨j,ag⟩:=List.getElem?_of_mem mM;obtain ⟨v,hv,e⟩:=jG.dv i st hi j _ ag (.inl (List.getElem?_eq_some_iff.1 hi).1) _ mN;exact ⟨v.rY,st,v,h1,hv,e,rfl⟩
structure mC (m:List State) (st xs:List Int):Prop where
 len:st.length=xs.length+1
 z:st[0]?=some 0
 e:∀ (i:Nat) (a x b:Int),st[i]?=some a->xs[i]?=some x->st[i+1]?=some b->oi m a x b
theorem mC.start {m:List State}:mC m [0] []:=⟨rfl,rfl,λi a x b _ h _=>by simp at h⟩
theorem mC.take {m:List State}{st xs:List Int}(h:mC m st xs) {n:Nat}(aB:n<=xs.length):mC m (st.take (n+1)) (xs.take n):=by
 refine ⟨by have:=h.len; simp; omega,by rw [List.getElem?_take]; simp [h.z],λi a x b h1 af aD=>?_⟩;rw [List.getElem?_take] at h1 af aD
 split at h1
 ·split at af
  ·split at aD
   ·exact h.e i a x b h1 af aD
   ·cases aD
  ·cases af
 ·cases h1
theorem mC.push {m:List State}{st xs:List Int}(h:mC m st xs) {a x b:Int}(aI:st[xs.length]?=some a) (he:oi m a x b):mC m (st++[b]) (xs++[x]):=by
 have ah:=h.len;refine ⟨by simp; omega,by rw [List.getElem?_append_left (by omega)]; exact h.z,λi b' x' dR h1 af aD=>?_⟩;by_cases hi:i<xs.length
 ·rw [List.getElem?_append_left (by omega)] at h1 aD;rw [List.getElem?_append_left hi] at af;exact h.e i b' x' dR h1 af aD
 ·have aN:=(List.getElem?_eq_some_iff.1 af).1;have:i=xs.length:=by simp at aN; omega
  subst this;rw [List.getElem?_append_left (by omega),aI] at h1;rw [List.getElem?_append_right (by omega),Nat.sub_self] at af;rw [List.getElem?_append_right (by omega),ah,Nat.sub_self] at aD;cases h1; cases af; cases aD;exact he
theorem mC.from {m:List State}{st xs:List Int}(h:mC m st xs) {i:Nat}{a:Int}(aI:st[i]?=some a):a=0\/∃ b x,oi m b x a:=by
 cases i with
 | zero=>rw [h.z] at aI; cases aI; exact .inl rfl
 | succ i =>
  have aN:=(List.getElem?_eq_some_iff.1 aI).1;have ah:=h.len;have h1:i<st.length:=by omega
  have af:i<xs.length:=by omega
  exact .inr ⟨_,_,h.e i _ _ _ (List.getElem?_eq_getElem h1) (List.getElem?_eq_getElem af) aI⟩
theorem mC.back {g:bD}{m:List State}{n:Nat}(jG:jW g m n 0) {st xs:List Int}(h:mC m st xs) {p:Int}:∀ (k:Nat) {i:Nat}{a:Int},st[i]?=some a->rU g m a ⟨p,(k:Int)⟩->k<=i/\∀ j,j<=k->∃ b,st[i - j]?=some b/\rU g m b ⟨p,(k:Int) - j⟩/\(0<j->xs[i - j]?=some (gw g ⟨p,(k:Int) - j⟩)):=by
 intro k
 induction k with
 | zero=>
  intro i a aI aa;refine ⟨by omega,λj ag=>?_⟩;obtain rfl:j=0:=by omega
  exact ⟨a,aI,by simpa using aa,λh=>by omega⟩
 | succ k aM =>
  intro i a aI aa;cases i with
  | zero =>
   rw [h.z] at aI; cases aI;have:=aa.zero jG;simp only at this;omega
  | succ i =>
   have aN:=(List.getElem?_eq_some_iff.1 aI).1;have ah:=h.len;have h1:st[i]?=some st[i]:=List.getElem?_eq_getElem (by omega);have af:xs[i]?=some xs[i]:=List.getElem?_eq_getElem (by omega);obtain ⟨b9,b3⟩:=(h.e i _ _ _ h1 af aI).back jG aa (by omega);have Iw:((k+1:Nat):Int) - 1=(k:Int):=by omega
   rw [Iw] at b9 b3;obtain ⟨aD,bm⟩:=aM h1 b3;refine ⟨by omega,λj ag=>?_⟩;cases j with
   | zero=>exact ⟨a,aI,by simpa using aa,λh=>by omega⟩
   | succ j =>
    obtain ⟨b,b7,dp,kC⟩:=bm j (by omega);have es:i+1 - (j+1)=i - j:=by omega
    have w1:((k+1:Nat):Int) - ((j+1:Nat):Int)=(k:Int) - j:=by omega
    rw [es,w1];refine ⟨b,b7,dp,λ_=>?_⟩;by_cases Xn:j=0
    ·subst Xn;rw [Nat.sub_zero,af];simp [b9]
    ·exact kC (by omega)
end Go.Proofs
