/- Parts of the proof that the last text states. -/
import Derived.KernelRfl
import Derived.Test.YtaddiiogopnkpaaGreatE8
set_option linter.unusedVariables false
namespace Go.Proofs
open Go Go.Own
set_option maxRecDepth 100000
theorem iC.Y5 {m:e'}{T L:Nat}(h:iC m T L):lf m (3+T) m.dw.length 0 0 :=
 ⟨h.gm,h.lo,h.hi,by have:=h.ty; omega,rfl,by rw [h.hl]; decide,by rw [h.gx]; exact Nat.le_refl 0,by rw [h.gx]; exact λp aq=>absurd aq (by simp),h.lvl,h.jr,by rw [h.gx]; exact λ_ p aq=>absurd aq (by simp)⟩
theorem t123 (s:Source) (au:u4 s):Tot (vV s) λr=>r.2.1=0->fZ r.1:=by
 unfold vV;refine .aA (t146 s au) λc aa=>Tot.bM (λ_=>.al λh=>absurd h (by decide)) (λkl=>?_);have ok:Mn s:=aa (by simpa using kl);refine .aA (Tot.mk (by decide) (rfl:List.replicate (3:Int).toNat false=List.replicate (3:Int).toNat false)) λa7 hb=>?_;have Xb:=au.qh;have CC:=au.aF
 -- declarations
 refine Tot.aA (Ξ:=λr=>iC r.1 (1001 * 1000) 0) ?_ λbW b7=>?_
 ·refine Tot.count (λz=>z.2.2) s.Decls.length (λz=>0<=z.2.2/\z.2.2<=s.Decls.length/\iC z.1 (1001 * z.2.2.toNat) 0/\z.1.fb<=z.2.2) ⟨Int.le_refl 0,by show (0:Int)<=_; omega,⟨by show a7.length=3; rw [<- hb]; rfl,Nat.le_refl 3,Nat.le_refl 3,Nat.le_refl 0,Nat.le_refl 0,rfl,rfl,Int.le_refl 0,by show ∀ t∈[_,_,_],0<=b4.Level t; simp⟩,Int.le_refl 0⟩ (by show (s.Decls.length:Int) - 0<_; omega) λz aX=>?_;obtain ⟨m,st,i⟩:=z;obtain ⟨aK,h1,hm,pN⟩:=aX;simp only at aK h1 hm pN ⊢;have hw:aG (i+1)=i+1:=by rw [cB]; omega
  rw [hw];have ug:=hm.lvl;refine Tot.bt (λaN=>?_) (λ_=>.al (hm.mono (by omega) (Nat.le_refl _)));refine .aA (Tot.hn (Φ:=λy=>y∈s.Decls) aK aN λy _ ao=>ao) λd aO=>?_;have jm:=au.decls d aO;have Ch:=jm.n;refine .aA (Ξ:=λ_=>True) (Tot.bM (λ_=>.al trivial) (λ_=>.al trivial)) λiF _=>.aA (Ξ:=λj=>0<=j/\j<=i+1) (Tot.bM (λ_=>.al (by rw [cB]; omega)) (λ_=>.al (by omega))) λiW BT=>?_;refine Tot.aA (Ξ:=λr=>iC r.1 (1001 * i.toNat+1000) 0/\r.1.fb<=i+1) ?_ λed w4=>.al ⟨⟨?_,?_,?_,?_⟩,?_,?_⟩
  ·refine Tot.count (λz=>z.2.2) d.fa.length (λz=>0<=z.2.2/\z.2.2<=d.fa.length/\iC z.1 (1001 * i.toNat+z.2.2.toNat) 0/\z.1.fb<=i+1) ⟨Int.le_refl 0,by show (0:Int)<=_; omega,⟨hm.gm,hm.lo,hm.hi,hm.ty,hm.hD,hm.gx,hm.hl,BT.1,hm.jr⟩,BT.2⟩ (by show (d.fa.length:Int) - 0<_; omega) λz aX=>?_;obtain ⟨m,st,k⟩:=z;obtain ⟨g0,g1,hm,pN⟩:=aX;simp only at g0 g1 hm pN ⊢;have sm:aG (k+1)=k+1:=by rw [cB]; omega
   rw [sm];refine Tot.bt (λxn=>?_) (λ_=>.al ⟨hm.mono (by omega) (Nat.le_refl _),pN⟩);have FR:Tot (idx d.fa k) λy=>y∈d.fa:=Tot.hn g0 xn λy _ ao=>ao;refine Tot.aA (Ξ:=λj=>iC j.1 (1001 * i.toNat+k.toNat+1) 0/\j.1.fb<=i+1) ?_ λj ag=>.al ⟨⟨?_,?_,?_,ag.2⟩,?_,?_⟩
   ·refine Tot.bM (λ_=>?_) (λ_=>?_)
    ·refine .aA FR λx J=>.aA (t147 m d x hm.gm (by have:=hm.hi; omega) (by have:=hm.ty; omega) (ok.decls d aO x J)) λm' aP=>.al ⟨hm.grow aP,by show m'.fb<=_; rw [aP.lvl]; exact pN⟩
    ·refine Tot.aA (Ξ:=λj=>iC j (1001 * i.toNat+k.toNat+1) 0/\j.fb<=i+1) ?_ λj ag=>.aA FR λ_ _=>.al ag;refine Tot.bM (λ_=>?_) (λ_=>.al ⟨hm.mono (by omega) (Nat.le_refl _),pN⟩);exact .aA FR λ_ _=>.aA FR λ_ _=>.aA (t148 m _ _) λm' hT=>.al ⟨(hm.same hT.1).mono (by omega) (Nat.le_refl _),by rw [hT.1.jr]; exact pN⟩
   ·show 0<=k+1; omega
   ·show k+1<=(d.fa.length:Int); omega
   ·show iC j.1 (1001 * i.toNat+(k+1).toNat) 0;exact ag.1.mono (by omega) (Nat.le_refl _)
   ·show k<k+1; omega
   ·show k+1<=(d.fa.length:Int); omega
  ·show 0<=i+1; omega
  ·show i+1<=(s.Decls.length:Int); omega
  ·show iC ed.1 (1001 * (i+1).toNat) 0;exact w4.1.mono (by omega) (Nat.le_refl _)
  ·exact w4.2
  ·show i<i+1; omega
  ·show i+1<=(s.Decls.length:Int); omega
 -- what stands on the left
 refine Tot.aA (Ξ:=λr=>iC r (1001 * 1000) 1000) ?_ λgz IP=>?_
 ·refine Tot.count (λz=>z.2) s.eM.length (λz=>0<=z.2/\z.2<=s.eM.length/\iC z.1 (1001 * 1000) z.2.toNat) ⟨Int.le_refl 0,by show (0:Int)<=_; omega,b7⟩ (by show (s.eM.length:Int) - 0<_; omega) λz aX=>?_;obtain ⟨m,i⟩:=z;obtain ⟨aK,h1,hm⟩:=aX;simp only at aK h1 hm ⊢;have hw:aG (i+1)=i+1:=by rw [cB]; omega
  rw [hw];refine Tot.bt (λaN=>?_) (λ_=>.al (hm.mono (Nat.le_refl _) (by omega)));have vv:=hm.hi;have zJ:=hm.hD;refine Tot.aA (Ξ:=λj=>iC j (1001 * 1000) (i.toNat+1)) ?_ λj ag=>.al ⟨⟨?_,?_,?_⟩,?_,?_⟩
  ·refine .aA (Tot.hn (Φ:=λ_=>True) aK aN λy _ ao=>trivial) λr hr=>.aA (t149 m _ (by simp only [ef]; omega)) λt _=>?_;refine Tot.aA (Ξ:=λj=>iC j (1001 * 1000) i.toNat) ?_ λmQ ra=>?_
   ·exact Tot.bM (λ_=>.aA (t148 m _ _) λm' hT=>.al (hm.same hT.1)) (λ_=>.al hm)
   ·have ae8:=ra.hD;refine .aA (t150 mQ _ (by simp only [ef]; omega)) λk _=>?_;refine Tot.aA (Ξ:=λl=>l.length<=i.toNat+1) ?_ λl ah=>.al ⟨ra.gm,ra.lo,ra.hi,ra.ty,ah,ra.gx,ra.hl,ra.lvl,ra.jr⟩;refine Tot.bM (λ_=>?_) (λ_=>.al (by omega));exact .bK<|.al (by simp; omega)
  ·show 0<=i+1; omega
  ·show i+1<=(s.eM.length:Int); omega
  ·show iC j (1001 * 1000) (i+1).toNat;exact ag.mono (Nat.le_refl _) (by omega)
  ·show i<i+1; omega
  ·show i+1<=(s.eM.length:Int); omega
 -- types and starts
 refine Tot.aA (Ξ:=λr=>iC r (1001 * 1000) 1000) ?_ λhF vl=>?_
 ·refine Tot.count (λz=>z.2) s.Decls.length (λz=>0<=z.2/\z.2<=s.Decls.length/\iC z.1 (1001 * 1000) 1000) ⟨Int.le_refl 0,by show (0:Int)<=_; omega,IP⟩ (by show (s.Decls.length:Int) - 0<_; omega) λz aX=>?_;obtain ⟨m,i⟩:=z;obtain ⟨aK,h1,hm⟩:=aX;simp only at aK h1 hm ⊢;have hw:aG (i+1)=i+1:=by rw [cB]; omega
  rw [hw];refine Tot.bt (λaN=>?_) (λ_=>.al hm);refine Tot.aA (Ξ:=λr=>iC r (1001 * 1000) 1000) ?_ λqQ VI=>.al ⟨⟨?_,?_,VI⟩,?_,?_⟩
  ·have pL:i.toNat<s.Decls.length:=by omega
   have hi:idx s.Decls i=some s.Decls[i.toNat]:=by simp [idx,aK,pL]
   rw [hi];generalize aO:s.Decls[i.toNat]=d;have k3:d∈s.Decls:=by rw [<- aO]; exact List.getElem_mem pL
   have Ch:=(au.decls d k3).n;refine Tot.count (λz=>z.2) d.fa.length (λz=>0<=z.2/\z.2<=d.fa.length/\iC z.1 (1001 * 1000) 1000) ⟨Int.le_refl 0,by show (0:Int)<=_; omega,hm⟩ (by show (d.fa.length:Int) - 0<_; omega) λz aX=>?_;obtain ⟨m,k⟩:=z;obtain ⟨g0,g1,hm⟩:=aX;simp only at g0 g1 hm ⊢;have sm:aG (k+1)=k+1:=by rw [cB]; omega
   rw [sm];refine Tot.aV (Tot.bt (λxn=>?_) (λ_=>.al hm));have zJ:=hm.hD;refine Tot.aA (Ξ:=λj=>iC j (1001 * 1000) 1000) ?_ λj ag=>.al ⟨⟨?_,?_,ag⟩,?_,?_⟩
   ·refine Tot.aV (.aA (Tot.hn (Φ:=λ_=>True) g0 xn λ_ _ _=>trivial) λx _=>?_);refine .aA (Ξ:=λ_=>True) (Tot.aV (Tot.bM (λ_=>.aA (t150 m _ (by simp only [ef]; omega)) λ_ _=>.al trivial) (λ_=>.al trivial))) λc _=>?_;refine Tot.aA (Ξ:=λj=>iC j (1001 * 1000) 1000) ?_ λj ag=>.al ag;exact Tot.bM (λ_=>.aA (t148 m _ _) λm' hT=>.al (hm.same hT.1)) (λ_=>.al hm)
   ·show 0<=k+1; omega
   ·show k+1<=(d.fa.length:Int); omega
   ·show k<k+1; omega
   ·show k+1<=(d.fa.length:Int); omega
  ·show 0<=i+1; omega
  ·show i+1<=(s.Decls.length:Int); omega
  ·show i<i+1; omega
  ·show i+1<=(s.Decls.length:Int); omega
 -- the start
 have pO:=ok.pos;refine Tot.aA (Ξ:=λ_=>True) (Tot.bM (λ_=>.aA (Ξ:=λ_=>True) (Tot.hn (by decide) (by omega) λ_ _ _=>trivial) λ_ _=>.al trivial) (λ_=>.al trivial)) λxN _=>?_;have ae_:=vl.hD;refine .aA (t150 hF xN (by simp only [ef]; omega)) λmw o3=>?_;have VQ:-1<=mw/\mw<hF.dw.length:=by rcases o3 with h | h <;> omega
 -- the alternatives
 have fK:hF.dw.length<=1000:=vl.hD;generalize Wd:hF.dw.length=L at fK VQ;refine Tot.aA (Ξ:=λr=>lf r (3+1001 * 1000+1001 * 1000000) L (1001 * 1000000) (1+1001 * 1000000)/\1<=r.ba.bx.length) ?_ λcp VR=>?_
 ·have uh:=vl.Y5;rw [Wd] at uh;refine Tot.count (λz=>z.2) s.eM.length (λz=>0<=z.2/\z.2<=s.eM.length/\lf z.1 (3+1001 * 1000+1001 * (1000 * z.2.toNat)) L (1001 * (1000 * z.2.toNat)) (1+1001 * (1000 * z.2.toNat))/\1<=z.1.ba.bx.length) ⟨Int.le_refl 0,by show (0:Int)<=_; omega,⟨uh.gm,uh.lo,uh.hi,uh.ty,uh.hD,uh.hl,Nat.le_refl 1,λp aq=>?_,uh.lvl,uh.jr,λ_=>Lf (P:=[]) (λp aq=>by cases aq) λy ao=>?_⟩,Nat.le_refl 1⟩ (by show (s.eM.length:Int) - 0<_; omega) λz aX=>?_
  ·rw [List.mem_singleton.1 aq];have ae0:=vl.hl;have me:=vl.lo;refine ⟨⟨Int.le_refl 0,by show (0:Int)<=L+hF.dd; omega⟩,λy ao=>?_,⟨by show (-1:Int)<=-1; omega,by show (-1:Int)<_; omega⟩⟩;have ao:y∈[aG (1001+mw)]:=ao;rw [List.mem_singleton.1 ao];have:aG (1001+mw)=1001+mw:=by rw [cB]; omega
   rw [this];exact .inr (by show 1000<=1001+mw/\1001+mw<=1000+((L:Int)+hF.dd); omega)
  ·have ao:y∈[aG (1001+mw)]:=ao;rw [List.mem_singleton.1 ao,cB]; omega
  ·obtain ⟨m,i⟩:=z;obtain ⟨aK,h1,hm,vC⟩:=aX;simp only at aK h1 hm vC ⊢;have hw:aG (i+1)=i+1:=by rw [cB]; omega
   rw [hw];refine Tot.bt (λaN=>?_) (λ_=>.al ⟨hm.mono (by omega) (by omega) (by omega),vC⟩);refine Tot.aA (Ξ:=λr=>lf r (3+1001 * 1000+1001 * (1000 * (i.toNat+1))) L (1001 * (1000 * (i.toNat+1))) (1+1001 * (1000 * (i.toNat+1)))/\1<=r.ba.bx.length) ?_ λkM Ff=>.al ⟨⟨?_,?_,?_,Ff.2⟩,?_,?_⟩
   ·have pL:i.toNat<s.eM.length:=by omega
    have hi:idx s.eM i=some s.eM[i.toNat]:=by simp [idx,aK,pL]
    rw [hi];generalize aO:s.eM[i.toNat]=d;have k3:d∈s.eM:=by rw [<- aO]; exact List.getElem_mem pL
    have Ch:=(au.rules d k3).n;refine Tot.count (λz=>z.2) d.gg.length (λz=>0<=z.2/\z.2<=d.gg.length/\lf z.1 (3+1001 * 1000+1001 * (1000 * i.toNat+z.2.toNat)) L (1001 * (1000 * i.toNat+z.2.toNat)) (1+1001 * (1000 * i.toNat+z.2.toNat))/\1<=z.1.ba.bx.length) ⟨Int.le_refl 0,by show (0:Int)<=_; omega,hm,vC⟩ (by show (d.gg.length:Int) - 0<_; omega) λz aX=>?_;obtain ⟨m,k⟩:=z;obtain ⟨g0,g1,hm,vC⟩:=aX;simp only at g0 g1 hm vC ⊢;have sm:aG (k+1)=k+1:=by rw [cB]; omega
    rw [sm];refine Tot.aV (Tot.bt (λxn=>?_) (λ_=>.al ⟨hm.mono (by omega) (by omega) (by omega),vC⟩));refine Tot.aV (Tot.aV (.aA (Tot.hn (Φ:=λy=>y∈d.gg) g0 xn λ_ _ h=>h) λa aI=>?_));refine .aA (t151 m d.Left a hm (by omega) (by omega) (by omega) (by omega) ((au.rules d k3).alts a aI) (ok.rules d k3 a aI)) λm' hT=>.al ⟨⟨?_,?_,?_,hT.2⟩,?_,?_⟩
    ·show 0<=k+1; omega
    ·show k+1<=(d.gg.length:Int); omega
    ·show lf m' (3+1001 * 1000+1001 * (1000 * i.toNat+(k+1).toNat)) L (1001 * (1000 * i.toNat+(k+1).toNat)) (1+1001 * (1000 * i.toNat+(k+1).toNat));exact hT.1.mono (by omega) (by omega) (by omega)
    ·show k<k+1; omega
    ·show k+1<=(d.gg.length:Int); omega
   ·show 0<=i+1; omega
   ·show i+1<=(s.eM.length:Int); omega
   ·show lf kM (3+1001 * 1000+1001 * (1000 * (i+1).toNat)) L (1001 * (1000 * (i+1).toNat)) (1+1001 * (1000 * (i+1).toNat));exact Ff.1.mono (by omega) (by omega) (by omega)
   ·show i<i+1; omega
   ·show i+1<=(s.eM.length:Int); omega
 obtain ⟨pE,VS⟩:=VR;refine Tot.pA (λh=>.al λaJ=>absurd aJ h) (λhe=>?_);have aex:=pE.hD;have aev:=pE.hi;have aez:=pE.ty;have aew:=pE.hl;have aey:=pE.AT
 -- nonterminals
 refine Tot.aA (Ξ:=λl=>l.length=1+L) ?_ λwA aeB=>?_
 ·refine Tot.count (λz=>z.2) cp.dw.length (λz=>0<=z.2/\z.2<=cp.dw.length/\z.1.length=1+z.2.toNat) ⟨Int.le_refl 0,by show (0:Int)<=_; omega,rfl⟩ (by show (cp.dw.length:Int) - 0<_; omega) λz aX=>?_;obtain ⟨l,i⟩:=z;obtain ⟨aK,h1,ah⟩:=aX;simp only at aK h1 ah ⊢;have hw:aG (i+1)=i+1:=by rw [cB]; omega
  rw [hw];refine Tot.bt (λaN=>?_) (λ_=>.al (by show l.length=1+L; omega));refine .aA (Tot.hn (Φ:=λ_=>True) aK aN λ_ _ _=>trivial) λqR _=>.aA (t152 _ _ (by show cp.fw.length<=_; simp only [ef]; omega)) λyD VT=>?_;have aeC:yD=-1\/(0<=yD/\yD<cp.fw.length):=VT;refine .aA (Ξ:=λ_=>True) (Tot.bt (λh=>.aA (Ξ:=λ_=>True) (Tot.hn h (by omega) λ_ _ _=>trivial) λ_ _=>.al trivial) (λ_=>.al trivial)) λuv _=>?_;refine .bK<|.al ⟨⟨?_,?_,?_⟩,?_,?_⟩
  ·show 0<=i+1; omega
  ·show i+1<=(cp.dw.length:Int); omega
  ·show (l++[_]).length=1+(i+1).toNat;simp; omega
  ·show i<i+1; omega
  ·show i+1<=(cp.dw.length:Int); omega
 refine Tot.aA (Ξ:=λl=>(l.length:Int)=1+L+cp.dd) ?_ λlz aeD=>?_
 ·refine Tot.count (λz=>z.2) (cp.dd+1) (λz=>1<=z.2/\z.2<=cp.dd+1/\(z.1.length:Int)=1+L+(z.2 - 1)) ⟨Int.le_refl 1,by show (1:Int)<=_; omega,by show (wA.length:Int)=1+L+(1 - 1); omega⟩ (by show cp.dd+1 - 1<_; omega) λz aX=>?_;obtain ⟨l,i⟩:=z;obtain ⟨aK,h1,ah⟩:=aX;simp only at aK h1 ah ⊢;have hw:aG (i+1)=i+1:=by rw [cB]; omega
  rw [hw];refine Tot.bt (λaN=>?_) (λ_=>.al (by show (l.length:Int)=1+L+cp.dd; omega));refine .aA (t153 i (by omega) (by omega)) λHb aeE=>.aA (Ξ:=λ_=>True) (Tot.cat (by show 1+Hb.size<=_; omega) trivial) λwB _=>?_;refine .bK<|.al ⟨⟨?_,?_,?_⟩,?_,?_⟩
  ·show 1<=i+1; omega
  ·show i+1<=cp.dd+1; omega
  ·show ((l++[_]).length:Int)=1+L+(i+1 - 1);simp; omega
  ·show i<i+1; omega
  ·show i+1<=cp.dd+1; omega
 -- numbers
 have sd:=pE.gm;refine Tot.aA (Ξ:=λl=>l.length=cp.ba.br.length/\∀ t∈l,0<=t.Level) ?_ λmx VU=>?_
 ·refine Tot.count (λz=>z.2.2) cp.ba.br.length (λz=>3<=z.2.2/\z.2.2<=cp.ba.br.length/\z.1.length=cp.ba.br.length/\∀ t∈z.1,0<=t.Level) ⟨Int.le_refl 3,by have:=pE.lo; show (3:Int)<=_; omega,rfl,pE.jr⟩ (by show (cp.ba.br.length:Int) - 3<_; omega) λz aX=>?_;obtain ⟨l,n,i⟩:=z;obtain ⟨aK,h1,ah,hv⟩:=aX;simp only at aK h1 ah hv ⊢;have hw:aG (i+1)=i+1:=by rw [cB]; omega
  rw [hw];refine Tot.bt (λaN=>?_) (λ_=>.al ⟨ah,hv⟩);refine Tot.aA (Ξ:=λj=>j.1.length=cp.ba.br.length/\∀ t∈j.1,0<=t.Level) ?_ λj ag=>.al ⟨⟨?_,?_,ag⟩,?_,?_⟩
  ·refine .aA (Tot.hn (Φ:=λ_=>True) (by omega) (by rw [sd]; omega) λ_ _ _=>trivial) λ_ _=>?_;refine Tot.aA (Ξ:=λj=>j.1.length=cp.ba.br.length/\∀ t∈j.1,0<=t.Level) ?_ λj ag=>.al ag;refine Tot.bM (λ_=>?_) (λ_=>.al ⟨ah,hv⟩);refine .aA (Tot.hn (Φ:=λy=>y∈l) (by omega) aN λ_ _ h=>h) λy ao=>.al ⟨by show (l.set _ _).length=_; simp [ah],λt ar=>?_⟩;rcases PJ ar with ar | rfl
   ·exact hv t ar
   ·exact (hv y ao:0<=y.Level)
  ·show 3<=i+1; omega
  ·show i+1<=(cp.ba.br.length:Int); omega
  ·show i<i+1; omega
  ·show i+1<=(cp.ba.br.length:Int); omega
 -- limits
 obtain ⟨NW,VV⟩:=VU;refine Tot.aA (Ξ:=λc=>c=false->mx.length<=40/\lz.length<=24/\cp.ba.bx.length<=60) ?_ λBy IL=>?_
 ·refine Tot.bt (λ_=>.al λh=>by cases h) (λh1=>Tot.bt (λ_=>.al λh=>by cases h) (λaf=>.al λh=>?_));have aD:=of_decide_eq_false h;omega
 refine Tot.aA (Ξ:=λc=>c=false->By=false/\∀ p∈cp.ba.bx,p.dD.length<=8) ?_ λA3 IM=>?_
 ·refine Tot.count (λz=>z.2) cp.ba.bx.length (λz=>0<=z.2/\z.2<=cp.ba.bx.length/\(z.1=false->By=false/\∀ (j:Nat) (p:Prod),(j:Int)<z.2->cp.ba.bx[j]?=some p->p.dD.length<=8)) ⟨Int.le_refl 0,by show (0:Int)<=_; omega,λh=>⟨h,λj p ag=>by have ag:(j:Int)<0:=ag; omega⟩⟩ (by show (cp.ba.bx.length:Int) - 0<_; omega) λz aX=>?_;obtain ⟨c,i⟩:=z;obtain ⟨aK,h1,ah⟩:=aX;simp only at aK h1 ah ⊢;have hw:aG (i+1)=i+1:=by rw [cB]; omega
  rw [hw];refine Tot.bt (λaN=>?_) (λdF=>.al λh=>⟨(ah h).1,λp aq=>?_⟩)
  ·refine Tot.aA (Ξ:=λcg=>cg=false->c=false/\∀ p,cp.ba.bx[i.toNat]?=some p->p.dD.length<=8) ?_ λcg ep=>.al ⟨⟨?_,?_,λh=>?_⟩,?_,?_⟩
   ·refine Tot.bM (λ_=>.al λh=>by cases h) (λCf=>.aA (Tot.hn (Φ:=λy=>idx cp.ba.bx i=some y) aK aN λ_ h _=>h) λy ao=>.al λh=>⟨Cf,λp aq=>?_⟩);have af:=(mi ao).2.2;rw [aq] at af; cases af;have:=of_decide_eq_false h;omega
   ·show 0<=i+1; omega
   ·show i+1<=(cp.ba.bx.length:Int); omega
   ·obtain ⟨av,a2⟩:=ep h;obtain ⟨gR,iu⟩:=ah av;refine ⟨gR,λj p ag aq=>?_⟩;have ag:(j:Int)<i+1:=ag;by_cases Xq:(j:Int)<i
    ·exact iu j p Xq aq
    ·have:j=i.toNat:=by omega
     subst this;exact a2 p aq
   ·show i<i+1; omega
   ·show i+1<=(cp.ba.bx.length:Int); omega
  ·obtain ⟨j,ag,rfl⟩:=List.mem_iff_getElem.1 aq;exact (ah h).2 j _ (by omega) (List.getElem?_eq_getElem ag)
 refine Tot.bM (λ_=>.al λh=>absurd h (by decide)) (λaa=>.al λ_=>?_);obtain ⟨av,a2⟩:=IM aa;obtain ⟨gR,iu,lG⟩:=IL av;have me:=pE.lo;refine ⟨⟨?_,gR⟩,⟨?_,iu⟩,⟨VS,lG⟩,λp aq=>?_,a2,VV,pE.we he⟩
 ·show 3<=mx.length; omega
 ·show 1<=lz.length; omega
 ·have:=pE.gx p aq;exact this.mono (by show _<=mx.length; omega) (by show (L:Int)+cp.dd<=((lz.length:Nat):Int) - 1; omega)
theorem t93 (s:Source) (au:u4 s):Tot (yk s) λr=>r.2=true->fZ r.1:=by
 unfold yk;exact .aA (t123 s au) λr hr=>.al λh=>hr (of_decide_eq_true h)
open Go Go.Own Go.Sort
structure Ew (g:bD) (m:List State) (cs:List Cell):Prop where
 oC:fZ g
 F5:ng g m
 ce:A_ g m.length cs
def z8 (g:bD) (p:Int):Int × Int:=match idx g.bx p with
 | some q=>match idx g.br q.Prec with
  | some t=>(t.Level,t.i')
  | none=>(0,0)
 | none=>(0,0)
def dec (g:bD) (p t:Int):Int:=match idx g.br t with
 | some k=>if (z8 g p).1=0\/k.Level=0 then 0 else if (z8 g p).1<k.Level then 1 else if k.Level<(z8 g p).1 then 2 else if k.i'=1 then 2 else if k.i'=2 then 1 else 3
 | none=>0
theorem UY (g:bD) (aP:fZ g) (p:Int) (aq:0<=p/\p<g.bx.length):Dw g p=some (z8 g p):=by
 obtain ⟨q,a8,hm⟩:=nD aq.1 aq.2;have au:=(aP.gx q hm).prec;unfold Dw z8;have d1:decide (p<0)=false:=decide_eq_false (by omega);have d2:decide ((g.bx.length:Int)<=p)=false:=decide_eq_false (by omega);rw [d1,d2,a8];simp only [cond_false,Option.bind_some];by_cases h:q.Prec<0
 ·rw [decide_eq_true h,Kp (.inl h)]; rfl
 ·obtain ⟨t,ar,_⟩:=nD (l:=g.br) (i:=q.Prec) (by omega) au.2;rw [decide_eq_false h,ar]; rfl
theorem U7 (g:bD) (aP:fZ g) (p t:Int) (aq:0<=p/\p<g.bx.length) (ar:0<=t/\t<g.br.length):DU g p t=some (dec g p t):=by
 obtain ⟨k,hk,hm⟩:=nD ar.1 ar.2;unfold DU dec;rw [UY g aP p aq,hk];have d1:decide (t<0)=false:=decide_eq_false (by omega);have d2:decide ((g.br.length:Int)<=t)=false:=decide_eq_false (by omega);rw [d1,d2];generalize z8 g p=x;simp only [cond_false,Option.bind_some];by_cases h1:x.1=0
 ·simp [h1]
 ·by_cases af:k.Level=0
  ·simp [h1,af]
  ·rw [if_neg (by omega)];simp only [h1,af,decide_false,cond_false,Option.bind_some];by_cases aD:x.1<k.Level
   ·simp [aD]
   ·by_cases bm:k.Level<x.1
    ·simp [aD,bm]
    ·by_cases b7:k.i'=1
     ·simp [aD,bm,b7]
     ·by_cases dp:k.i'=2 <;> simp [aD,bm,b7,dp]
def qc (g:bD) (c:Cell):Act:=match c.bx with
 | []=>if c.nK=true then ⟨3,0⟩ else ⟨1,c.kR⟩
 | p::_=>if c.nK=true then ⟨3,0⟩ else if c.kR<0 then ⟨2,p⟩ else if dec g p c.b4=2 then ⟨2,p⟩ else if dec g p c.b4=3 then ⟨4,0⟩ else ⟨1,c.kR⟩
def zq (g:bD) (c:Cell):List eY:=match c.bx with
 | []=>[]
 | p::r=>r.map (λx=>(⟨c.State,c.b4,p,x⟩:eY))++(if c.nK=true\/(0<=c.kR/\dec g p c.b4=0) then [(⟨c.State,c.b4,-1,p⟩:eY)] else [])
structure oU (g:bD) (n:Nat) (a:Act):Prop where
 k:0<=a.Kind/\a.Kind<=4
 gJ:a.Kind=0->a.N=0
 nF:a.Kind=1->0<=a.N/\a.N<n
 n_:a.Kind=2->oX g a.N
 PO:a.Kind=3->a.N=0
 Y_:a.Kind=4->a.N=0
theorem SD {g:bD}{n:Nat}{c:Cell}(h:pr g n c):oU g n (qc g c)/\(qc g c).Kind≠0:=by
 have sk:=h.Rq;have aT:=h.f;have a3:oU g n ⟨3,0⟩:=⟨⟨by decide,by decide⟩,λh=>(by cases h),λh=>(by cases h),λh=>(by cases h),λ_=>rfl,λh=>by cases h⟩;have a4:oU g n ⟨4,0⟩:=⟨⟨by decide,by decide⟩,λh=>(by cases h),λh=>(by cases h),λh=>(by cases h),λ_=>rfl,λ_=>rfl⟩;have av:0<=c.kR->oU g n ⟨1,c.kR⟩:=λaK=>⟨⟨by show (0:Int)<=1; decide,by show (1:Int)<=4; decide⟩,λh=>(by cases h),λ_=>⟨aK,aT.2⟩,λh=>(by cases h),λh=>(by cases h),λh=>by cases h⟩;have a2:∀ p∈c.bx,oU g n ⟨2,p⟩:=λp aq=>⟨⟨by show (0:Int)<=2; decide,by show (2:Int)<=4; decide⟩,λh=>(by cases h),λh=>(by cases h),λ_=>h.q p aq,λh=>(by cases h),λh=>by cases h⟩;unfold qc;unfold oe at sk;cases bQ:c.bx with
 | nil =>
  simp only;rw [bQ] at sk;by_cases h1:c.nK=true
  ·rw [if_pos h1]; exact ⟨a3,by decide⟩
  ·rw [if_neg h1];rw [if_neg h1] at sk;refine ⟨av ?_,by show (1:Int)≠0; decide⟩;by_cases af:0<=c.kR
   ·exact af
   ·rw [if_neg af] at sk; simp at sk
 | cons p r =>
  simp only;have aq:=a2 p (by rw [bQ]; simp);split
  ·exact ⟨a3,by decide⟩
  ·split
   ·exact ⟨aq,by show (2:Int)≠0; decide⟩
   ·split
    ·exact ⟨aq,by show (2:Int)≠0; decide⟩
    ·split
     ·exact ⟨a4,by decide⟩
     ·exact ⟨av (by omega),by show (1:Int)≠0; decide⟩
theorem M9 {g:bD}(aP:fZ g) {n:Nat}{c:Cell}(h:pr g n c):(zq g c).length<=60:=by
 have ah:=h.len aP;unfold zq;cases bQ:c.bx with
 | nil=>simp
 | cons p r =>
  rw [bQ,List.length_cons] at ah;simp only [List.length_append,List.length_map];split
  ·simp; omega
  ·simp; omega
theorem BL (g:bD) (aP:fZ g) {n:Nat}(c:Cell) (h:pr g n c):yh g c=some (qc g c,zq g c):=by
 have ah:=h.len aP
 suffices aw:Tot (yh g c) λr=>r=(qc g c,zq g c) by
  obtain ⟨r,hr,e⟩:=aw; rw [hr,e]
 unfold yh qc zq;cases bQ:c.bx with
 | nil =>
  simp only;refine .aA (Ξ:=λl:List eY=>l=[]) ?_ λl ah=>?_
  ·refine Tot.loop (λs=>s=(([]:List eY),(1:Int))) (λ_=>0) rfl (by show 0<1000000000000000000; omega) λs aw=>?_;subst aw;exact .al rfl
  ·subst ah;cases h1:c.nK
   ·exact .al (by simp)
   ·exact .al (by simp)
 | cons p r =>
  rw [bQ,List.length_cons] at ah;simp only;have ft:idx (p::r) 0=some p:=rfl;refine .aA (Ξ:=λl:List eY=>l=r.map (λx=>(⟨c.State,c.b4,p,x⟩:eY))) ?_ λl ah=>?_
  ·refine Tot.count (λs=>s.2) ((r.length:Int)+1) (λs=>∃ k:Nat,k<=r.length/\s.2=((k+1:Nat):Int)/\s.1=(r.take k).map (λx=>(⟨c.State,c.b4,p,x⟩:eY))) ⟨0,Nat.zero_le _,rfl,rfl⟩ (by show (r.length:Int)+1 - 1<_; omega) λs aw=>?_;obtain ⟨l,i⟩:=s;obtain ⟨k,hk,he,bf⟩:=aw;simp only at he bf ⊢;subst he bf;rw [et (k+1) (by omega),ft];refine Tot.bt (λaN=>?_) (λdF=>.al ?_)
   ·rw [List.length_cons] at aN;have aN:k<r.length:=by omega
    have b9:idx (p::r) ((k+1:Nat):Int)=some r[k]:=by
     simp only [idx,if_pos (show (0:Int)<=((k+1:Nat):Int) by omega),Int.toNat_natCast,List.getElem?_cons_succ];exact List.getElem?_eq_getElem aN
    rw [b9];refine Tot.aV (Tot.aV (.bK<|.al ⟨⟨k+1,by omega,rfl,?_⟩,by show ((k+1:Nat):Int)<((k+1+1:Nat):Int); omega,by show ((k+1+1:Nat):Int)<=(r.length:Int)+1; omega⟩));show _=(r.take (k+1)).map _;rw [l2 aN,List.map_append]; rfl
   ·rw [List.length_cons] at dF;rw [List.take_of_length_le (by omega)]; rfl
  ·subst ah;have aq:=h.q p (by rw [bQ]; simp);have It:=U7 g aP p c.b4 ⟨by have:=aq.1; omega,aq.2⟩ h.t;have dl:decide (((p::r).length:Int)=0)=false:=decide_eq_false (by simp; omega);simp only [ft,It,dl,cond_false,Option.bind_some];generalize pK:dec g p c.b4=v;refine ⟨_,?_,rfl⟩;have Ob:cT (r.map (λx=>(⟨c.State,c.b4,p,x⟩:eY))) [(⟨c.State,c.b4,(-1),p⟩:eY)]=some (r.map (λx=>(⟨c.State,c.b4,p,x⟩:eY))++[⟨c.State,c.b4,(-1),p⟩]):=by
    unfold cT; rw [if_pos (by simp [lim]; omega)]
   cases h1:c.nK
   ·by_cases af:c.kR<0
    ·have aD:¬ (0<=c.kR):=by omega
     simp [af,aD]
    ·have aD:0<=c.kR:=by omega
     by_cases bm:v=0
     ·simp [af,aD,bm,Ob]
     ·by_cases b7:v=2
      ·simp [af,aD,b7]
      ·by_cases dp:v=3
       ·simp [af,aD,dp]
       ·simp [af,aD,bm,b7,dp]
   ·simp [Ob]
def rowOf (g:bD) (l:List Cell):List Act:=l.foldl (λrow c=>row.set c.b4.toNat (qc g c)) (List.replicate g.br.length ⟨0,0⟩)
def ir (cs:List Cell) (q:Nat):List Cell:=cs.filter λc=>decide (c.State=(q:Int))
def go (m:List State) (q s:Int):Int:=(rE m q s).getD (-1)
theorem go_eq {g:bD}{m:List State}(hm:ng g m) (q s:Int):rE m q s=some (go m q s)/\GoTo m q s (go m q s):=by
 obtain ⟨r,hr,h⟩:=E2 m q s hm.xT;unfold go;rw [hr];exact ⟨rfl,h⟩
theorem QI (g:bD):∀ (l:List Cell),(rowOf g l).length=g.br.length:=λl=>by
 suffices h:∀ (l:List Cell) (r:List Act),(l.foldl (λrow c=>row.set c.b4.toNat (qc g c)) r).length=r.length by
  unfold rowOf; rw [h]; simp
 intro l
 induction l with
 | nil=>intro r; rfl
 | cons c l aM=>intro r; rw [List.foldl_cons,aM,List.length_set]
theorem aai (g:bD) (l:List Cell) (c:Cell):rowOf g (l++[c])=(rowOf g l).set c.b4.toNat (qc g c):=by
 unfold rowOf; rw [List.foldl_append]; rfl
theorem aaf {g:bD}{n:Nat}:∀ {l:List Cell},(∀ c∈l,pr g n c)->∀ a∈rowOf g l,oU g n a:=by
 intro l h
 suffices aw:∀ (l:List Cell) (r:List Act),(∀ c∈l,pr g n c)->(∀ a∈r,oU g n a)->∀ a∈l.foldl (λrow c=>row.set c.b4.toNat (qc g c)) r,oU g n a by
  refine aw l _ h λa aI=>?_;rw [List.eq_of_mem_replicate aI];exact ⟨⟨by decide,by decide⟩,λ_=>rfl,λh=>(by cases h),λh=>(by cases h),λh=>(by cases h),λh=>by cases h⟩
 intro l
 induction l with
 | nil=>intro r _ hr; exact hr
 | cons c l aM =>
  intro r ah hr;rw [List.foldl_cons];refine aM _ (λd aO=>ah d (by simp [aO])) λa aI=>?_;rcases List.mem_or_eq_of_mem_set aI with h | h
  ·exact hr a h
  ·rw [h]; exact (SD (ah c (by simp))).1
def vi (g:bD) (m:List State) (q:Nat):List Int:=(List.range g.dC.length).map λa:Nat=>go m q (1000+(a:Int))
def l_ (g:bD) (l:List Cell):List eY:=l.flatMap (zq g)
theorem H' {g:bD}(aP:fZ g) {n:Nat}:∀ {l:List Cell},(∀ c∈l,pr g n c)->(l_ g l).length<=60 * l.length
 | [],_=>by simp [l_]
 | c::l,h=>by
  have h1:=M9 aP (h c (by simp));have af:=H' aP (l:=l) λd aO=>h d (by simp [aO]);unfold l_ at af ⊢;rw [List.flatMap_cons,List.length_append,List.length_cons];omega
theorem Ro {α:Type}{l:List α}{k:Nat}(h:k<l.length) (p:α->Bool):(l.take (k+1)).filter p=(l.take k).filter p++(if p l[k] then [l[k]] else []):=by
 rw [l2 h,List.filter_append];congr 1;rw [List.filter_cons]
 split <;> simp
structure EA (g:bD) (m:List State) (cs:List Cell) (d:gP):Prop where
 a:d.cz=(List.range m.length).map λq=>rowOf g (ir cs q)
 o:d.eB=(List.range m.length).map λq=>vi g m q
theorem tN (g:bD) (m:List State) (cs:List Cell) (dI:Ew g m cs):Tot (AI g m cs) λr=>EA g m cs r.1/\r.2=(List.range m.length).flatMap λq=>l_ g (ir cs q):=by
 obtain ⟨aP,hm,aa⟩:=dI;have ar:=aP.k9;have aB:=aP.eW;have xp:=hm.nF;have Jp:=aa.n;unfold AI;refine .aA (Ξ:=λr:List (List Act) × List (List Int) × List eY=>r.1=(List.range m.length).map (λq=>rowOf g (ir cs q))/\r.2.1=(List.range m.length).map (λq=>vi g m q)/\r.2.2=(List.range m.length).flatMap λq=>l_ g (ir cs q)) ?_ λr hr=>.al ⟨⟨hr.1,hr.2.1⟩,hr.2.2⟩;have mK:∀ q,(l_ g (ir cs q)).length<=360000:=λq=>by
  have h1:=H' aP (l:=ir cs q) λc sa=>aa.ok c ((List.mem_filter.1 sa).1);have af:=List.length_filter_le (λc:Cell=>decide (c.State=(q:Int))) cs;unfold ir at h1 ⊢;omega
 have Ju:∀ k,((List.range k).flatMap λq=>l_ g (ir cs q)).length<=360000 * k:=λk=>by
  induction k with
  | zero=>simp
  | succ k aM =>
   rw [List.range_succ,List.flatMap_append,List.length_append];have:=mK k;simp only [List.flatMap_cons,List.flatMap_nil,List.append_nil];omega
 refine Tot.upto (λs=>s.2.2.2) m.length (λk s=>s.1=(List.range k).map (λq=>rowOf g (ir cs q))/\s.2.1=(List.range k).map (λq=>vi g m q)/\s.2.2.1=(List.range k).flatMap λq=>l_ g (ir cs q)) rfl (by omega) ⟨rfl,rfl,rfl⟩ λk s hk he bf=>?_;obtain ⟨A,G,C,i⟩:=s;obtain ⟨h1,af,aD⟩:=bf;simp only at he h1 af aD ⊢;subst he h1 af aD;rw [et k (by omega)];refine Tot.bt (λaN=>?_) (λdF=>.al ?_)
 ·have aN:k<m.length:=by omega
  refine .aA (Ξ:=λr=>r=List.replicate g.br.length (⟨0,0⟩:Act)) (Tot.mk (by simp [lim]; omega) (by simp)) λtE gn=>?_;subst gn;have aeV:=Ju k;refine .aA (Ξ:=λr:List eY × List Act=>r.1=(List.range k).flatMap (λq=>l_ g (ir cs q))++l_ g (ir cs k)/\r.2=rowOf g (ir cs k)) ?_ λr hr=>?_
  ·refine Tot.upto (λs=>s.2.2) cs.length (λj s=>s.1=(List.range k).flatMap (λq=>l_ g (ir cs q))++l_ g (ir (cs.take j) k)/\s.2.1=rowOf g (ir (cs.take j) k)) rfl (by omega) ⟨by simp [ir,l_],by simp [ir,rowOf]⟩ λj s ag he bf=>?_;obtain ⟨C,R,i⟩:=s;obtain ⟨h1,af⟩:=bf;simp only at he h1 af ⊢;subst he h1 af;rw [et j (by omega)];refine Tot.bt (λfT=>?_) (λdF=>.al ?_)
   ·have fT:j<cs.length:=by omega
    have xj:=aa.ok _ (List.getElem_mem fT);have s4:=Ro fT (λc:Cell=>decide (c.State=(k:Int)));have aff:(l_ g (ir (cs.take j) k)).length<=360000:=by
     have h1:=H' aP (l:=ir (cs.take j) k) λc sa=>aa.ok c (List.mem_of_mem_take ((List.mem_filter.1 sa).1));have af:=List.length_filter_le (λc:Cell=>decide (c.State=(k:Int))) (cs.take j);rw [List.length_take] at af;unfold ir at h1 ⊢;omega
    rw [dN fT];generalize cs[j]=c at *;simp only [Option.bind_some];refine .aA (Ξ:=λr:List eY × List Act=>r.1=(List.range k).flatMap (λq=>l_ g (ir cs q))++l_ g (ir (cs.take (j+1)) k)/\r.2=rowOf g (ir (cs.take (j+1)) k)) ?_ λr hr=>.al ⟨fT,rfl,hr⟩;refine .aA (Ξ:=λr:List eY × List Act=>r.1=(List.range k).flatMap (λq=>l_ g (ir cs q))++l_ g (ir (cs.take (j+1)) k)/\r.2=rowOf g (ir (cs.take (j+1)) k)) (Tot.bt (λaw=>?_) (λaw=>.al ?_)) λr hr=>.al hr
    ·rw [decide_eq_true aw,if_pos rfl] at s4;rw [BL g aP c xj];simp only [Option.bind_some];have oI:=QI g (ir (cs.take j) k);obtain ⟨a0,B8,_⟩:=nD (l:=rowOf g (ir (cs.take j) k)) (i:=c.b4) xj.t.1 (by rw [oI]; exact xj.t.2);rw [B8];have hK:=M9 aP xj;refine Tot.aV (.aA (Ξ:=λ_=>True) (Tot.ap (by rw [List.length_append]; simp only [lim]; omega) trivial) λ_ _=>.al ⟨?_,?_⟩)
     ·show _=_++l_ g ((cs.take (j+1)).filter _);rw [s4];unfold l_;rw [List.flatMap_append,List.append_assoc];simp [ir]
     ·show _=rowOf g ((cs.take (j+1)).filter _);rw [s4,aai]; rfl
    ·have:(if (decide (c.State=(k:Int)))=true then [c] else [])=[]:=by simp [aw]
     rw [this,List.append_nil] at s4;unfold ir;rw [s4];exact ⟨rfl,rfl⟩
   ·have e:cs.take j=cs:=List.take_of_length_le (by omega);rw [e];exact ⟨rfl,rfl⟩
  ·obtain ⟨C,R⟩:=r;obtain ⟨h1,af⟩:=hr;simp only at h1 af ⊢;subst h1 af;refine .aA (Ξ:=λr=>r=List.replicate g.dC.length (0:Int)) (Tot.mk (by simp [lim]; omega) (by simp)) λHq V9=>?_;subst V9;refine .aA (Ξ:=λr:List Int=>r=vi g m k) ?_ λr hr=>?_
   ·refine Tot.upto (λs=>s.2) g.dC.length (λj s=>s.1.length=g.dC.length/\∀ i:Nat,i<j->s.1[i]?=some (go m k (1000+(i:Int)))) rfl (by omega) ⟨by simp,λi hi=>absurd hi (Nat.not_lt_zero _)⟩ λj s ag he bf=>?_;obtain ⟨L,i⟩:=s;obtain ⟨h1,af⟩:=bf;simp only at he h1 af ⊢;subst he;rw [et j (by omega)];refine Tot.bt (λfT=>?_) (λdF=>.al ?_)
    ·have fT:j<L.length:=by omega
     have hw:aG (1000+(j:Int))=1000+(j:Int):=by rw [cB]; omega
     rw [hw,(go_eq hm k _).1,dN fT];refine Tot.aV (Tot.aV (.al ⟨by omega,rfl,?_,λi hi=>?_⟩))
     ·show (L.set _ _).length=_;rw [List.length_set]; exact h1
     ·show (L.set (j:Int).toNat _)[i]?=_;rw [Int.toNat_natCast,pY fT];by_cases e:i=j
      ·subst e; rw [if_pos rfl]
      ·rw [if_neg e]; exact af i (by omega)
    ·show L=vi g m k;refine List.ext_getElem? λi=>?_;unfold vi;by_cases hi:i<g.dC.length
     ·rw [af i (by omega),List.getElem?_map,List.getElem?_range hi]; rfl
     ·rw [List.getElem?_eq_none (by omega),List.getElem?_eq_none (by simp; omega)]
   ·subst hr;refine .bK<|.bK<|.al ⟨aN,rfl,?_,?_,?_⟩
    ·show _=(List.range (k+1)).map _;rw [List.range_succ,List.map_append]; rfl
    ·show _=(List.range (k+1)).map _;rw [List.range_succ,List.map_append]; rfl
    ·show _=(List.range (k+1)).flatMap _;rw [List.range_succ,List.flatMap_append]; simp
 ·have:k=m.length:=by omega
  subst this;exact ⟨rfl,rfl,rfl⟩
structure yO (g:bD) (n:Nat) (d:gP):Prop where
 gJ:0<n/\n<=150
 oC:fZ g
 a:d.cz.length=n
 kU:∀ r∈d.cz,r.length=g.br.length/\∀ a∈r,oU g n a
 o:d.eB.length=n
 Gh:∀ r∈d.eB,r.length=g.dC.length/\∀ v∈r,-1<=v/\v<n
theorem EA.aU {g:bD}{m:List State}{cs:List Cell}{d:gP}(h:EA g m cs d) (dI:Ew g m cs):yO g m.length d:=by
 obtain ⟨aP,hm,aa⟩:=dI;refine ⟨⟨hm.gJ,hm.nF⟩,aP,by rw [h.a]; simp,λr hr=>?_,by rw [h.o]; simp,λr hr=>?_⟩
 ·rw [h.a] at hr;obtain ⟨q,_,rfl⟩:=List.mem_map.1 hr;exact ⟨QI g _,aaf λc sa=>aa.ok c (List.mem_filter.1 sa).1⟩
 ·rw [h.o] at hr;obtain ⟨q,_,rfl⟩:=List.mem_map.1 hr;refine ⟨by simp [vi],λv hv=>?_⟩;obtain ⟨a,_,rfl⟩:=List.mem_map.1 hv;exact (go_eq hm q _).2.aU hm
theorem Z6 {g:bD}(aP:fZ g) {n:Nat}{cs:List Cell}(aa:A_ g n cs) {f:Cell->Option Int}(aT:∀ c:Cell,c.bx.length<=1000->f c=some (oe c:Int)):Tot (cf (R:=Int) (λ(s1:Int × Int) =>
(bif decide (s1.2<(cs.length:Int)) then
((idx cs s1.2).bind λbz =>
(f bz).bind λbq =>
((bif decide (1<bq) then
some (aG (s1.1+1))
else
some s1.1)).bind λdZ =>
some dZ).bind λiy =>
some (.inl (iy,aG (s1.2+1)))
else
some (.inr s1.1))) (0,0)) λr=>r=((cs.filter λc=>decide (1<oe c)).length:Int):=by
 have Jp:=aa.n;refine Tot.upto (λs=>s.2) cs.length (λk s=>s.1=(((cs.take k).filter λc=>decide (1<oe c)).length:Int)) rfl (by omega) rfl λk s hk he bf=>?_;obtain ⟨z,i⟩:=s;simp only at he bf ⊢;subst he bf;rw [et k (by omega)];refine Tot.bt (λaN=>?_) (λdF=>.al ?_)
 ·have aN:k<cs.length:=by omega
  have W4:=aa.ok _ (List.getElem_mem aN);have s4:=Ro aN (λc:Cell=>decide (1<oe c));have mK:=List.length_filter_le (λc:Cell=>decide (1<oe c)) (cs.take k);rw [List.length_take] at mK;rw [dN aN];generalize cs[k]=c at *;have hK:=W4.len aP;rw [show (some c).bind=λ(f:Cell->Option Int)=>f c from rfl]
  simp only [aT c (by omega),Option.bind_some];refine .aA (Ξ:=λz:Int=>z=(((cs.take (k+1)).filter λc=>decide (1<oe c)).length:Int)) ?_ λr hr=>.al ⟨aN,rfl,hr⟩;rw [s4];refine .aA (Ξ:=λz:Int=>z=(((cs.take k).filter (λc=>decide (1<oe c))++if decide (1<oe c)=true then [c] else []).length:Int)) (Tot.bt (λh=>.al ?_) (λh=>.al ?_)) λr hr=>.al hr
  ·have:1<oe c:=by omega
   rw [et _ (by omega)];simp [this]
  ·have:¬ 1<oe c:=by omega
   simp [this]
 ·have e:cs.take k=cs:=List.take_of_length_le (by omega);rw [e]; rfl
theorem TK {g:bD}(aP:fZ g) {n:Nat}{cs:List Cell}(aa:A_ g n cs):Tot (DI cs) λr=>r=((cs.filter λc=>decide (1<oe c)).length:Int):=by
 unfold DI;exact .aA (Z6 aP aa Nj) λr hr=>.al hr
theorem U6 (a:Act):AQ a=oQ a:=by
 grind [AQ,oQ]
theorem UZ (n:Int):x8 n=Dm n:=by
 grind [x8,Dm]
theorem Rx (a:Act):Tot (oQ a) λ_=>True:=by
 unfold oQ
 repeat' first | apply Tot.bi | refine Tot.bM (λ_=>?_) (λ_=>?_) | exact Tot.al trivial | apply Tot.al
theorem TU (a:Act):∃ c,oQ a=some c/\(c=0\/Dm c=some a):=by
 obtain ⟨c,aa,_⟩:=Rx a;refine ⟨c,aa,?_⟩;obtain ⟨K,N⟩:=a;have g:∀ p q:Prop,∀ [Decidable p] [Decidable q],(bif decide p then some (decide q) else some false)=some (decide (p/\q)):=λp q _ _=>by
  by_cases aq:p <;> simp [aq]
 by_cases h1:K=1/\0<=N/\N<=19999
 ·obtain ⟨rfl,h1⟩:=h1;have e:aG (N+1)=N+1:=by rw [cB]; omega
  have b3:aG (N+1 - 1)=N:=by rw [cB]; omega
  simp [oQ,h1,e] at aa;subst aa;have af:1<=N+1/\N+1<=20000:=by omega
  have eP:aG N=N:=by rw [cB]; omega
  exact .inr (by simp [Dm,af,eP])
 ·by_cases af:K=2/\1<=N/\N<=19999
  ·obtain ⟨rfl,af⟩:=af;have e:aG (-N)=-N:=by rw [cB]; omega
   have b3:aG N=N:=by rw [cB]; omega
   simp [oQ,af,e] at aa;subst aa;have aD:¬ 1<=-N:=by omega
   have bm:-N<=-1/\-19999<=-N:=by omega
   exact .inr (by simp [Dm,aD,bm,b3])
  ·by_cases aD:K=3/\N=0
   ·obtain ⟨rfl,rfl⟩:=aD;have:oQ ⟨3,0⟩=some 20001:=by decide
    rw [this] at aa; cases aa;exact .inr (by decide)
   ·by_cases bm:K=4/\N=0
    ·obtain ⟨rfl,rfl⟩:=bm;have:oQ ⟨4,0⟩=some 20002:=by decide
     rw [this] at aa; cases aa;exact .inr (by decide)
    ·refine .inl ?_;have vQ:(bif decide (K=1) then (bif decide (0<=N) then some (decide (N<=19999)) else some false) else some false)=some false:=by
      rw [g]; by_cases h:K=1
      ·have:=λaJ=>h1 ⟨h,aJ⟩;simp [h]; omega
      ·simp [h]
     have td:(bif decide (K=2) then (bif decide (1<=N) then some (decide (N<=19999)) else some false) else some false)=some false:=by
      rw [g]; by_cases h:K=2
      ·have:=λaJ=>af ⟨h,aJ⟩;simp [h]; omega
      ·simp [h]
     have Pu:(bif decide (K=3) then some (decide (N=0)) else some false)=some false:=by rw [g]; simp [aD]
     have KE:(bif decide (K=4) then some (decide (N=0)) else some false)=some false:=by rw [g]; simp [bm]
     unfold oQ at aa;rw [vQ,td,Pu,KE] at aa;simpa using aa.symm
def oW (l:List Int) (v:Int):Prop:=(l=[]/\v=-1)\/(v∈l/\∀ x∈l,l.count x<l.count v\/(l.count x=l.count v/\v<=x))
theorem oW.uniq {l:List Int}{v w:Int}(h:oW l v) (aJ:oW l w):v=w:=by
 rcases h with ⟨h1,af⟩ | ⟨h1,af⟩ <;> rcases aJ with ⟨aD,bm⟩ | ⟨aD,bm⟩
 ·omega
 ·subst h1; cases aD
 ·subst aD; cases h1
 ·have a:=af w aD;have b:=bm v h1;omega
theorem wX (l:List Int) (y x:Int):(l++[y]).count x=l.count x+(if y=x then 1 else 0):=by
 rw [List.count_append];by_cases e:y=x
 ·subst e; simp
 ·rw [if_neg e,List.count_eq_zero.2 λhm=>e (List.mem_singleton.1 hm).symm]
theorem UK {l:List Int}{x:Int}(h:x∈l):0<l.count x:=List.count_pos_iff.2 h
theorem oW.snoc {l:List Int}{b y:Int}(h:oW l b) (aK:∀ x∈l,0<=x) (ao:0<=y):oW (l++[y]) (if b<0\/(l++[y]).count b<(l++[y]).count y\/((l++[y]).count y=(l++[y]).count b/\y<b) then y else b):=by
 refine .inr ?_;rcases h with ⟨rfl,rfl⟩ | ⟨au,hm⟩
 ·rw [if_pos (.inl (by decide))];refine ⟨by simp,λx J=>?_⟩;rw [List.nil_append,List.mem_singleton] at J;subst J; exact .inr ⟨rfl,Int.le_refl _⟩
 ·have Oc:=aK b au;have key:∀ x∈l++[y],x∈l\/x=y:=λx J=>by simpa using J
  have w0:(l++[y]).count y=l.count y+1:=by rw [wX,if_pos rfl]
  by_cases Oe:b=y
  ·subst Oe;rw [if_neg (by omega)];refine ⟨by simp,λx J=>?_⟩;rw [w0];by_cases e:x=b
   ·subst e; exact .inr ⟨w0,Int.le_refl _⟩
   ·rw [wX,if_neg (λh=>e h.symm)];rcases key x J with J | J
    ·have:=hm x J; omega
    ·exact absurd J e
  ·have kf:(l++[y]).count b=l.count b:=by rw [wX,if_neg (λh=>Oe h.symm)]; rfl
   by_cases aa:b<0\/(l++[y]).count b<(l++[y]).count y\/((l++[y]).count y=(l++[y]).count b/\y<b)
   ·rw [if_pos aa];rw [kf,w0] at aa;refine ⟨by simp,λx J=>?_⟩;rw [w0];by_cases e:x=y
    ·subst e; exact .inr ⟨w0,Int.le_refl _⟩
    ·rw [wX,if_neg (λh=>e h.symm)];rcases key x J with J | J
     ·have:=hm x J; omega
     ·exact absurd J e
   ·rw [if_neg aa];rw [kf,w0] at aa;refine ⟨by simp [au],λx J=>?_⟩;rw [kf];by_cases e:x=y
    ·subst e; rw [w0]; omega
    ·rw [wX,if_neg (λh=>e h.symm)];rcases key x J with J | J
     ·have:=hm x J; omega
     ·exact absurd J e
theorem KF {x:Int}(h:-1<=x/\x<=1000000):su x=true:=by unfold su; rw [decide_eq_true]; omega
theorem TT (l:List Int) (ah:l.length<=100000) (aK:∀ x∈l,0<=x/\x<=1000000):Tot (v' l) (oW l):=by
 unfold v';refine .aA (Ξ:=oW l) ?_ λr hr=>.al hr;refine Tot.upto (λs=>s.2.2) l.length (λk s=>s.1.length=k/\(∀ x,(pj s.1 x).getD 0=((l.take k).count x:Int))/\oW (l.take k) s.2.1) rfl (by omega) ⟨rfl,λx=>by simp [pj],.inl ⟨rfl,rfl⟩⟩ λk s hk he bf=>?_;obtain ⟨m,b,i⟩:=s;obtain ⟨h1,af,aD⟩:=bf;simp only at he h1 af aD ⊢;subst he;rw [et k (by omega)];refine Tot.bt (λaN=>?_) (λdF=>.al ?_)
 ·have aN:k<l.length:=by omega
  have ao:=aK _ (List.getElem_mem aN);have fA:=l2 aN;have N8:∀ x∈l.take k,0<=x/\x<=1000000:=λx J=>aK x (List.mem_of_mem_take J);have hK:=List.count_le_length (a:=l[k]) (l:=l.take k);rw [dN aN];generalize l[k]=y at *;have au:-1<=b/\b<=1000000:=by
   rcases aD with ⟨_,rfl⟩ | ⟨h,_⟩
   ·omega
   ·have:=N8 b h; omega
  rw [List.length_take] at hK;have b9:ux su 0 m y=some ((l.take k).count y:Int):=by unfold ux; rw [if_pos (KF ⟨by omega,ao.2⟩),af]
  have b3:aG (((l.take k).count y:Int)+1)=(((l.take k).count y+1:Nat):Int):=et _ (by omega);have eP:z' su m y (((l.take k).count y+1:Nat):Int)=some ((y,(((l.take k).count y+1:Nat):Int))::m):=by
   unfold z';rw [KF ⟨by omega,ao.2⟩,Bool.true_and,if_pos (decide_eq_true (by simp only [lim]; omega))]
  have JN:∀ x,(pj ((y,(((l.take k).count y+1:Nat):Int))::m) x).getD 0=((l.take (k+1)).count x:Int):=λx=>by
   rw [fA,wX];unfold pj;by_cases e:y=x
   ·subst e; rw [if_pos rfl,if_pos rfl]; rfl
   ·rw [if_neg e,if_neg e,af]; rfl
  have lj:∀ x,(-1<=x/\x<=1000000)->ux su 0 ((y,(((l.take k).count y+1:Nat):Int))::m) x=some ((l.take (k+1)).count x:Int):=λx J=>by unfold ux; rw [if_pos (KF J),JN]
  have aw:=aD.snoc (y:=y) (λx J=>(N8 x J).1) ao.1;rw [<- fA] at aw;have kl:=List.count_le_length (a:=y) (l:=l.take (k+1));have qq:=List.count_le_length (a:=b) (l:=l.take (k+1));rw [List.length_take] at kl qq;simp only [Option.bind_some,b9,b3,eP,lj y ⟨by omega,ao.2⟩,lj b au];have hw:aG (((l.take (k+1)).count y:Int) - ((l.take (k+1)).count b:Int))=((l.take (k+1)).count y:Int) - ((l.take (k+1)).count b:Int):=by rw [cB]; omega
  rw [hw];refine .aA (Ξ:=λr:List (Int × Int) × Int=>r.1=(y,(((l.take k).count y+1:Nat):Int))::m/\oW (l.take (k+1)) r.2) ?_ λr hr=>.al ⟨aN,rfl,by rw [hr.1]; simp [h1],by rw [hr.1]; exact JN,hr.2⟩;refine .aA (Ξ:=λc:Bool=>c=decide (b<0\/(l.take (k+1)).count b<(l.take (k+1)).count y\/((l.take (k+1)).count y=(l.take (k+1)).count b/\y<b))) ?_ λc aa=>?_
  ·refine Tot.bt (λh=>.al (decide_eq_true (.inl h)).symm) (λh=>Tot.bt (λaJ=>.al (decide_eq_true (.inr (.inl (by omega)))).symm) (λaJ=>Tot.bt (λaf=>.al ?_) (λaf=>.al (decide_eq_false (by omega)).symm)));exact decide_eq_decide.2 (by omega)
  ·subst aa;refine .aA (Ξ:=λz=>z=(if b<0\/(l.take (k+1)).count b<(l.take (k+1)).count y\/((l.take (k+1)).count y=(l.take (k+1)).count b/\y<b) then y else b)) (Tot.bt (λh=>.al (if_pos h).symm) (λh=>.al (if_neg h).symm)) λz aX=>.al ⟨rfl,?_⟩
   show oW _ z;rw [aX]; exact aw
 ·have e:l.take k=l:=List.take_of_length_le (by omega);rw [e] at aD;exact aD
theorem M5 (l:List Int) (ah:l.length<=100000) (aK:∀ x∈l,0<=x/\x<=1000000):Tot (Gq l) (oW l):=by
 unfold Gq;refine .aA (Ξ:=λr:List Int=>e_ iK r/\r.length<=l.length/\∀ x,x∈r↔x∈l) ?_ λD jm=>?_
 ·refine Tot.upto (λs=>s.2) l.length (λk s=>e_ iK s.1/\s.1.length<=k/\∀ x,x∈s.1↔x∈l.take k) rfl (by omega) ⟨.nil,Nat.le_refl 0,λx=>by simp⟩ λk s hk he bf=>?_;obtain ⟨r,i⟩:=s;obtain ⟨h1,af,aD⟩:=bf;simp only at he h1 af aD ⊢;subst he;rw [et k (by omega)];refine Tot.bt (λaN=>?_) (λdF=>.al ?_)
  ·have aN:k<l.length:=by omega
   have fA:=l2 aN;rw [dN aN];generalize l[k]=y at *;refine Tot.aV (.aA (E3 r y h1 (by omega)) λc' dG=>.al ⟨aN,rfl,dG.1,by have:=dG.2.1; show c'.length<=k+1; omega,λx=>?_⟩);rw [fA,List.mem_append,List.mem_singleton,<- aD];exact dG.2.2 x
  ·have e:l.take k=l:=List.take_of_length_le (by omega);rw [e] at aD;exact ⟨h1,by omega,aD⟩
 ·obtain ⟨V3,aeH,Fh⟩:=jm;refine .aA (Ξ:=λr:Int=>oW l r) ?_ λr hr=>.al hr;refine Tot.upto (λs=>s.2.2) D.length (λk s=>(k=0/\s.1=-1/\s.2.1=0)\/(s.1∈D.take k/\s.2.1=(l.count s.1:Int)/\∀ x∈D.take k,l.count x<l.count s.1\/(l.count x=l.count s.1/\s.1<=x))) rfl (by omega) (.inl ⟨rfl,rfl,rfl⟩) λk s hk he bf=>?_;obtain ⟨b,n,i⟩:=s;simp only at he bf ⊢;subst he;rw [et k (by omega)];refine Tot.bt (λaN=>?_) (λdF=>.al ?_)
  ·have aN:k<D.length:=by omega
   have fA:=l2 aN;have Kk:=List.getElem_mem aN;have uk:∀ x∈D.take k,x<D[k]:=λx J=>by
    obtain ⟨j,ag,rfl⟩:=List.mem_iff_getElem.1 J;rw [List.length_take] at ag;rw [List.getElem_take];exact PI.1 (MH V3 (by omega) aN (by omega))
   rw [dN aN];generalize D[k]=y at *;have FH:=(Fh y).1 Kk;refine .aA (Ξ:=λr:Int × Int=>r.1∈D.take (k+1)/\r.2=(l.count r.1:Int)/\∀ x∈D.take (k+1),l.count x<l.count r.1\/(l.count x=l.count r.1/\r.1<=x)) ?_ λr hr=>.al ⟨aN,rfl,.inr hr⟩;refine .aA (Ξ:=λz:Int=>z=(l.count y:Int)) ?_ λz aX=>?_
   ·refine Tot.upto (λs=>s.2) l.length (λj s=>s.1=((l.take j).count y:Int)) rfl (by omega) (by simp) λj s ag he bf=>?_;obtain ⟨z,i⟩:=s;simp only at he bf ⊢;subst he bf;rw [et j (by omega)];refine Tot.bt (λfT=>?_) (λdF=>.al ?_)
    ·have fT:j<l.length:=by omega
     have uj:=l2 fT;have hK:=List.count_le_length (a:=y) (l:=l.take j);rw [List.length_take] at hK;rw [dN fT];generalize l[j]=x at *;simp only [Option.bind_some];refine .aA (Ξ:=λz:Int=>z=((l.take (j+1)).count y:Int)) ?_ λz aX=>.al ⟨fT,rfl,aX⟩;rw [uj,wX];refine .aA (Ξ:=λz:Int=>z=(((l.take j).count y+if x=y then 1 else 0:Nat):Int)) (Tot.bt (λe=>.al ?_) (λe=>.al ?_)) λz aX=>.al aX
     ·rw [if_pos e,et _ (by omega)]
     ·rw [if_neg e]; rfl
    ·have e:l.take j=l:=List.take_of_length_le (by omega);rw [e]; rfl
   ·subst aX;refine .aA (Ξ:=λr:Int × Int=>r.1∈D.take (k+1)/\r.2=(l.count r.1:Int)/\∀ x∈D.take (k+1),l.count x<l.count r.1\/(l.count x=l.count r.1/\r.1<=x)) ?_ λr hr=>.al hr;have pJ:=UK FH;rw [fA];have key:∀ x∈D.take k++[y],x∈D.take k\/x=y:=λx J=>by simpa using J
    refine Tot.bt (λaa=>Tot.aV (.al ⟨by simp,rfl,λx J=>?_⟩)) (λaa=>?_)
    ·rcases key x J with J | rfl
     ·rcases bf with ⟨rfl,_,_⟩ | ⟨h1,af,aD⟩
      ·simp at J
      ·have:=aD x J; show l.count x<l.count y\/_; omega
     ·exact .inr ⟨rfl,Int.le_refl _⟩
    ·rcases bf with ⟨rfl,_,rfl⟩ | ⟨h1,af,aD⟩
     ·omega
     ·refine .al ⟨by simp [h1],af,λx J=>?_⟩;rcases key x J with J | rfl
      ·exact aD x J
      ·have:=uk b h1;have aa:¬ ((n:Int)<(l.count x:Int)):=aa;have af:n=(l.count b:Int):=af;show l.count x<l.count b\/(l.count x=l.count b/\b<=x);omega
  ·have e:D.take k=D:=List.take_of_length_le (by omega);rw [e] at bf;rcases bf with ⟨rfl,rfl,_⟩ | ⟨h1,af,aD⟩
   ·have:D=[]:=List.eq_nil_of_length_eq_zero (by omega);refine .inl ⟨?_,rfl⟩;refine List.eq_nil_iff_forall_not_mem.2 λx J=>?_;have:=(Fh x).2 J
    subst_vars
    cases this
   ·exact .inr ⟨(Fh b).1 h1,λx J=>aD x ((Fh x).2 J)⟩
def hp (l:List Int):Int:=(Gq l).getD (-1)
def Hw (l:List Int):Prop:=l.length<=100000/\∀ x∈l,0<=x/\x<=1000000
theorem K2 {l:List Int}(h:Hw l):v' l=some (hp l)/\Gq l=some (hp l)/\oW l (hp l):=by
 obtain ⟨v,hv,h1⟩:=TT l h.1 h.2;obtain ⟨w,hw,af⟩:=M5 l h.1 h.2;have e:hp l=w:=by unfold hp; rw [hw]; rfl
 have b3:=h1.uniq af
 grind
def jQ {α:Type}(keep:α->Bool) (val:α->Int) (l:List α):List cG:=(l.zipIdx.filter λp=>keep p.1).map λp=>(⟨(p.2:Nat),val p.1⟩:cG)
theorem Qv {α:Type}(keep:α->Bool) (val:α->Int) (l:List α) (x:α):jQ keep val (l++[x])=jQ keep val l++(if keep x=true then [(⟨l.length,val x⟩:cG)] else []):=by
 grind [jQ]
theorem AU {α:Type}(keep:α->Bool) (val:α->Int) (l:List α):(jQ keep val l).length<=l.length:=by
 grind [jQ,List.length_zipIdx]
theorem KS {α:Type}{keep:α->Bool}{val:α->Int}{l:List α}{p:cG}:p∈jQ keep val l↔∃ (k:Nat) (x:α),l[k]?=some x/\keep x=true/\p=⟨k,val x⟩:=by
 unfold jQ;rw [List.mem_map];constructor
 ·grind
 ·rintro ⟨k,x,h1,af,rfl⟩;exact ⟨(x,k),by rw [List.mem_filter,List.mem_zipIdx_iff_getElem?]; exact ⟨h1,af⟩,rfl⟩
def red (r:List Act):List Int:=(r.filter λa=>decide (a.Kind=2)).map (·.N)
theorem Z_ (r:List Act) (a:Act):red (r++[a])=red r++(if a.Kind=2 then [a.N] else []):=by
 grind [red]
theorem QB (r:List Act):(red r).length<=r.length:=by
 grind [red]
def o2 (a:Act):Int:=(oQ a).getD 0
theorem T7 (a:Act):AQ a=some (o2 a)/\oQ a=some (o2 a):=by
 obtain ⟨c,aa,_⟩:=Rx a
 grind [o2,U6]
def oN (d:Int) (a:Act):Bool:=!decide (a.Kind=0)&&(!decide (a.Kind=2)||!decide (a.N=d))
def sB (r:List Act):Row:=⟨hp (red r),jQ (oN (hp (red r))) o2 r⟩
def pb (d v:Int):Bool:=decide (0<=v)&&!decide (v=d)
def pos (c:List Int):List Int:=c.filter λv=>decide (0<=v)
theorem ZT (r:List Int) (a:Int):pos (r++[a])=pos r++(if 0<=a then [a] else []):=by
 grind [pos]
def qK (c:List Int):Row:=⟨hp (pos c),jQ (pb (hp (pos c))) id c⟩
def f' (d:gP) (a:Nat):List Int:=d.eB.map λr=>r.getD a 0
theorem QC {g:bD}{n:Nat}(aP:fZ g) {r:List Act}(ah:r.length=g.br.length) (h:∀ a∈r,oU g n a):Hw (red r):=by
 have ar:=aP.k9;have aq:=aP.jt;have:=QB r;refine ⟨by omega,λx J=>?_⟩;unfold red at J;obtain ⟨a,aI,rfl⟩:=List.mem_map.1 J;rw [List.mem_filter] at aI;have hk:=(h a aI.1).n_ (of_decide_eq_true aI.2);have h1:=hk.1;have af:=hk.2;omega
theorem ZS {c:List Int}(ah:c.length<=150) (h:∀ v∈c,v<150):Hw (pos c):=by
 have:=List.length_filter_le (λv:Int=>decide (0<=v)) c;refine ⟨by unfold pos; omega,λx J=>?_⟩
 grind [pos]
theorem TM (g:bD) (n:Nat) (d:gP) (aO:yO g n d):Tot (DJ d) λr=>r=d.cz.map sB:=by
 have aP:=aO.oC;have ar:=aP.k9;have aB:=aO.gJ;have aI:=aO.a;unfold DJ;refine .aA (Ξ:=λr:List Row=>r=d.cz.map sB) ?_ λr hr=>.al hr;refine Tot.upto (λs=>s.2) d.cz.length (λk s=>s.1=(d.cz.take k).map sB) rfl (by omega) rfl λk s hk he bf=>?_;obtain ⟨R,i⟩:=s;simp only at he bf ⊢;subst he bf;rw [et k (by omega)];refine Tot.bt (λaN=>?_) (λdF=>.al ?_)
 ·have aN:k<d.cz.length:=by omega
  have fA:=l2 aN;obtain ⟨oI,vD⟩:=aO.kU _ (List.getElem_mem aN);simp only [dN aN,Option.bind_some];generalize d.cz[k]=r at *;have qu:=QC aP oI vD;obtain ⟨BL,U4,_⟩:=K2 qu;refine .aA (Ξ:=λl:List Int=>l=red r) ?_ λl ah=>?_
  ·refine Tot.upto (λs=>s.2) r.length (λj s=>s.1=red (r.take j)) rfl (by omega) rfl λj s ag he bf=>?_;obtain ⟨L,i⟩:=s;simp only at he bf ⊢;subst he bf;rw [et j (by omega)];refine Tot.bt (λfT=>?_) (λdF=>.al ?_)
   ·have fT:j<r.length:=by omega
    have uj:=l2 fT;have hlen:=QB (r.take j);rw [List.length_take] at hlen;simp only [dN fT,Option.bind_some];generalize r[j]=a at *;refine .aA (Ξ:=λL:List Int=>L=red (r.take (j+1))) ?_ λr hr=>.al ⟨fT,rfl,hr⟩;rw [uj,Z_];refine .aA (Ξ:=λL:List Int=>L=red (r.take j)++(if a.Kind=2 then [a.N] else [])) (Tot.bt (λh=>?_) (λh=>.al ?_)) λr hr=>.al hr
    ·rw [if_pos h];exact .bK<|.al rfl
    grind
   grind
  ·subst ah;rw [BL];refine Tot.aV (.aA (Ξ:=λl:List cG=>l=jQ (oN (hp (red r))) o2 r) ?_ λl ah=>?_)
   ·generalize hp (red r)=D;refine Tot.upto (λs=>s.2) r.length (λj s=>s.1=jQ (oN D) o2 (r.take j)) rfl (by omega) rfl λj s ag he bf=>?_;obtain ⟨L,i⟩:=s;simp only at he bf ⊢;subst he bf;rw [et j (by omega)];refine Tot.bt (λfT=>?_) (λdF=>.al ?_)
    ·have fT:j<r.length:=by omega
     have uj:=l2 fT;have hlen:=AU (oN D) o2 (r.take j);have ez:(r.take j).length=j:=by rw [List.length_take]; omega
     rw [List.length_take] at hlen;simp only [dN fT,Option.bind_some];generalize r[j]=a at *;rw [(T7 a).1];refine .aA (Ξ:=λL:List cG=>L=jQ (oN D) o2 (r.take (j+1))) ?_ λr hr=>.al ⟨fT,rfl,hr⟩;rw [uj,Qv,ez];refine .aA (Ξ:=λc:Bool=>c=oN D a) (Tot.bM (λh=>?_) (λh=>.al ?_)) λc aa=>?_
     ·refine Tot.bM (λaf=>.al ?_) (λaf=>.al ?_)
      all_goals grind [oN]
     ·grind [oN]
     subst aa;refine .aA (Ξ:=λL:List cG=>L=jQ (oN D) o2 (r.take j)++(if oN D a=true then [(⟨j,o2 a⟩:cG)] else [])) (Tot.bM (λh=>?_) (λh=>.al ?_)) λr hr=>.al hr
     ·rw [if_pos h];exact Tot.aV (.bK<|.al rfl)
     grind
    grind
   ·subst ah;refine .bK<|.al ⟨aN,rfl,?_⟩
    grind [sB]
 grind
theorem BD (d:gP) (a:Nat):(f' d a).length=d.eB.length:=by simp [f']
theorem M' {d:gP}{a q:Nat}(h:q<d.eB.length):(f' d a).take (q+1)=(f' d a).take q++[(d.eB[q]).getD a 0]:=by
 rw [l2 (by rw [BD]; exact h)];congr 2;simp [f']
theorem T8 {g:bD}{n:Nat}{d:gP}(aO:yO g n d) {a:Nat}(aI:a<g.dC.length):∀ v∈f' d a,-1<=v/\v<n:=λv hv=>by
 unfold f' at hv;obtain ⟨r,hr,rfl⟩:=List.mem_map.1 hv;obtain ⟨h1,af⟩:=aO.Gh r hr;refine af _ ?_;rw [List.getD_eq_getElem?_getD,List.getElem?_eq_getElem (by omega)];exact List.getElem_mem _
theorem Pb {r:List Int}{a:Nat}(h:a<r.length):idx r (a:Int)=some (r.getD a 0):=by
 rw [dN h,List.getD_eq_getElem?_getD,List.getElem?_eq_getElem h]; rfl
theorem ZR (c:List Int):(pos c).length<=c.length:=List.length_filter_le ..
theorem TN (g:bD) (n:Nat) (d:gP) (aO:yO g n d):Tot (DK d) λr=>r=(List.range g.dC.length).map λa=>qK (f' d a):=by
 have aP:=aO.oC;have ar:=aP.eW;have aB:=aO.gJ;have aI:=aO.o;have aK:0<d.eB.length:=by omega
 obtain ⟨afg,_⟩:=aO.Gh _ (List.getElem_mem aK);have i0:idx d.eB 0=some d.eB[0]:=dN (k:=0) aK;unfold DK;refine Tot.bt (λh=>absurd h (by omega)) (λ_=>?_);rw [i0];refine Tot.aV (.aA (Ξ:=λr:List Row=>r=(List.range g.dC.length).map λa=>qK (f' d a)) ?_ λr hr=>.al hr);refine Tot.upto (λs=>s.2) g.dC.length (λk s=>s.1=(List.range k).map λa=>qK (f' d a)) rfl (by omega) rfl λk s hk he bf=>?_;obtain ⟨R,i⟩:=s;simp only at he bf ⊢;subst he bf;rw [et k (by omega)];refine Tot.bt (λaN=>?_) (λdF=>.al ?_)
 ·have ig:k<g.dC.length:=by omega
  have qu:=ZS (c:=f' d k) (by rw [BD]; omega) λv hv=>by have:=(T8 aO ig v hv).2; omega
  obtain ⟨BL,U4,_⟩:=K2 qu;have hK:=BD d k;refine .aA (Ξ:=λl:List Int=>l=pos (f' d k)) ?_ λl ah=>?_
  ·refine Tot.upto (λs=>s.2) d.eB.length (λj s=>s.1=pos ((f' d k).take j)) rfl (by omega) rfl λj s ag he bf=>?_;obtain ⟨L,i⟩:=s;simp only at he bf ⊢;subst he bf;rw [et j (by omega)];refine Tot.bt (λfT=>?_) (λdF=>.al ?_)
   ·have fT:j<d.eB.length:=by omega
    have uj:=M' (a:=k) fT;have hlen:=ZR ((f' d k).take j);rw [List.length_take] at hlen;obtain ⟨oI,_⟩:=aO.Gh _ (List.getElem_mem fT);simp only [dN fT,Option.bind_some,Pb (show k<(d.eB[j]).length by omega)];generalize (d.eB[j]).getD k 0=v at *;refine .aA (Ξ:=λL:List Int=>L=pos ((f' d k).take (j+1))) ?_ λr hr=>.al ⟨fT,rfl,hr⟩;rw [uj,ZT];refine .aA (Ξ:=λL:List Int=>L=pos ((f' d k).take j)++(if 0<=v then [v] else [])) (Tot.bt (λh=>?_) (λh=>.al ?_)) λr hr=>.al hr
    ·rw [if_pos h];exact .bK<|.al rfl
    ·rw [if_neg h,List.append_nil]
   ·have e:(f' d k).take j=f' d k:=List.take_of_length_le (by omega);rw [e]; rfl
  ·subst ah;rw [BL];refine Tot.aV (.aA (Ξ:=λl:List cG=>l=jQ (pb (hp (pos (f' d k)))) id (f' d k)) ?_ λl ah=>?_)
   ·generalize hp (pos (f' d k))=D;refine Tot.upto (λs=>s.2) d.eB.length (λj s=>s.1=jQ (pb D) id ((f' d k).take j)) rfl (by omega) rfl λj s ag he bf=>?_;obtain ⟨L,i⟩:=s;simp only at he bf ⊢;subst he bf;rw [et j (by omega)];refine Tot.bt (λfT=>?_) (λdF=>.al ?_)
    ·have fT:j<d.eB.length:=by omega
     have uj:=M' (a:=k) fT;have hlen:=AU (pb D) id ((f' d k).take j);have ez:((f' d k).take j).length=j:=by rw [List.length_take]; omega
     rw [ez] at hlen;obtain ⟨oI,_⟩:=aO.Gh _ (List.getElem_mem fT);simp only [dN fT,Option.bind_some,Pb (show k<(d.eB[j]).length by omega)];generalize (d.eB[j]).getD k 0=v at *;refine .aA (Ξ:=λL:List cG=>L=jQ (pb D) id ((f' d k).take (j+1))) ?_ λr hr=>.al ⟨fT,rfl,hr⟩;rw [uj,Qv,ez];refine .aA (Ξ:=λc:Bool=>c=pb D v) (Tot.bM (λh=>.al ?_) (λh=>.al ?_)) λc aa=>?_
     ·unfold pb; rw [h]; rfl
     ·unfold pb; rw [h]; rfl
     subst aa;refine .aA (Ξ:=λL:List cG=>L=jQ (pb D) id ((f' d k).take j)++(if pb D v=true then [(⟨j,id v⟩:cG)] else [])) (Tot.bM (λh=>?_) (λh=>.al ?_)) λr hr=>.al hr
     ·rw [if_pos h];exact .bK<|.al rfl
     ·rw [if_neg (by rw [h]; decide),List.append_nil]
    ·have e:(f' d k).take j=f' d k:=List.take_of_length_le (by omega);rw [e]; rfl
   ·subst ah;refine .bK<|.al ⟨ig,rfl,?_⟩;show _=(List.range (k+1)).map λa=>qK (f' d a);rw [List.range_succ,List.map_append]; rfl
 ·have:k=g.dC.length:=by omega
  subst this; rfl
theorem ZW {α:Type}(keep:α->Bool) (val:α->Int) (l:List α):(jQ keep val l).Pairwise λa b=>a.At<b.At:=by
 unfold jQ;rw [List.pairwise_map];refine List.Pairwise.sublist List.filter_sublist ?_;rw [List.pairwise_iff_getElem];intro i j hi ag ae4;simp only [List.getElem_zipIdx];omega
theorem Tv (P:List cG) (i:Int) (h:P.length<=1000000):Tot (Ap P i) λr=>(∃ v,(⟨i,v⟩:cG)∈P/\r=(v,true))\/((∀ v,(⟨i,v⟩:cG)∉P)/\r=(0,false)):=by
 unfold Ap;refine .aA (Ξ:=h0 (λ_=>∀ v,(⟨i,v⟩:cG)∉P) (λr:Int × Bool=>∃ v,(⟨i,v⟩:cG)∈P/\r=(v,true))) ?_ λx J=>?_
 ·refine Tot.upto (λs=>s) P.length (λk _=>∀ v,(⟨i,v⟩:cG)∉P.take k) rfl (by omega) (by simp) λk s hk he bf=>?_;subst he;rw [et k (by omega)];refine Tot.bt (λaN=>?_) (λ_=>.al ?_)
  ·have aN:k<P.length:=by omega
   have fA:=l2 aN;have hm:=List.getElem_mem aN;simp only [dN aN,Option.bind_some];generalize P[k]=p at *;refine Tot.bt (λe=>.al ⟨p.cb,by rw [<- e]; exact hm,rfl⟩) (λe=>.al ⟨aN,rfl,λv hv=>?_⟩);rw [fA,List.mem_append,List.mem_singleton] at hv;rcases hv with hv | hv
   ·exact bf v hv
   ·exact e (by rw [<- hv])
  ·have e:P.take k=P:=List.take_of_length_le (by omega);rw [e] at bf;exact bf
 ·rcases x with x | x
  ·exact .al (.inr ⟨J,rfl⟩)
  ·exact .al (.inl J)
theorem VA {α:Type}{keep:α->Bool}{val:α->Int}{l:List α}{k:Nat}{x:α}(ah:l.length<=1000000) (hk:l[k]?=some x):Ap (jQ keep val l) (k:Int)=some (if keep x=true then (val x,true) else (0,false)):=by
 obtain ⟨r,hr,h⟩:=Tv (jQ keep val l) k (by have:=AU keep val l; omega);rw [hr];have key:∀ v,(⟨(k:Nat),v⟩:cG)∈jQ keep val l↔keep x=true/\v=val x:=λv=>by
  rw [KS];constructor
  ·rintro ⟨j,y,h1,af,aD⟩;simp only [cG.mk.injEq] at aD;have:k=j:=by omega
   subst this;rw [hk] at h1; cases h1;exact ⟨af,aD.2⟩
  ·rintro ⟨h1,rfl⟩;exact ⟨k,x,hk,h1,rfl⟩
 rcases h with ⟨v,h1,rfl⟩ | ⟨h1,rfl⟩
 ·obtain ⟨af,rfl⟩:=(key v).1 h1;rw [if_pos af]
 ·rw [if_neg λh=>h1 (val x) ((key _).2 ⟨h,rfl⟩)]
theorem T6 {g:bD}{n:Nat}(aP:fZ g) (aB:n<=150) {a:Act}(h:oU g n a) (aK:a.Kind≠0):x8 (o2 a)=some a:=by
 rw [UZ];obtain ⟨c,aa,aO⟩:=TU a;have aq:=aP.jt;have:o2 a=c:=by unfold o2; rw [aa]; rfl
 rw [this];refine aO.resolve_left λe=>?_;subst e;obtain ⟨K,N⟩:=a;have h1:=h.k;simp only at h1 aK;have:K=1\/K=2\/K=3\/K=4:=by omega
 rcases this with rfl | rfl | rfl | rfl
 ·have af:=h.nF rfl;simp only at af;have aD:0<=N/\N<=19999:=by omega
  have e:aG (N+1)=N+1:=by rw [cB]; omega
  simp [oQ,aD,e] at aa;omega
 ·have af:=h.n_ rfl;have bm:=af.1;have b7:=af.2;simp only at bm b7;have aD:1<=N/\N<=19999:=by omega
  have e:aG (-N)=-N:=by rw [cB]; omega
  simp [oQ,aD,e] at aa;omega
 ·have af:N=0:=h.PO rfl;subst af;have:oQ ⟨3,0⟩=some 20001:=by decide
  rw [this] at aa; cases aa
 ·have af:N=0:=h.Y_ rfl;subst af;have:oQ ⟨4,0⟩=some 20002:=by decide
  rw [this] at aa; cases aa
abbrev fq:=List cG
structure lF (r:fq):Prop where
 oy:∀ p∈r,0<=p.At/\p.At<=999
 nd:(r.map (·.At)).Nodup
def Fit (jh:List Int) (r:fq) (b:Nat):Prop:=∀ p∈r,jh.getD (b+p.At.toNat) 0=0
theorem tb {α:Type}{l:List α}{k:Nat}(h:k<l.length):idx l (k:Int)=some l[k]:=by simp [idx,h]
theorem TF (p:cG) (b:Nat) (jh:List Int) (aq:0<=p.At/\p.At<=999) (au:b<=1000000000000) (aa:jh.length<=1000000000000):Tot (Dy p b jh) λc=>(c=true↔jh.getD (b+p.At.toNat) 0≠0):=by
 unfold Dy;have hw:aG ((b:Int)+p.At)=((b+p.At.toNat:Nat):Int):=by rw [cB]; omega
 rw [hw];refine .aA (Ξ:=λc=>(c=true↔jh.getD (b+p.At.toNat) 0≠0)) (Tot.bt (λh=>?_) (λh=>.al ?_)) λc aa=>.al aa
 ·have ah:b+p.At.toNat<jh.length:=by omega
  rw [tb ah];refine Tot.aV (.al ?_);rw [List.getD_eq_getElem?_getD,List.getElem?_eq_getElem ah];simp
 ·have ah:¬ b+p.At.toNat<jh.length:=by omega
  rw [List.getD_eq_getElem?_getD,List.getElem?_eq_none (by omega)];simp
theorem Tz (jh:List Int) (r:fq) (b:Nat) (hr:∀ p∈r,0<=p.At/\p.At<=999) (ah:r.length<=100000) (au:b<=1000000000000) (aa:jh.length<=1000000000000):Tot (x5 jh r b) λc=>(c=true↔Fit jh r b):=by
 unfold x5 Gk Gl;refine .aA (Ξ:=λx=>x=true↔¬ Fit jh r b) (.aA (Ξ:=λx=>(x=-1/\Fit jh r b)\/(0<=x/\¬ Fit jh r b)) ?_ λx J=>.al ?_) λx J=>.al ?_
 ·refine Tot.aA (Tot.scan r (λp=>jh.getD (b+p.At.toNat) 0=0) (λx:Int=>0<=x/\¬ Fit jh r b) (by omega) (λs y aK h1 hi hm=>?_) (λs aw=>by simp [aw])) λx J=>?_
  ·refine Tot.bt (λ_=>?_) (λh=>absurd h1 h);rw [hi];refine Tot.aV (.aA (TF y b jh (hr y hm) au aa) λc xi=>Tot.bM (λh=>.al ⟨aK,λaT=>(xi.1 h) (aT y hm)⟩) (λh=>.al ⟨?_,?_⟩))
   ·rw [cB]; omega
   ·exact Classical.byContradiction λaB=>by rw [xi.2 aB] at h; cases h
  ·rcases x with _ | x
   ·exact .al (.inl ⟨rfl,J⟩)
   ·exact .al (.inr J)
 ·rcases J with ⟨rfl,aT⟩ | ⟨aK,aT⟩
  ·simp [aT]
  ·simp [aK,aT]
 ·cases x <;> simp_all
theorem zn (l:List Int) (h:l.length<=100000000000000000):Tot (tl l l) λc=>c=true:=by
 unfold tl;refine Tot.pA (λh=>absurd rfl h) (λ_=>?_);refine Tot.aA (Tot.scan l (λ_=>True) (λ_=>False) h (λs y aK h1 hi hm=>?_) (λs aw=>by simp [aw])) λx J=>?_
 ·refine Tot.bt (λ_=>?_) (λh=>absurd h1 h);rw [hi];refine Tot.aV (Tot.aV (Tot.pA (λh=>absurd rfl h) (λ_=>.al ⟨?_,trivial⟩)));rw [cB]; omega
 ·rcases x with _ | x
  ·exact .al rfl
  ·exact (J:False).elim
theorem TO (a b:Int):tm a b=some (if a<b then -1 else if b<a then 1 else 0):=by
 unfold tm;have h:∀ x,wa x=some false:=λx=>by simp [wa]
 rw [h,h];by_cases h1:a<b
 ·simp [h1]
 ·by_cases af:b<a <;> simp [h1,af]
theorem Ty (a b:Int):Dn [a,b]=some (if a=0 then b else a):=by
 unfold Dn;have gi:∀ (f:Int->Option (Int ⊕ (Unit ⊕ Int))),f 0=(if a=0 then some (.inl 1) else some (.inr (.inr a)))->f 1=(if b=0 then some (.inl 2) else some (.inr (.inr b)))->f 2=some (.inr (.inl ()))->cf f 0=some (if a=0 then (if b=0 then .inl () else .inr b) else .inr a):=by
  intro f x y z;show iter f (999999999999999997+1+1+1) _=_;by_cases aI:a=0
  ·by_cases au:b=0 <;> simp only [iter,x,y,z,aI,au,if_true,if_false]
  ·simp only [iter,x,aI,if_false]
 rw [gi _ ?_ ?_ ?_]
 ·by_cases aI:a=0
  ·by_cases au:b=0 <;> simp [aI,au]
  ·simp [aI]
 ·show (bif decide ((0:Int)<2) then _ else _)=_;have e:idx [a,b] 0=some a:=rfl;simp only [e,Option.bind_some];by_cases aI:a=0 <;> simp [aI];rfl
 ·show (bif decide ((1:Int)<2) then _ else _)=_;have e:idx [a,b] 1=some b:=rfl;simp only [e,Option.bind_some];by_cases au:b=0 <;> simp [au];rfl
 ·rfl
def Ey (rows:List fq) (a b:Int):Prop:=∃ x y,idx rows a=some x/\idx rows b=some y/\(y.length<x.length\/(x.length=y.length/\a<b))
theorem FO {α:Type}{l:List α}{i:Int}(aK:0<=i) (h1:i<l.length):∃ y,idx l i=some y/\y∈l:=by
 have aN:i.toNat<l.length:=by omega
 exact ⟨l[i.toNat],by simp [idx,aK,aN],List.getElem_mem aN⟩
theorem Tx (rows:List fq) (a b:Int) (aI:0<=a/\a<rows.length) (au:0<=b/\b<rows.length):∃ v,vU a b rows=some v/\(v<0↔Ey rows a b):=by
 obtain ⟨x,J,_⟩:=FO aI.1 aI.2;obtain ⟨y,ao,_⟩:=FO au.1 au.2;unfold vU;rw [J,ao];simp only [Option.bind_some,TO,Ty];have eV:Ey rows a b↔(y.length<x.length\/(x.length=y.length/\a<b)):=by
  unfold Ey;rw [J,ao];constructor
  ·rintro ⟨x',y',b9,b3,h⟩;cases b9; cases b3; exact h
  ·intro h;exact ⟨x,y,rfl,rfl,h⟩
 refine ⟨_,rfl,?_⟩;rw [eV];by_cases h1:(y.length:Int)<x.length
 ·simp only [h1,if_true];rw [if_neg (by decide)];constructor
  ·intro _; exact .inl (by omega)
  ·intro _; decide
 ·by_cases af:(x.length:Int)<y.length
  ·simp only [h1,af,if_true,if_false];rw [if_neg (by decide)];constructor
   ·intro h; exact absurd h (by decide)
   ·rintro (h | ⟨h,_⟩) <;> omega
  ·simp only [h1,af,if_false,if_true];by_cases aD:a<b
   ·simp only [aD,if_true];constructor
    ·intro _; exact .inr ⟨by omega,trivial⟩
    ·intro _; decide
   ·simp only [aD,if_false];constructor
    ·intro h
     split at h <;> omega
    ·rintro (h | ⟨_,h⟩)
     ·omega
     ·exact h.elim
structure tD (c:hZ) (r:fq) (i b:Nat) (v bZ:List Int):Prop where
 len:v.length=bZ.length
 lo:c.b_.length<=bZ.length
 Pd:∀ p∈r,b+p.At.toNat<bZ.length
 hi:bZ.length=c.b_.length\/∃ p∈r,bZ.length=b+p.At.toNat+1
 jh:∀ p∈r,bZ.getD (b+p.At.toNat) 0=(i:Int)+1
 BC:∀ k,(∀ p∈r,b+p.At.toNat≠k)->bZ.getD k 0=c.b_.getD k 0
 val:∀ p∈r,v.getD (b+p.At.toNat) 0=p.cb
 LN:∀ k,(∀ p∈r,b+p.At.toNat≠k)->v.getD k 0=c.cb.getD k 0
structure Step (r:fq) (i:Nat) (c cg:hZ) (b:Nat):Prop where
 fit:Fit c.b_ r b
 least:∀ dR,dR<b->¬ Fit c.b_ r dR
 base:cg.cX=c.cX.set i (b:Int)
 put:tD c r i b cg.cb cg.b_
inductive om (rows:List fq):List Nat->hZ->Prop
 | nil:om rows [] ⟨List.replicate rows.length 0,[],[]⟩
 | cons {i b:Nat}{l:List Nat}{c cg:hZ}{r:fq}(hr:rows[i]?=some r) (hi:i∉l) (h:om rows l c) (aw:Step r i c cg b):om rows (i::l) cg
theorem om.len {rows:List fq}{l:List Nat}{c:hZ}(h:om rows l c):c.cb.length=c.b_.length/\c.cX.length=rows.length:=by
 induction h with
 | nil=>simp
 | cons _ _ _ aw aM=>exact ⟨aw.put.len,by rw [aw.base,List.length_set]; exact aM.2⟩
theorem om.rest {rows:List fq}{l:List Nat}{c:hZ}(h:om rows l c):∀ j,j<rows.length->j∉l->c.cX[j]?=some 0:=by
 induction h with
 | nil=>intro j ag _; simp [ag]
 | @cons i b l c cg r hr hi h aw aM =>
  intro j ag aB;rw [aw.base,List.getElem?_set_ne (by rintro rfl; exact aB (by simp))];exact aM j ag λbP=>aB (by simp [bP])
theorem pad (x y:Int) (K:Nat) (cZ:aG (x+y)=(K:Int)) (aeL:K<=1000000000) (v bZ:List Int) (ah:v.length=bZ.length) (au:bZ.length<=1000000000) :
  Tot (cf (R:=List Int × List Int) (λ(s:List Int × List Int) =>
(bif decide ((s.2.length:Int)<=aG (x+y)) then
(cT s.2 [0]).bind λgK =>
(cT s.1 [0]).bind λkL =>
some (.inl (s.1++[0],s.2++[0]))
else
some (.inr (s.1,s.2)))) (v,bZ)) λr=>r.1.length=r.2.length/\r.2.length=max bZ.length (K+1)/\(∀ k,r.1.getD k 0=v.getD k 0)/\∀ k,r.2.getD k 0=bZ.getD k 0:=by
 have app:∀ (l:List Int) k,(l++[0]).getD k 0=l.getD k 0:=by
  intro l k;rw [List.getD_eq_getElem?_getD,List.getD_eq_getElem?_getD];by_cases hk:k<l.length
  ·rw [List.getElem?_append_left hk]
  ·rw [List.getElem?_append_right (by omega),List.getElem?_eq_none (l:=l) (by omega)];by_cases aK:k - l.length=0
   ·rw [aK]; rfl
   ·rw [List.getElem?_eq_none (by simp; omega)]
 refine Tot.loop (λs=>s.1.length=s.2.length/\bZ.length<=s.2.length/\s.2.length<=max bZ.length (K+1)/\(∀ k,s.1.getD k 0=v.getD k 0)/\∀ k,s.2.getD k 0=bZ.getD k 0) (λs=>(K+1) - s.2.length) ⟨ah,Nat.le_refl _,Nat.le_max_left _ _,λ_=>rfl,λ_=>rfl⟩ (by show (K+1) - bZ.length<1000000000000000000; omega) λs aw=>?_;obtain ⟨h1,af,aD,bm,b7⟩:=aw;rw [cZ];refine Tot.bt (λhle=>?_) (λaeZ=>.al ⟨h1,?_,bm,b7⟩)
 ·refine .bK<|.bK<|.al ⟨⟨?_,?_,?_,λk=>?_,λk=>?_⟩,?_⟩
  ·show (s.1++[0]).length=(s.2++[0]).length; simp [h1]
  ·show bZ.length<=(s.2++[0]).length; simp; omega
  ·show (s.2++[0]).length<=_; simp; omega
  ·exact (app _ _).trans (bm k)
  ·exact (app _ _).trans (b7 k)
  ·show (K+1) - (s.2++[0]).length<(K+1) - s.2.length;simp; omega
 ·show s.2.length=_; omega
theorem zw (l:List Int) (K k:Nat) (x:Int) (h:K<l.length):(l.set K x).getD k 0=if k=K then x else l.getD k 0:=by
 rw [List.getD_eq_getElem?_getD,List.getElem?_set];by_cases e:k=K
 ·subst e; simp [h]
 ·simp [e,Ne.symm e,List.getD_eq_getElem?_getD]
theorem tD.more {c:hZ}{r:fq}{p:cG}{i b:Nat}{v bZ dH BB:List Int}(h:tD c r i b v bZ) (aq:∀ q∈r,q.At.toNat≠p.At.toNat) (ah:dH.length=BB.length) (hlen:BB.length=max bZ.length (b+p.At.toNat+1)) (hv:∀ k,dH.getD k 0=v.getD k 0) (aa:∀ k,BB.getD k 0=bZ.getD k 0) :
  tD c (r++[p]) i b (dH.set (b+p.At.toNat) p.cb) (BB.set (b+p.At.toNat) ((i:Int)+1)):=by
 have cZ:b+p.At.toNat<BB.length:=by omega
 have mem:∀ {Q:cG->Prop},(∀ q∈r,Q q)->Q p->∀ q∈r++[p],Q q:=λh1 af q a8=>by
  rcases List.mem_append.1 a8 with a8 | a8
  ·exact h1 q a8
  ·rw [List.mem_singleton.1 a8]; exact af
 refine ⟨by simp [ah],?_,mem (λq a8=>?_) ?_,?_,mem (λq a8=>?_) ?_,λk hk=>?_,mem (λq a8=>?_) ?_,λk hk=>?_⟩
 ·rw [List.length_set]; have:=h.lo; omega
 ·rw [List.length_set]; have:=h.Pd q a8; omega
 ·rw [List.length_set]; exact cZ
 ·rw [List.length_set];by_cases hm:bZ.length<=b+p.At.toNat+1
  ·exact .inr ⟨p,by simp,by omega⟩
  ·rcases h.hi with e | ⟨q,a8,e⟩
   ·exact .inl (by omega)
   ·exact .inr ⟨q,by simp [a8],by omega⟩
 ·rw [zw _ _ _ _ cZ,if_neg (by have:=aq q a8; omega),aa]; exact h.jh q a8
 ·rw [zw _ _ _ _ cZ,if_pos rfl]
 ·rw [zw _ _ _ _ cZ,if_neg (λe=>hk p (by simp) e.symm),aa]; exact h.BC k λq a8=>hk q (by simp [a8])
 ·rw [zw _ _ _ _ (by rw [ah]; exact cZ),if_neg (by have:=aq q a8; omega),hv]; exact h.val q a8
 ·rw [zw _ _ _ _ (by rw [ah]; exact cZ),if_pos rfl]
 ·rw [zw _ _ _ _ (by rw [ah]; exact cZ),if_neg (λe=>hk p (by simp) e.symm),hv]; exact h.LN k λq a8=>hk q (by simp [a8])
theorem tD.nil (c:hZ) (i b:Nat) (ah:c.cb.length=c.b_.length):tD c [] i b c.cb c.b_ :=
 ⟨ah,Nat.le_refl _,λ_ h=>absurd h (by simp),.inl rfl,λ_ h=>absurd h (by simp),λ_ _=>rfl,λ_ h=>absurd h (by simp),λ_ _=>rfl⟩
theorem Fit.Nu {jh:List Int}{r:fq}{b:Nat}(h:jh.length<=b):Fit jh r b:=λp _=>by
 rw [List.getD_eq_getElem?_getD,List.getElem?_eq_none (by omega)]; rfl
theorem Q4 {r:fq}{k:Nat}(hr:lF r) (hk:k<r.length):∀ q∈r.take k,q.At.toNat≠(r[k]).At.toNat:=by
 intro q a8 e;obtain ⟨j,ag,rfl⟩:=List.mem_iff_getElem.1 a8;rw [List.length_take] at ag;have ez:j<r.length:=by omega
 rw [List.getElem_take] at e;have h1:=hr.oy _ (List.getElem_mem ez);have af:=hr.oy _ (List.getElem_mem hk);have eA:=hr.nd;have:=(List.getElem_inj (h₀:=by simpa using ez) (h₁:=by simpa using hk) eA).1 (by simp only [List.getElem_map]; omega);omega
structure p_ (rows:List fq):Prop where
 n:rows.length<=400
 rows:∀ r∈rows,lF r
structure EL (rows:List fq):Prop where
 n:rows.length<=1000
 r:∀ r∈rows,r.length<=1000
theorem aaB (rows:List fq) (eV:EL rows) (i:Nat) (r:fq) (hr:rows[i]?=some r) (lQ:lF r) (c:hZ) (aa:c.b_.length<=900000) (aK:c.cX[i]?=some 0) (fits:List Int->fq->Int->Option Bool)
  (aT:∀ b:Nat,b<=1000000->Tot (fits c.b_ r b) λx=>(x=true↔Fit c.b_ r b)) :
  Tot (cf (R:=List Int) (λ(dh:List Int) =>
(idx rows (i:Int)).bind λiB =>
(idx dh (i:Int)).bind λfY =>
(fits c.b_ iB fY).bind λhQ =>
(bif !hQ then
(idx dh (i:Int)).bind λjS =>
some (.inl (dh.set (i:Int).toNat (aG (jS+1))))
else
some (.inr dh))) c.cX) λB=>∃ b:Nat,B=c.cX.set i (b:Int)/\Fit c.b_ r b/\(∀ dR,dR<b->¬ Fit c.b_ r dR)/\b<=c.b_.length:=by
 have uf:i<c.cX.length:=(List.getElem?_eq_some_iff.1 aK).1;have Cl:idx rows (i:Int)=some r:=by simp [idx,hr]
 have XX:c.cX=c.cX.set i 0:=by
  apply List.ext_getElem?;intro k;rw [List.getElem?_set];by_cases e:i=k
  ·subst e; rw [aK]; simp [uf]
  ·simp [e]
 have key:Tot (cf (R:=List Int) (λ(dh:List Int) =>
(idx rows (i:Int)).bind λiB =>
(idx dh (i:Int)).bind λfY =>
(fits c.b_ iB fY).bind λhQ =>
(bif !hQ then
(idx dh (i:Int)).bind λjS =>
some (.inl (dh.set (i:Int).toNat (aG (jS+1))))
else
some (.inr dh))) (c.cX.set i 0)) λB=>∃ b:Nat,B=c.cX.set i (b:Int)/\Fit c.b_ r b/\(∀ dR,dR<b->¬ Fit c.b_ r dR)/\b<=c.b_.length:=by
  refine Tot.loop (λs=>∃ b:Nat,s=c.cX.set i (b:Int)/\(∀ dR,dR<b->¬ Fit c.b_ r dR)/\b<=c.b_.length) (λs=>c.b_.length+1 - (s.getD i 0).toNat) ⟨0,rfl,λdR h=>absurd h (Nat.not_lt_zero _),Nat.zero_le _⟩ (by show c.b_.length+1 - _<1000000000000000000; omega) λs aw=>?_;obtain ⟨b,rfl,ah,au⟩:=aw;have J3:idx (c.cX.set i (b:Int)) (i:Int)=some (b:Int):=by
   simp [idx,uf]
  rw [Cl,J3];refine Tot.aV (Tot.aV (.aA (aT b (by omega)) λx J=>?_));refine Tot.bM (λh=>Tot.aV (.al ⟨⟨b+1,?_,λdR j2=>?_,?_⟩,?_⟩)) (λh=>.al ⟨b,rfl,J.1 (by simpa using h),ah,au⟩)
  ·have hw:aG ((b:Int)+1)=((b+1:Nat):Int):=by rw [cB]; omega
   rw [hw];show (c.cX.set i (b:Int)).set i _=_;rw [List.set_set]
  ·by_cases e:dR=b
   ·subst e;intro xk;rw [J.2 xk] at h; cases h
   ·exact ah dR (by omega)
  ·have:¬ c.b_.length<=b:=λaJ=>by
    rw [J.2 (Fit.Nu aJ)] at h; cases h
   omega
  ·have hw:aG ((b:Int)+1)=((b+1:Nat):Int):=by rw [cB]; omega
   rw [hw];show c.b_.length+1 - ((((c.cX.set i (b:Int)).set i ((b+1:Nat):Int)).getD i 0).toNat)<c.b_.length+1 - ((c.cX.set i (b:Int)).getD i 0).toNat;rw [List.set_set];have g:∀ x:Int,(c.cX.set i x).getD i 0=x:=λx=>by simp [List.getD_eq_getElem?_getD,uf]
   rw [g,g];have:¬ c.b_.length<=b:=λaJ=>by
    rw [J.2 (Fit.Nu aJ)] at h; cases h
   omega
 rw [<- XX] at key;exact key
theorem ZY (r:fq) (lQ:lF r) (oI:r.length<=1000) (i b:Nat) (hi:i<=100000) (c:hZ) (hK:c.cb.length=c.b_.length) (aa:c.b_.length<=900000) (au:b<=c.b_.length)
  (f:List Int × List Int × Int->Option ((List Int × List Int × Int) ⊕ (List Int × List Int)))
  (aT:∀ (v bZ:List Int) (k:Nat) (hk:k<r.length),f (v,bZ,(k:Int))=(cf (R:=List Int × List Int) (λ(s:List Int × List Int) =>
(bif decide ((s.2.length:Int)<=aG ((b:Int)+(r[k]).At)) then
(cT s.2 [0]).bind λgK =>
(cT s.1 [0]).bind λkL =>
some (.inl (s.1++[0],s.2++[0]))
else
some (.inr (s.1,s.2)))) (v,bZ)).bind λfl =>
(idx fl.2 (aG ((b:Int)+(r[k]).At))).bind λwx =>
(idx fl.1 (aG ((b:Int)+(r[k]).At))).bind λG_ =>
some (.inl (fl.1.set (aG ((b:Int)+(r[k]).At)).toNat (r[k]).cb,fl.2.set (aG ((b:Int)+(r[k]).At)).toNat (aG ((i:Int)+1)),aG ((k:Int)+1))))
  (he:∀ (v bZ:List Int) (k:Int),¬ k<r.length->f (v,bZ,k)=some (.inr (v,bZ))) :
  Tot (cf f (c.cb,c.b_,0)) λx=>tD c r i b x.1 x.2/\x.2.length<=c.b_.length+1000:=by
 refine Tot.count (λs=>s.2.2) r.length (λs=>∃ k:Nat,k<=r.length/\s.2.2=(k:Int)/\tD c (r.take k) i b s.1 s.2.1) ⟨0,Nat.zero_le _,rfl,tD.nil c i b hK⟩ (by show (r.length:Int) - 0<_; omega) λs aw=>?_;obtain ⟨v,bZ,j8⟩:=s;obtain ⟨k,hk,rfl,bQ⟩:=aw;simp only at bQ ⊢;by_cases aN:k<r.length
 ·rw [aT v bZ k aN];have aq:=lQ.oy _ (List.getElem_mem aN);have cZ:aG ((b:Int)+(r[k]).At)=((b+(r[k]).At.toNat:Nat):Int):=by rw [cB]; omega
  have aeQ:bZ.length<=1000000:=by
   rcases bQ.hi with e | ⟨q,a8,e⟩
   ·omega
   ·have:=lQ.oy q (List.mem_of_mem_take a8);omega
  refine .aA (pad _ _ _ cZ (by omega) v bZ bQ.len (by omega)) λx J=>?_;obtain ⟨h1,af,aD,bm⟩:=J;rw [cZ];have zK:b+(r[k]).At.toNat<x.2.length:=by omega
  have Xz:b+(r[k]).At.toNat<x.1.length:=by omega
  rw [tb zK,tb Xz];have Yb:aG ((i:Int)+1)=(i:Int)+1:=by rw [cB]; omega
  have sm:aG ((k:Int)+1)=((k+1:Nat):Int):=by rw [cB]; omega
  rw [Yb,sm];refine Tot.aV (Tot.aV (.al ⟨⟨k+1,by omega,rfl,?_⟩,?_,?_⟩))
  ·rw [List.take_add_one,List.getElem?_eq_getElem aN];exact bQ.more (Q4 lQ aN) h1 af aD bm
  ·grind
  grind
 ·rw [he v bZ k (by omega)];have:k=r.length:=by omega
  subst this;rw [List.take_length] at bQ;refine .al ⟨bQ,?_⟩;show bZ.length<=c.b_.length+1000;rcases bQ.hi with e | ⟨q,a8,e⟩
  ·omega
  ·have:=lQ.oy q a8;omega
theorem lF.snoc {r:fq}{p:cG}(h:lF r) (aq:0<=p.At/\p.At<=999) (aB:p.At∉r.map (·.At)):lF (r++[p]):=by
 refine ⟨λq a8=>?_,?_⟩
 ·rcases List.mem_append.1 a8 with a8 | a8
  ·exact h.oy q a8
  ·rw [List.mem_singleton.1 a8]; exact aq
 ·rw [List.map_append,List.nodup_append];refine ⟨h.nd,by simp,λa aI b au e=>?_⟩;have au:b∈[p.At]:=au;rw [List.mem_singleton.1 au] at e;exact aB (e ▸ aI)
theorem lF.nil:lF []:=⟨λ_ h=>absurd h (by simp),by simp⟩
theorem lF.bad {r:fq}{k:Nat}(hk:k<r.length) (h:¬ (0<=(r[k]).At/\(r[k]).At<=999)\/(r[k]).At∈(r.take k).map (·.At)):¬ lF r:=by
 intro hr;rcases h with h | h
 ·exact h (hr.oy _ (List.getElem_mem hk))
 ·obtain ⟨q,a8,e⟩:=List.mem_map.1 h;exact Q4 hr hk q a8 (by have e:q.At=(r[k]).At:=e; rw [e])
theorem aak {rows:List fq}{r:fq}(hr:r∈rows) (h:¬ lF r):¬ p_ rows:=λbP=>h (bP.rows r hr)
theorem LI {r:fq}{k:Nat}(h:k<r.length):r.take (k+1)=r.take k++[r[k]]:=by
 rw [List.take_add_one,List.getElem?_eq_getElem h]; rfl
theorem Tw (rows:List fq) (eV:EL rows):Tot (Aq rows) λc=>(c=true↔p_ rows):=by
 unfold Aq;have aB:=eV.n;refine Tot.bt (λh=>.al ⟨λh=>(by cases h),λbP=>by have:=bP.n; omega⟩) (λaeu=>?_);refine Tot.aA (Tot.scan rows lF (λx:Bool=>x=false/\¬ p_ rows) (by omega) (λs r aK h1 hi hm=>?_) (λs aw=>by simp [aw])) λx J=>?_
 ·refine Tot.bt (λ_=>?_) (λh=>absurd h1 h);rw [hi];have oI:=eV.r r hm;refine Tot.aV (.aA (Ξ:=h0 (λ_=>lF r) (λx:Bool=>x=false/\¬ p_ rows)) ?_ λx J=>?_)
  ·refine Tot.count (λs=>s.2) r.length (λs=>∃ k:Nat,k<=r.length/\s.2=(k:Int)/\s.1.length=1000/\lF (r.take k)/\∀ j,j<1000->(s.1.getD j false=true↔(j:Int)∈(r.take k).map (·.At))) ⟨0,Nat.zero_le _,rfl,List.length_replicate ..,lF.nil,λj ag=>by
   show ((List.replicate 1000 false).getD j false=true↔_);rw [List.getD_eq_getElem?_getD,List.getElem?_replicate,if_pos ag];simp⟩ (by show (r.length:Int) - 0<_; omega) λs aw=>?_
   obtain ⟨met,j8⟩:=s;obtain ⟨k,hk,rfl,vA,c7,JO⟩:=aw;simp only at vA JO ⊢;refine Tot.bt (λaN=>?_) (λdF=>.al ?_)
   ·have aN:k<r.length:=by omega
    rw [tb aN];have hw:aG ((k:Int)+1)=((k+1:Nat):Int):=by rw [cB]; omega
    rw [hw];have dI:0<=(r[k]).At/\(r[k]).At<=999->xG 1000 met (r[k]).At=some (met.getD (r[k]).At.toNat false):=by
     intro h;unfold xG;rw [if_pos (by omega)];have:(r[k]).At.toNat<met.length:=by omega
     simp [idx,h.1,this,List.getD_eq_getElem?_getD]
    refine Tot.aV (.aA (Ξ:=λc=>(c=true↔(¬ (0<=(r[k]).At/\(r[k]).At<=999)\/(r[k]).At∈(r.take k).map (·.At)))) ?_ λc aa=>Tot.bM (λh=>.al ⟨rfl,aak hm (lF.bad aN (aa.1 h))⟩) (λh=>?_))
    ·refine Tot.bt (λh=>.al ⟨λ_=>.inl (by omega),λ_=>rfl⟩) (λh=>Tot.bt (λaJ=>.al ⟨λ_=>.inl (by omega),λ_=>rfl⟩) (λaJ=>?_));have aq:0<=(r[k]).At/\(r[k]).At<=999:=by omega
     rw [dI aq];refine Tot.aV (.al ?_);rw [JO _ (by omega)];have e:(((r[k]).At.toNat:Nat):Int)=(r[k]).At:=by omega
     rw [e];exact ⟨λh=>.inr h,λh=>h.resolve_left λaB=>aB aq⟩
    ·have Xk:(0<=(r[k]).At/\(r[k]).At<=999)/\(r[k]).At∉(r.take k).map (·.At):=by
      refine ⟨Classical.byContradiction λaB=>?_,λaB=>?_⟩
      ·rw [aa.2 (.inl aB)] at h; cases h
      ·rw [aa.2 (.inr aB)] at h; cases h
     obtain ⟨aq,aB⟩:=Xk;rw [dI aq];refine Tot.aV (.al ⟨⟨k+1,by omega,rfl,by show (met.set _ _).length=_; simp [vA],?_,λj ag=>?_⟩,?_,?_⟩)
     ·rw [LI aN]; exact c7.snoc aq aB
     ·show ((met.set (r[k]).At.toNat true).getD j false=true↔_);rw [LI aN,List.map_append,List.mem_append,List.getD_eq_getElem?_getD,List.getElem?_set];by_cases e:(r[k]).At.toNat=j
      ·subst e;have ah:(r[k]).At.toNat<met.length:=by omega
       have b3:(((r[k]).At.toNat:Nat):Int)=(r[k]).At:=by omega
       rw [if_pos rfl,if_pos ah,b3];simp
      ·rw [if_neg e,<- List.getD_eq_getElem?_getD,JO j ag];constructor
       ·exact .inl
       ·rintro (h | h)
        ·exact h
        ·have h:(j:Int)∈[(r[k]).At]:=h;have:=List.mem_singleton.1 h;omega
     ·show (k:Int)<((k+1:Nat):Int); omega
     ·show ((k+1:Nat):Int)<=_; omega
   ·have:k=r.length:=by omega
    subst this;rw [List.take_length] at c7;exact c7
  ·rcases x with _ | x
   ·exact .al ⟨by rw [cB]; omega,J⟩
   ·exact .al J
 ·rcases x with _ | x
  ·have J:∀ r∈rows,lF r:=J;exact .al ⟨λ_=>⟨by omega,J⟩,λ_=>rfl⟩
  ·obtain ⟨rfl,au⟩:x=false/\¬ p_ rows:=J;exact .al ⟨λh=>(by cases h),λh=>absurd h au⟩
def mT (rows:List fq) (a:Int):Nat:=((idx rows a).map List.length).getD 0
def jO (rows:List fq) (a b:Int):Bool:=decide (mT rows b<mT rows a\/(mT rows a=mT rows b/\a<b))
theorem PF {rows:List fq}{a b:Int}:jO rows a b=true↔(mT rows b<mT rows a\/(mT rows a=mT rows b/\a<b)):=by simp [jO]
theorem KO {rows:List fq}{a b:Int}:jO rows a b=false↔¬ (mT rows b<mT rows a\/(mT rows a=mT rows b/\a<b)):=by simp [jO]
theorem PG (rows:List fq):SWO (jO rows) where
 irrefl x:=by rw [KO]; omega
 trans x y z h1 af:=by rw [PF] at *; omega
 ntrans x y z h1 af:=by rw [KO] at *; omega
theorem PH {rows:List fq}{a b:Int}(h1:jO rows a b=false) (af:jO rows b a=false):a=b:=by
 rw [KO] at *; omega
theorem MX (rows:List fq) (a b:Int) (aI:0<=a/\a<rows.length) (au:0<=b/\b<rows.length):∃ v,vU a b rows=some v/\(v<0↔jO rows a b=true):=by
 obtain ⟨v,hv,h⟩:=Tx rows a b aI au;refine ⟨v,hv,h.trans ?_⟩;obtain ⟨x,J,_⟩:=FO aI.1 aI.2;obtain ⟨y,ao,_⟩:=FO au.1 au.2;rw [PF];unfold Ey mT;rw [J,ao];constructor
 ·rintro ⟨x',y',b9,b3,h⟩;cases b9; cases b3; exact h
 ·intro h;exact ⟨x,y,rfl,rfl,h⟩
theorem Pe {α:Type}{lt lt':α->α->Bool}(x:α):∀ l:List α,(∀ y∈l,lt y x=lt' y x)->ins lt x l=ins lt' x l
 | [],_=>rfl
 | y::l,h=>by
  simp only [ins,h y (by simp)];rw [Pe x l λz aX=>h z (by simp [aX])]
theorem Pn {α:Type}{lt lt':α->α->Bool}:∀ l:List α,(∀ a∈l,∀ b∈l,lt a b=lt' a b)->h_ lt l=h_ lt' l
 | [],_=>rfl
 | x::l,h=>by
  simp only [h_];rw [Pn l λa aI b au=>h a (by simp [aI]) b (by simp [au])];exact Pe x _ λy ao=>h y (by simp [(tc lt' l).mem_iff.1 ao]) x (by simp)
structure sS (rows:List fq) (o:List Nat):Prop where
 mem:∀ i,i∈o↔∃ r,rows[i]?=some r/\r≠[]
 nd:o.Nodup
 AV:o.Pairwise λ(a b:Nat)=>jO rows (b:Int) (a:Int)=false
theorem sS.lt {rows:List fq}{o:List Nat}(h:sS rows o) {i:Nat}(hi:i∈o):i<rows.length:=by
 obtain ⟨r,hr,_⟩:=(h.mem i).1 hi;exact (List.getElem?_eq_some_iff.1 hr).1
theorem sS.len {rows:List fq}{o:List Nat}(h:sS rows o):o.length<=rows.length:=by
 have:∀ (l m:List Nat),l.Nodup->(∀ x∈l,x∈m)->l.length<=m.length:=by
  intro l
  induction l with
  | nil=>intro m _ _; exact Nat.zero_le _
  | cons x l aM =>
   intro m aO hm;have J:=hm x (by simp);have o5:=List.nodup_cons.1 aO;have:=aM (m.erase x) o5.2 λy ao=>(List.mem_erase_of_ne (λe=>o5.1 (by rw [<- e]; exact ao))).2 (hm y (by simp [ao]));have ah:=List.length_erase_of_mem J;have aq:=List.length_pos_of_mem J;simp only [List.length_cons];omega
 have:=this o (List.range rows.length) h.nd λx J=>by simpa using h.lt J
 simpa using this
theorem aaR (rows:List fq) (l:List Int) (ah:∀ a∈l,0<=a/\a<rows.length) (aB:l.length<=100000):pZ (λa b=>vU a b rows) l=some (h_ (jO rows) l):=by
 have aN:∀ a∈l,∀ b∈l,kG (λa b=>vU a b rows) a b=jO rows a b:=by
  intro a aI b au;obtain ⟨v,hv,h⟩:=MX rows a b (ah a aI) (ah b au);unfold kG;simp only [hv,Option.getD_some];cases hk:jO rows a b with
  | true=>exact decide_eq_true (h.2 hk)
  | false=>exact decide_eq_false λbP=>by rw [h.1 bP] at hk; cases hk
 unfold pZ;rw [if_pos]
 ·rw [Pn l aN]
 ·simp only [Bool.and_eq_true,decide_eq_true_eq,List.all_eq_true];refine ⟨⟨λa aI b au=>?_,?_⟩,by omega⟩
  ·obtain ⟨v,hv,_⟩:=MX rows a b (ah a aI) (ah b au);rw [hv]; rfl
  ·unfold Ai;simp only [List.all_eq_true,Bool.and_eq_true,Bool.or_eq_true,Bool.not_eq_true',decide_eq_true_eq];have bh:=PG rows;intro a aI;refine ⟨by rw [aN a aI a aI]; exact bh.irrefl a,λb au=>⟨?_,λc aa=>⟨?_,?_⟩⟩⟩
   ·rw [aN a aI b au,aN b au a aI];cases h1:jO rows a b with
    | true=>exact .inl (.inl rfl)
    | false =>
     cases af:jO rows b a with
     | true=>exact .inl (.inr rfl)
     | false=>exact .inr (PH h1 af)
   ·rw [aN a aI b au,aN b au c aa,aN a aI c aa];cases h1:jO rows a b with
    | false=>exact .inl rfl
    | true =>
     cases af:jO rows b c with
     | false=>exact .inl rfl
     | true=>exact .inr (bh.trans _ _ _ h1 af)
   ·rw [aN a aI b au,aN b au c aa,aN a aI c aa];cases h1:jO rows a b with
    | true=>exact .inl (.inl rfl)
    | false =>
     cases af:jO rows b c with
     | true=>exact .inl (.inr rfl)
     | false=>exact .inr (bh.ntrans _ _ _ h1 af)
theorem TS (rows:List fq) (eV:EL rows):Tot (AP rows) λc=>(¬ p_ rows->c=⟨[],[],[]⟩)/\(p_ rows->c.b_.length<=900000/\∃ o,sS rows o/\om rows o.reverse c):=by
 unfold AP;refine .aA (Tw rows eV) λaR h1=>Tot.bM (λh=>.al ⟨λ_=>rfl,λc7=>by rw [h1.2 c7] at h; cases h⟩) (λh=>?_);have c7:p_ rows:=h1.1 (by simpa using h);refine Tot.use (Φ:=λc=>(¬ p_ rows->c=⟨[],[],[]⟩)/\(p_ rows->c.b_.length<=900000/\∃ o,sS rows o/\om rows o.reverse c)) (Ψ:=λc=>c.b_.length<=900000/\∃ o,sS rows o/\om rows o.reverse c) ?_ λc aa=>⟨λaB=>absurd c7 aB,λ_=>aa⟩;have aB:=c7.n;refine .aA (Ξ:=λl=>l=List.replicate rows.length 0) (Tot.mk (by simp [lim]; omega) (by simp)) λa7 aD=>?_;subst aD;refine .aA (Ξ:=λl=>∃ o:List Nat,l=o.map (λ(j:Nat)=>(j:Int))/\o.Nodup/\o.length<=400/\∀ j,j∈o↔∃ r,rows[j]?=some r/\r≠[]) ?_ λbW b7=>?_
 ·refine Tot.count (λs=>s.2) rows.length (λs=>∃ k:Nat,k<=rows.length/\s.2=(k:Int)/\∃ o:List Nat,s.1=o.map (λ(j:Nat)=>(j:Int))/\o.Nodup/\o.length<=k/\∀ j,j∈o↔j<k/\∃ r,rows[j]?=some r/\r≠[]) ⟨0,Nat.zero_le _,rfl,[],rfl,List.nodup_nil,Nat.le_refl 0,λj=>by simp⟩ (by show (rows.length:Int) - 0<_; omega) λs aw=>?_;obtain ⟨l,j8⟩:=s;obtain ⟨k,hk,rfl,o,rfl,eA,Cu,hm⟩:=aw;simp only;have hw:aG ((k:Int)+1)=((k+1:Nat):Int):=by rw [cB]; omega
  rw [hw];refine Tot.bt (λaN=>?_) (λdF=>.al ⟨o,rfl,eA,by omega,λj=>?_⟩)
  ·have aN:k<rows.length:=by omega
   rw [tb aN];have si:rows[k]?=some rows[k]:=List.getElem?_eq_getElem aN;have Xv:k∉o:=λh=>by have:=((hm k).1 h).1; omega
   refine .aA (Ξ:=λl=>∃ fR:List Nat,l=fR.map (λ(j:Nat)=>(j:Int))/\fR.Nodup/\fR.length<=k+1/\∀ j,j∈fR↔j<k+1/\∃ r,rows[j]?=some r/\r≠[]) ?_ λl ah=>.al ⟨⟨k+1,by omega,rfl,ah⟩,?_,?_⟩
   ·refine Tot.aV (.aA (Ξ:=λl=>∃ fR:List Nat,l=fR.map (λ(j:Nat)=>(j:Int))/\fR.Nodup/\fR.length<=k+1/\∀ j,j∈fR↔j<k+1/\∃ r,rows[j]?=some r/\r≠[]) ?_ λl ah=>.al ah);refine Tot.bt (λaq=>?_) (λaq=>.al ⟨o,rfl,eA,by omega,λj=>?_⟩)
    ·refine .bK<|.al ⟨o++[k],by simp,?_,by simp; omega,λj=>?_⟩
     ·rw [List.nodup_append];exact ⟨eA,by simp,λa aI b au e=>Xv (by rw [<- List.mem_singleton.1 au,<- e]; exact aI)⟩
     ·rw [List.mem_append,hm j,List.mem_singleton];constructor
      ·rintro (⟨h1,af⟩ | rfl)
       ·exact ⟨by omega,af⟩
       ·exact ⟨by omega,_,si,λe=>by rw [e] at aq; simp at aq⟩
      ·rintro ⟨h1,af⟩;by_cases e:j=k
       ·exact .inr e
       ·exact .inl ⟨by omega,af⟩
    ·rw [hm j];constructor
     ·rintro ⟨h1,af⟩;exact ⟨by omega,af⟩
     ·rintro ⟨h1,r,af,aD⟩;refine ⟨?_,r,af,aD⟩;have:j≠k:=by
       rintro rfl;rw [si] at af; cases af;have:(rows[j]).length≠0:=λe=>aD (List.eq_nil_of_length_eq_zero e);omega
      omega
   ·show (k:Int)<((k+1:Nat):Int); omega
   ·show ((k+1:Nat):Int)<=_; omega
  ·have:k=rows.length:=by omega
   subst this;rw [hm j];constructor
   ·exact λh=>h.2
   ·rintro ⟨r,hr,h⟩;exact ⟨(List.getElem?_eq_some_iff.1 hr).1,r,hr,h⟩
 obtain ⟨Af,rfl,XF,afe,vy⟩:=b7;have zF:∀ a∈Af.map (λ(j:Nat)=>(j:Int)),0<=a/\a<rows.length:=by
  intro a aI;obtain ⟨j,ag,rfl⟩:=List.mem_map.1 aI;obtain ⟨r,hr,_⟩:=(vy j).1 ag;have:=(List.getElem?_eq_some_iff.1 hr).1;omega
 rw [aaR rows _ zF (by simp; omega)];refine Tot.aV ?_
 -- the order, az places
 obtain ⟨o,aW,hOr⟩:∃ o:List Nat,h_ (jO rows) (Af.map λ(j:Nat)=>(j:Int))=o.map (λ(j:Nat)=>(j:Int))/\sS rows o:=by
  refine ⟨h_ (λa b:Nat=>jO rows (a:Int) (b:Int)) Af,?_,?_⟩
  ·exact (FP (lt:=λa b:Nat=>jO rows (a:Int) (b:Int)) (lt':=jO rows) (f:=λ(j:Nat)=>(j:Int)) (λa b=>rfl) Af).symm
  ·have bh:=PG rows;have aq:=tc (λa b:Nat=>jO rows (a:Int) (b:Int)) Af;refine ⟨λi=>(aq.mem_iff).trans (vy i),aq.nodup_iff.2 XF,?_⟩;have aw:=FQ (lt:=λa b:Nat=>jO rows (a:Int) (b:Int)) ⟨λx=>bh.irrefl _,λx y z=>bh.trans _ _ _,λx y z=>bh.ntrans _ _ _⟩ Af;exact aw.imp λh=>by simpa using h
 rw [aW];have Cu:=hOr.len;refine .aA (Ξ:=λc=>c.b_.length<=900000/\∃ o,sS rows o/\om rows o.reverse c) ?_ λc aa=>.al aa;refine Tot.count (λs=>s.2) o.length (λs=>∃ k:Nat,k<=o.length/\s.2=(k:Int)/\s.1.b_.length<=1000 * k/\om rows (o.take k).reverse s.1) ⟨0,Nat.zero_le _,rfl,Nat.le_refl 0,.nil⟩ (by show (o.length:Int) - 0<_; omega) λs aw=>?_;obtain ⟨c,j8⟩:=s;obtain ⟨k,hk,rfl,hK,fK⟩:=aw;simp only at hK fK ⊢;have hw:aG ((k:Int)+1)=((k+1:Nat):Int):=by rw [cB]; omega
 rw [hw];refine Tot.bt (λaN=>?_) (λdF=>.al ⟨by show c.b_.length<=900000; omega,o,hOr,?_⟩)
 ·rw [List.length_map] at aN;have aN:k<o.length:=by omega
  have vx:idx (o.map λ(j:Nat)=>(j:Int)) (k:Int)=some ((o[k]:Nat):Int):=by
   rw [tb (by simpa using aN)]; simp
  rw [vx];generalize hi:o[k]=i;have Oy:i∈o:=by rw [<- hi]; exact List.getElem_mem aN
  obtain ⟨r,hr,afh⟩:=(hOr.mem i).1 Oy;have Fp:=hOr.lt Oy;have zQ:r∈rows:=List.mem_of_getElem? hr;have lQ:=c7.rows r zQ;have oI:=eV.r r zQ;have OJ:i∉(o.take k).reverse:=by
   rw [List.mem_reverse];intro h;obtain ⟨j,ag,e⟩:=List.mem_iff_getElem.1 h;rw [List.length_take] at ag;rw [List.getElem_take] at e;have:=(List.getElem_inj (i:=j) (j:=k) (h₀:=by omega) (h₁:=aN) hOr.nd).1 (by rw [e,hi]);omega
  have hlen:=fK.len;refine Tot.aV (.aA (aaB rows eV i r hr lQ c (by omega) (fK.rest i Fp OJ) x5 λb au=>Tz c.b_ r b lQ.oy (by omega) (by omega) (by omega)) λB V1=>?_);obtain ⟨b,rfl,xk,Xw,qp⟩:=V1;have Cl:idx rows (i:Int)=some r:=by simp [idx,hr]
  rw [Cl];refine Tot.aV (.aA (ZY r lQ oI i b (by omega) c hlen.1 (by omega) qp _ (λv bZ k hk=>?_) (λv bZ k hk=>?_)) λx J=>?_)
  ·have xd:idx (c.cX.set i (b:Int)) (i:Int)=some (b:Int):=by
    have:i<c.cX.length:=by omega
    simp [idx,this]
   have aO:decide ((k:Int)<(r.length:Int))=true:=decide_eq_true (by omega);simp only [aO,cond_true,tb hk,xd,Option.bind_some]
  ·have aO:decide ((k:Int)<(r.length:Int))=false:=decide_eq_false hk;simp only [aO,cond_false]
  ·obtain ⟨bQ,ah⟩:=J;refine .al ⟨⟨k+1,by omega,rfl,?_,?_⟩,?_,?_⟩
   ·show x.2.length<=1000 * (k+1); omega
   ·rw [List.take_add_one,List.getElem?_eq_getElem aN,hi];show om rows ((o.take k)++[i]).reverse _;rw [List.reverse_append];exact .cons hr OJ fK ⟨xk,Xw,rfl,bQ⟩
   ·show (k:Int)<((k+1:Nat):Int); omega
   ·show ((k+1:Nat):Int)<=_; omega
 ·rw [List.length_map] at dF;have:k=o.length:=by omega
  subst this;rw [List.take_length] at fK;exact fK
def Ae (bZ:List Int):List Nat:=(List.range bZ.length).filter λk=>decide (bZ.getD k 0≠0)
def QG (rows:List fq) (i:Nat):Nat:=(rows[i]?.map List.length).getD 0
structure Inv (rows:List fq) (l:List Nat) (c:hZ):Prop where
 own:∀ i∈l,∃ (r:fq) (b:Nat),rows[i]?=some r/\c.cX[i]?=some (b:Int)/\∀ p∈r,b+p.At.toNat<c.b_.length/\c.b_.getD (b+p.At.toNat) 0=(i:Int)+1/\c.cb.getD (b+p.At.toNat) 0=p.cb
 LR:∀ k,c.b_.getD k 0≠0->∃ i∈l,∃ (r:fq) (b:Nat),rows[i]?=some r/\c.cX[i]?=some (b:Int)/\∃ p∈r,k=b+p.At.toNat/\c.b_.getD k 0=(i:Int)+1
 zero:∀ k,c.b_.getD k 0=0->c.cb.getD k 0=0
 last:c.b_.length=0\/c.b_.getD (c.b_.length - 1) 0≠0
 least:∀ i∈l,∀ b:Nat,c.cX[i]?=some (b:Int)->∀ dR,dR<b->∃ (r:fq) (p:cG) (sr:Nat),rows[i]?=some r/\p∈r/\sr∈l/\jO rows (sr:Int) (i:Int)=true/\c.b_.getD (dR+p.At.toNat) 0=(sr:Int)+1
 vc:(Ae c.b_).length=(l.map (QG rows)).sum
theorem KR {bZ:List Int}{k:Nat}:k∈Ae bZ↔bZ.getD k 0≠0:=by
 unfold Ae;rw [List.mem_filter,List.mem_range];constructor
 ·intro h; simpa using h.2
 ·intro h;refine ⟨Classical.byContradiction λhk=>h ?_,by simpa using h⟩;rw [List.getD_eq_getElem?_getD,List.getElem?_eq_none (by omega)]; rfl
theorem PQ (bZ:List Int):(Ae bZ).Nodup:=List.nodup_range.sublist List.filter_sublist
theorem om.inv {rows:List fq}(c7:p_ rows) {l:List Nat}{c:hZ}(h:om rows l c) (JZ:l.Pairwise λ(a b:Nat)=>jO rows (a:Int) (b:Int)=false):Inv rows l c:=by
 induction h with
 | nil=>exact ⟨λ_ h=>absurd h (by simp),λk h=>absurd rfl h,λ_ _=>rfl,.inl rfl,λ_ h=>absurd h (by simp),rfl⟩
 | @cons i b l c cg r hr hi fK aw aM =>
  have OQ:=List.pairwise_cons.1 JZ;have I:=aM OQ.2;have lQ:=c7.rows r (List.mem_of_getElem? hr);have bQ:=aw.put;have hlen:=fK.len;have uf:i<c.cX.length:=by rw [hlen.2]; exact (List.getElem?_eq_some_iff.1 hr).1
  have xd:cg.cX[i]?=some (b:Int):=by rw [aw.base]; simp [uf]
  have xf:∀ j,j≠i->cg.cX[j]?=c.cX[j]?:=λj ag=>by rw [aw.base,List.getElem?_set_ne (Ne.symm ag)]
  have cO:∀ j∈l,j≠i:=λj ag e=>hi (e ▸ ag);have free:∀ k,c.b_.getD k 0≠0->∀ p∈r,b+p.At.toNat≠k:=λk hk p aq e=>hk (e ▸ aw.fit p aq);have keep:∀ k,c.b_.getD k 0≠0->cg.b_.getD k 0=c.b_.getD k 0:=λk hk=>bQ.BC k (free k hk);refine ⟨λj ag=>?_,λk hk=>?_,λk hk=>?_,?_,λj ag gR gM dR aN=>?_,?_⟩
  ·rcases List.mem_cons.1 ag with rfl | ag
   ·exact ⟨r,b,hr,xd,λp aq=>⟨bQ.Pd p aq,bQ.jh p aq,bQ.val p aq⟩⟩
   ·obtain ⟨c',dR,h1,af,aD⟩:=I.own j ag;refine ⟨c',dR,h1,by rw [xf j (cO j ag)]; exact af,λp aq=>?_⟩;obtain ⟨g1,g2,g3⟩:=aD p aq;have OK:c.b_.getD (dR+p.At.toNat) 0≠0:=by rw [g2]; omega
    exact ⟨Nat.lt_of_lt_of_le g1 bQ.lo,by rw [keep _ OK]; exact g2,by rw [bQ.LN _ (free _ OK)]; exact g3⟩
  ·by_cases aq:∃ p∈r,b+p.At.toNat=k
   ·obtain ⟨p,aq,rfl⟩:=aq;exact ⟨i,by simp,r,b,hr,xd,p,aq,rfl,bQ.jh p aq⟩
   ·have e:=bQ.BC k λp Cx e=>aq ⟨p,Cx,e⟩;rw [e] at hk ⊢;obtain ⟨j,ag,c',dR,h1,af,aD⟩:=I.LR k hk;exact ⟨j,by simp [ag],c',dR,h1,by rw [xf j (cO j ag)]; exact af,aD⟩
  ·by_cases aq:∃ p∈r,b+p.At.toNat=k
   ·obtain ⟨p,aq,rfl⟩:=aq;rw [bQ.jh p aq] at hk; omega
   ·have aB:∀ p∈r,b+p.At.toNat≠k:=λp Cx e=>aq ⟨p,Cx,e⟩;rw [bQ.BC k aB] at hk;rw [bQ.LN k aB];exact I.zero k hk
  ·rcases bQ.hi with e | ⟨p,aq,e⟩
   ·rcases I.last with aK | aK
    ·exact .inl (by omega)
    ·exact .inr (by rw [e,keep _ aK]; exact aK)
   ·refine .inr ?_;rw [e];show cg.b_.getD (b+p.At.toNat+1 - 1) 0≠0;rw [Nat.add_sub_cancel,bQ.jh p aq]; omega
  ·rcases List.mem_cons.1 ag with rfl | ag
   ·rw [xd] at gM;have iT:b=gR:=by injection gM with e; omega
    subst iT;have OI:=aw.least dR aN;obtain ⟨p,aq,aX⟩:∃ p∈r,c.b_.getD (dR+p.At.toNat) 0≠0 :=
     Classical.byContradiction λaB=>OI λp aq=>Classical.byContradiction λaX=>aB ⟨p,aq,aX⟩
    obtain ⟨sr,qs,_,_,_,_,_,_,_,e⟩:=I.LR _ aX;refine ⟨r,p,sr,hr,aq,by simp [qs],?_,by rw [keep _ aX]; exact e⟩;have h1:=OQ.1 sr qs;cases af:jO rows (sr:Int) (j:Int) with
    | true=>rfl
    | false=>exact absurd (PH af h1) (by have:=cO sr qs; omega)
   ·rw [xf j (cO j ag)] at gM;obtain ⟨c',p,sr,h1,af,aD,bm,b7⟩:=I.least j ag gR gM dR aN;exact ⟨c',p,sr,h1,af,by simp [aD],bm,by rw [keep _ (by rw [b7]; omega)]; exact b7⟩
  ·have Cy:(Ae cg.b_).Perm (r.map (λp=>b+p.At.toNat)++Ae c.b_):=by
    refine (List.perm_ext_iff_of_nodup (PQ _) ?_).2 λk=>?_
    ·rw [List.nodup_append];refine ⟨?_,PQ _,λx J y ao e=>?_⟩
     ·unfold List.Nodup;rw [List.pairwise_map];have:=lQ.nd;unfold List.Nodup at this;rw [List.pairwise_map] at this;refine this.imp_of_mem λ{p q} aq a8 cO=>?_;have h1:=lQ.oy p aq;have af:=lQ.oy q a8;omega
     ·obtain ⟨p,aq,rfl⟩:=List.mem_map.1 J;have h1:=KR.1 ao;rw [<- e] at h1;exact h1 (aw.fit p aq)
    ·rw [KR,List.mem_append,KR,List.mem_map];by_cases aq:∃ p∈r,b+p.At.toNat=k
     ·obtain ⟨p,aq,rfl⟩:=aq;rw [bQ.jh p aq];exact ⟨λ_=>.inl ⟨p,aq,rfl⟩,λ_=>by omega⟩
     ·rw [bQ.BC k λp Cx e=>aq ⟨p,Cx,e⟩];exact ⟨.inr,λh=>h.resolve_left aq⟩
   rw [Cy.length_eq,List.length_append,List.length_map,I.vc,List.map_cons,List.sum_cons];simp [QG,hr]
def kY (r:fq) (n:Int):Int × Bool:=match r.find? λp=>decide (p.At=n) with
 | some p=>(p.cb,true)
 | none=>(0,false)
theorem get_none {r:fq}{n:Int}(h:∀ p∈r,p.At≠n):kY r n=(0,false):=by
 unfold kY;rw [List.find?_eq_none.2 λp aq=>by simpa using h p aq]
theorem get_some {r:fq}(hr:lF r) {p:cG}(aq:p∈r):kY r p.At=(p.cb,true):=by
 unfold kY;cases h:r.find? λq=>decide (q.At=p.At) with
 | none=>exact absurd (List.find?_eq_none.1 h p aq) (by simp)
 | some q =>
  have h1:q.At=p.At:=by simpa using List.find?_some h
  have af:=List.mem_of_find?_eq_some h;obtain ⟨i,hi,b9⟩:=List.mem_iff_getElem.1 af;obtain ⟨j,ag,b3⟩:=List.mem_iff_getElem.1 aq;have:=(List.getElem_inj (h₀:=by simpa using hi) (h₁:=by simpa using ag) hr.nd).1 (by simp only [List.getElem_map]; rw [b9,b3]; exact h1);subst this;rw [b9] at b3;rw [b3]
theorem Vx (r:fq) (n:Int) (ah:r.length<=100000):Ap r n=some (kY r n):=by
 suffices h:Tot (Ap r n) λx=>x=kY r n by
  obtain ⟨x,J,e⟩:=h; rw [J,e]
 unfold Ap;refine Tot.aA (Ξ:=h0 (λ_=>kY r n=(0,false)) (λx=>x=kY r n)) ?_ λx J=>?_
 ·refine Tot.count (λs=>s) r.length (λs=>∃ k:Nat,k<=r.length/\s=(k:Int)/\∀ p∈r.take k,p.At≠n) ⟨0,Nat.zero_le _,rfl,λ_ h=>absurd h (by simp)⟩ (by show (r.length:Int) - 0<_; omega) λs aw=>?_;obtain ⟨k,hk,rfl,aB⟩:=aw;refine Tot.bt (λh=>?_) (λh=>.al ?_)
  ·have aN:k<r.length:=by omega
   rw [tb aN];refine Tot.aV (Tot.bt (λe=>.al ?_) (λe=>.al ⟨⟨k+1,by omega,by rw [cB]; omega,λp aq=>?_⟩,by show (k:Int)<aG _; rw [cB]; omega,by show aG _<=_; rw [cB]; omega⟩))
   ·show ((r[k]).cb,true)=kY r n;unfold kY;have aT:r.find? (λp=>decide (p.At=n))=some r[k]:=by
     rw [List.find?_eq_some_iff_getElem];refine ⟨by simpa using e,k,aN,rfl,λj ag=>?_⟩;have:=aB (r[j]'(by omega)) (List.mem_iff_getElem.2 ⟨j,by rw [List.length_take]; omega,by rw [List.getElem_take]⟩);simpa using this
    rw [aT]
   ·rw [LI aN] at aq;rcases List.mem_append.1 aq with aq | aq
    ·exact aB p aq
    ·rw [List.mem_singleton.1 aq]; exact e
  ·have:k=r.length:=by omega
   subst this;rw [List.take_length] at aB;exact get_none aB
 ·rcases x with x | x
  ·exact .al (Eq.symm J)
  ·exact .al J
def q' (rows:List fq) (a n:Int):Int × Bool:=match idx rows a with
 | some r=>kY r n
 | none=>(0,false)
theorem Vy {rows:List fq}(c7:p_ rows) {o:List Nat}(hO:sS rows o) {c:hZ}(fK:om rows o.reverse c) (bf:Inv rows o.reverse c) (aa:c.b_.length<=900000) (a n:Int):rD c a n=some (q' rows a n):=by
 have hlen:=fK.len
 suffices h:Tot (rD c a n) λx=>x=q' rows a n by
  obtain ⟨x,J,e⟩:=h; rw [J,e]
 have PW:(∀ r,idx rows a=some r->∀ p∈r,p.At≠n)->q' rows a n=(0,false):=by
  intro h;unfold q';cases hi:idx rows a with
  | none=>rfl
  | some r=>exact get_none (h r hi)
 have out:(a<0\/(c.cX.length:Int)<=a)->idx rows a=none:=by
  intro h;unfold idx;rcases h with h | h
  ·rw [if_neg (by omega)]
  ·split
   ·exact List.getElem?_eq_none (by omega)
   ·rfl
 -- where the pairs of a row stand
 have at_:∀ r,idx rows a=some r->∀ p∈r,0<=a/\∃ b:Nat,c.cX[a.toNat]?=some (b:Int)/\b+p.At.toNat<c.b_.length/\c.b_.getD (b+p.At.toNat) 0=(a.toNat:Int)+1/\c.cb.getD (b+p.At.toNat) 0=p.cb:=by
  intro r hr p aq;have aK:0<=a:=by
   by_cases aK:0<=a
   ·exact aK
   ·rw [idx,if_neg aK] at hr; cases hr
  have dG:rows[a.toNat]?=some r:=by rw [idx,if_pos aK] at hr; exact hr
  obtain ⟨c',b,h1,af,aD⟩:=bf.own a.toNat (List.mem_reverse.2 ((hO.mem _).2 ⟨r,dG,λe=>by rw [e] at aq; simp at aq⟩));rw [dG] at h1; cases h1;exact ⟨aK,b,af,aD p aq⟩
 have fL:∀ r,idx rows a=some r->∀ p∈r,0<=p.At/\p.At<=999:=by
  intro r hr p aq;have:r∈rows:=by
   unfold idx at hr
   split at hr
   ·exact List.mem_of_getElem? hr
   ·cases hr
  exact (c7.rows r this).oy p aq
 unfold rD;refine .aA (Ξ:=λx:Bool=>(x=true->(a<0\/(c.cX.length:Int)<=a)\/n<0\/(c.b_.length:Int)<=n)/\(x=false->0<=a/\a<c.cX.length/\0<=n/\n<c.b_.length)) ?_ λx J=>Tot.bM (λh=>?_) (λh=>?_)
 ·refine Tot.bt (λh=>.al ⟨λ_=>.inl (.inl h),λh=>(by cases h)⟩) (λh1=>Tot.bt (λh=>.al ⟨λ_=>.inl (.inr h),λh=>(by cases h)⟩) (λaf=>Tot.bt (λh=>.al ⟨λ_=>.inr (.inl h),λh=>(by cases h)⟩) (λaD=>.al ⟨λh=>.inr (.inr (of_decide_eq_true h)),λh=>?_⟩)));have:=of_decide_eq_false h;omega
 ·refine .al (Eq.symm (PW λr hr p aq e=>?_));obtain ⟨aK,b,au,h1,_⟩:=at_ r hr p aq;have af:=fL r hr p aq;rcases J.1 h with aJ | aJ | aJ
  ·rw [out aJ] at hr; cases hr
  ·omega
  ·omega
 ·obtain ⟨aK,h1,af,aD⟩:=J.2 h;have halt:a.toNat<rows.length:=by omega
  -- the base
  obtain ⟨b,au,fj⟩:∃ b:Nat,c.cX[a.toNat]?=some (b:Int)/\b<=900000:=by
   by_cases hm:a.toNat∈o
   ·obtain ⟨c',b,g1,g2,g3⟩:=bf.own a.toNat (List.mem_reverse.2 hm);refine ⟨b,g2,?_⟩;obtain ⟨r,b9,b3⟩:=(hO.mem _).1 hm;rw [b9] at g1; cases g1;obtain ⟨p,aq⟩:=List.exists_mem_of_ne_nil _ b3;have:=(g3 p aq).1;omega
   ·exact ⟨0,fK.rest _ halt (by simpa using hm),by omega⟩
  have xd:idx c.cX a=some (b:Int):=by rw [idx,if_pos aK]; exact au
  rw [xd];have hw:aG ((b:Int)+n)=((b+n.toNat:Nat):Int):=by rw [cB]; omega
  have Ya:aG (a+1)=a+1:=by rw [cB]; have:=c7.n; omega
  refine Tot.aV ?_;rw [hw,Ya];refine .aA (Ξ:=λx:Bool=>(x=true->∀ r,idx rows a=some r->∀ p∈r,p.At≠n)/\(x=false->b+n.toNat<c.b_.length/\c.b_.getD (b+n.toNat) 0=a+1)) (Tot.bt (λh=>.al ⟨λ_ r hr p aq e=>?_,λh=>(by cases h)⟩) (λh=>?_)) λx J=>Tot.bM (λh=>.al (Eq.symm (PW (J.1 h)))) (λh=>?_)
  ·obtain ⟨_,dR,b1,g1,_⟩:=at_ r hr p aq;rw [au] at b1;have:b=dR:=by injection b1 with b1; omega
   subst this;subst e;omega
  ·have ah:b+n.toNat<c.b_.length:=by omega
   rw [tb ah];have aP:c.b_.getD (b+n.toNat) 0=c.b_[b+n.toNat]:=by rw [List.getD_eq_getElem?_getD,List.getElem?_eq_getElem ah]; rfl
   rw [<- aP];refine Tot.aV (.al ⟨λh r hr p aq e=>?_,λh=>⟨ah,by simpa using h⟩⟩);obtain ⟨_,dR,b1,_,g2,_⟩:=at_ r hr p aq;rw [au] at b1;have:b=dR:=by injection b1 with b1; omega
   subst this;subst e;rw [g2] at h;have:¬ ((a.toNat:Int)+1=a+1):=by simpa using h
   omega
  ·obtain ⟨ah,he⟩:=J.2 h;have pN:b+n.toNat<c.cb.length:=by omega
   rw [tb pN];refine Tot.aV (.al ?_);obtain ⟨i,hi,r,dR,b9,b3,p,aq,eP,lj⟩:=bf.LR (b+n.toNat) (by rw [he]; omega);rw [he] at lj;have Xm:i=a.toNat:=by omega
   subst Xm;rw [au] at b3;have:b=dR:=by injection b3 with b3; omega
   subst this;have vD:idx rows a=some r:=by rw [idx,if_pos aK]; exact b9
   have FA:=fL r vD p aq;have sh:p.At=n:=by omega
   obtain ⟨_,dR,b1,_,_,g3⟩:=at_ r vD p aq;rw [au] at b1;have:b=dR:=by injection b1 with b1; omega
   subst this;unfold q';rw [vD];show _=kY r n;have Ow:=get_some (c7.rows r (List.mem_of_getElem? b9)) aq;rw [sh,<- g3,sh,List.getD_eq_getElem?_getD,List.getElem?_eq_getElem pN] at Ow;exact Ow.symm
structure kc (x:Sym):Prop where
 lit:x.Lit=true->x.Name.size=1/\0<lI x.Name 0/\lI x.Name 0<=255/\x.cc=0
 num:0<=x.cc/\x.cc<=50000
theorem K8 (x:Sym) (a b:Bool):Par (uC x a b) λr=>r=true->kc x:=by
 unfold uC;refine Par.bM (λah=>?_) (λah=>?_)
 ·refine .aA (Ξ:=λc=>c=false->x.Name.size=1/\x.cc=0) ?_ λc aa=>Par.bM (λ_=>.al λh=>by cases h) (λaf=>?_)
  ·refine Par.bM (λ_=>.al λh=>by cases h) (λ_=>Par.pA (λ_=>.al λh=>by cases h) (λh1=>.al λaf=>⟨by omega,?_⟩));simpa using af
  ·obtain ⟨h1,aD⟩:=aa af;refine .aA (Ξ:=λc=>c=lI x.Name 0) (λc aa=>?_) λc aa=>?_
   ·unfold ky at aa
    split at aa
    ·exact (Option.some.inj aa).symm
    ·cases aa
   ·subst aa;refine .aA (Ξ:=λr=>r.2=true->0<lI x.Name 0/\lI x.Name 0<=255) ?_ λr hr=>.al λh=>⟨λ_=>⟨h1,(hr h).1,(hr h).2,aD⟩,by omega⟩;unfold AB;refine Par.bt (λh=>.al λ_=>by omega) (λ_=>Par.bt (λh=>.al λ_=>by omega) (λ_=>Par.bt (λh=>.al λ_=>by omega) (λ_=>?_)));refine .aA (Ξ:=λc=>c=true->lI x.Name 0=92\/lI x.Name 0=39) (Par.bt (λh=>.al λ_=>.inl h) (λ_=>.al λh=>.inr (of_decide_eq_true h))) λc aa=>Par.bM (λh=>.al λ_=>by rcases aa h with h | h <;> omega) (λ_=>?_);refine .aA (Ξ:=λr:Int × Bool=>r.2=true->0<lI x.Name 0/\lI x.Name 0<=255) (Par.bt (λh=>.al λaJ=>?_) (λ_=>.al λh=>by cases h)) λr hr=>.al hr;have:lI x.Name 0<=126:=of_decide_eq_true aJ;omega
 ·refine .aA (Ξ:=λc=>c=true->0<=x.cc/\x.cc<=50000) ?_ λc aa=>.al λh=>⟨λaJ=>(by rw [ah] at aJ; cases aJ),aa h⟩;refine .aA (Ξ:=λ_=>True) (λ_ _=>trivial) λc _=>Par.bM (λ_=>Par.bt (λh=>.al λ_=>by omega) (λ_=>Par.bM (λ_=>Par.bt (λh=>.al λaJ=>⟨by omega,of_decide_eq_true aJ⟩) (λ_=>.al λh=>by cases h)) (λ_=>.al λh=>by cases h))) (λ_=>.al λh=>by cases h)
theorem Qk (x:Sym):Par (uD x) λr=>r=true->kc x:=by
 unfold uD;refine .aA (Ξ:=λr=>r=true->kc x) ?_ λr hr=>.al hr;refine Par.bM (λ_=>Par.bM (λh=>.al λaJ=>?_) (λ_=>.al λh=>by cases h)) (λ_=>.al λh=>by cases h);have h1:x.Lit=false:=by simpa using h
 have af:x.cc=0:=of_decide_eq_true aJ;exact ⟨λh=>(by rw [h1] at h; cases h),by omega⟩
theorem Zz (d:Decl) (aB:d.fa.length<=1000000):Par (ya d) λr=>r=true->∀ x∈d.fa,kc x:=by
 unfold ya;refine .aA (Ξ:=λ_=>True) (λ_ _=>trivial) λc _=>Par.bM (λ_=>.al λh=>by cases h) (λ_=>?_);refine .aA (Par.scan d.fa (by omega) (λx=>kc x) (λr=>r=false) (λs y aK h1 hi hm=>?_) (λs aw=>by simp [aw])) λx J=>?_
 ·refine Par.bt (λ_=>?_) (λh=>absurd h1 h);rw [hi];have hw:aG (s+1)=s+1:=by rw [cB]; omega
  rw [hw];exact .aA (Ξ:=λz=>z=y) (.al rfl) λz aX=>by
   subst aX;exact .aA (K8 _ _ _) λc aa=>Par.bM (λ_=>.al rfl) (λaf=>.al ⟨rfl,aa (by simpa using af)⟩)
 ·rcases x with _ | r
  ·exact .al λ_=>J
  ·exact .al λh=>by have:r=false:=J; rw [this] at h; cases h
theorem ZA (a:Alt) (aB:a.Parts.length<=1000000):Par (yb a) λr=>r=true->(∀ p∈a.Parts,kc p.Sym)/\kc a.Prec:=by
 unfold yb;refine .aA (Par.scan a.Parts (by omega) (λp=>kc p.Sym) (λr=>r=false) (λs y aK h1 hi hm=>?_) (λs aw=>by simp [aw])) λx J=>?_
 ·refine Par.bt (λ_=>?_) (λh=>absurd h1 h);rw [hi];have hw:aG (s+1)=s+1:=by rw [cB]; omega
  rw [hw];refine .aA (Ξ:=λz=>z=y) (.al rfl) λz aX=>?_;subst aX;refine .aA (Ξ:=λc=>c=false->kc z.Sym) ?_ λc aa=>Par.bM (λ_=>.al rfl) (λaf=>.al ⟨rfl,aa af⟩);refine Par.bt (λhe=>?_) (λcO=>?_)
  ·refine .aA (K8 _ _ _) λc aa=>Par.bM (λ_=>.al λh=>by cases h) (λaf=>?_);have c7:=aa (by simpa using af);exact λ_ _ _=>c7
  ·refine Par.pA (λ_=>?_) (λh=>absurd h cO);refine .aA (Qk _) λc aa=>Par.bM (λ_=>.al λh=>by cases h) (λaf=>?_);have c7:=aa (by simpa using af);exact λ_ _ _=>c7
 ·rcases x with _ | r
  ·have J:∀ p∈a.Parts,kc p.Sym:=J;refine .aA (Ξ:=λc=>c=true->kc a.Prec) ?_ λc aa=>.al λh=>⟨J,aa h⟩;refine .aA (Qk _) λc aa=>Par.bM (λaf=>.al λ_=>aa af) (λ_=>.aA (K8 _ _ _) λc aa=>.al aa)
  ·exact .al λh=>by have:r=false:=J; rw [this] at h; cases h
structure Mm (s:Source):Prop where
 decls:∀ d∈s.Decls,∀ x∈d.fa,kc x
 rules:∀ r∈s.eM,∀ a∈r.gg,(∀ p∈a.Parts,kc p.Sym)/\kc a.Prec
theorem Zv (s:Source) (au:u4 s):Par (x9 s) λr=>r=true->Mm s:=by
 unfold x9;refine .aA (Ξ:=h0 (λ_=>True) (λr=>r=false)) ?_ λx J=>?_
 ·refine Par.loop (λ_=>True) trivial λj _=>?_;refine Par.bt (λ_=>.aA (Ξ:=λ_=>True) (λ_ _=>trivial) λ_ _=>Par.bM (λ_=>.al rfl) (λ_=>.al trivial)) (λ_=>.al trivial)
 ·rcases x with _ | r
  ·refine .aA (Par.scan s.Decls (by have:=au.qh; omega) (λd=>∀ x∈d.fa,kc x) (λr=>r=false) (λi y aK h1 hi hm=>?_) (λs aw=>by simp [aw])) λx J=>?_
   ·refine Par.bt (λ_=>?_) (λh=>absurd h1 h);rw [hi];have hw:aG (i+1)=i+1:=by have:=au.qh; rw [cB]; omega
    rw [hw];refine .aA (Ξ:=λz=>z=y) (.al rfl) λz aX=>?_;subst aX;exact .aA (Zz z (by have:=(au.decls z hm).n; omega)) λc aa=>Par.bM (λ_=>.al rfl) (λaf=>.al ⟨rfl,aa (by simpa using af)⟩)
   ·rcases x with _ | r
    ·have aO:∀ d∈s.Decls,∀ x∈d.fa,kc x:=J;refine .aA (Par.scan s.eM (by have:=au.aF; omega) (λr=>∀ a∈r.gg,(∀ p∈a.Parts,kc p.Sym)/\kc a.Prec) (λr=>r=false) (λi y aK h1 hi hm=>?_) (λs aw=>by simp [aw])) λx J=>?_
     ·refine Par.bt (λ_=>?_) (λh=>absurd h1 h);rw [hi];have hw:aG (i+1)=i+1:=by have:=au.aF; rw [cB]; omega
      rw [hw];refine .aA (Ξ:=λz=>z=y) (.al rfl) λz aX=>?_;subst aX;have oI:=(au.rules z hm);refine .aA (Ξ:=λ_=>True) (λ_ _=>trivial) λc _=>Par.bM (λ_=>.al rfl) (λ_=>?_);refine .aA (Par.scan z.gg (by have:=oI.n; omega) (λa=>(∀ p∈a.Parts,kc p.Sym)/\kc a.Prec) (λr=>r=false) (λk y aK h1 hi hm=>?_) (λs aw=>by simp [aw])) λx J=>?_
      ·refine Par.bt (λ_=>?_) (λh=>absurd h1 h);rw [hi];have hw:aG (k+1)=k+1:=by have:=oI.n; rw [cB]; omega
       rw [hw];refine .aA (Ξ:=λz=>z=y) (.al rfl) λz aX=>?_;subst aX;exact .aA (ZA z (by have:=(oI.alts z hm).n; omega)) λc aa=>Par.bM (λ_=>.al rfl) (λaf=>.al ⟨rfl,aa (by simpa using af)⟩)
      ·rcases x with _ | r
       ·exact .al ⟨rfl,J⟩
       ·exact .al J
     ·rcases x with _ | r
      ·exact .al λ_=>⟨aO,J⟩
      ·exact .al λh=>by have:r=false:=J; rw [this] at h; cases h
    ·exact .al λh=>by have:r=false:=J; rw [this] at h; cases h
  ·exact .al λh=>by have:r=false:=J; rw [this] at h; cases h
structure y_ (T:List b4) (G:List Bool):Prop where
 NQ:G.length=T.length
 lo:3<=T.length
 hi:T.length<=lim
 le:∀ t∈T,t.cc<=50000
structure tG (T:List b4) (G:List Bool):Prop where
 aO:∀ (i:Nat) (t:b4),i<3->T[i]?=some t->t.cc<=0
 un:∀ (i j:Nat) (s t:b4),T[i]?=some s->T[j]?=some t->0<s.cc->s.cc=t.cc->i=j
 gm:∀ (i:Nat) (t:b4),3<=i->T[i]?=some t->(G[i]?=some true->0<t.cc)/\(G[i]?=some false->t.cc=0)
structure e6 (m:e'):Prop where
 a:y_ m.ba.br m.d'
 b:m.eG=0->tG m.ba.br m.d'
theorem vN {α:Type}{l:List α}{i:Int}{y:α}(h:idx l i=some y):0<=i/\i.toNat<l.length/\l[i.toNat]?=some y:=by
 unfold idx at h
 split at h
 ·rename_i aK;exact ⟨aK,(List.getElem?_eq_some_iff.1 h).1,h⟩
 ·cases h
theorem y_.set {T:List b4}{G:List Bool}(h:y_ T G) {k:Nat}{t t':b4}(hk:T[k]?=some t) (hu:t'.cc<=50000) {Mc:List Bool}(cY:Mc.length=G.length):y_ (T.set k t') Mc:=by
 exact ⟨by rw [cY,List.length_set]; exact h.NQ,by rw [List.length_set]; exact h.lo,by rw [List.length_set]; exact h.hi,λs aw=>(List.mem_or_eq_of_mem_set aw).elim (h.le s) λe=>e ▸ hu⟩
theorem tG.GP {T:List b4}{G:List Bool}(h:tG T G) {k:Nat}{t t':b4}(hk:T[k]?=some t) (hu:t'.cc=t.cc):tG (T.set k t') G:=by
 have aN:=(List.getElem?_eq_some_iff.1 hk).1;have key:∀ (i:Nat) (s:b4),(T.set k t')[i]?=some s->∃ cy,T[i]?=some cy/\cy.cc=s.cc:=by
  intro i s aw;rw [pY aN] at aw;by_cases e:i=k
  ·rw [if_pos e] at aw;cases aw;exact ⟨t,by rw [e]; exact hk,hu.symm⟩
  ·rw [if_neg e] at aw;exact ⟨s,aw,rfl⟩
 refine ⟨λi s hi aw=>?_,λi j s s2 aw j4 aK he=>?_,λi s hi aw=>?_⟩
 ·obtain ⟨cy,h1,af⟩:=key i s aw;rw [<- af]; exact h.aO i cy hi h1
 ·obtain ⟨cy,h1,af⟩:=key i s aw;obtain ⟨aar,aD,bm⟩:=key j s2 j4;exact h.un i j cy aar h1 aD (by omega) (by omega)
 ·obtain ⟨cy,h1,af⟩:=key i s aw;rw [<- af]; exact h.gm i cy hi h1
theorem tG.aaD {T:List b4}{G:List Bool}(h:tG T G) {k:Nat}{t t':b4}(hk:T[k]?=some t) (aD:3<=k) (aP:k<G.length) (aK:0<t'.cc) (aB:∀ (i:Nat) (s:b4),T[i]?=some s->s.cc≠t'.cc):tG (T.set k t') (G.set k true):=by
 have aN:=(List.getElem?_eq_some_iff.1 hk).1;refine ⟨λi s hi aw=>?_,λi j s s2 aw j4 aq he=>?_,λi s hi aw=>?_⟩
 ·rw [pY aN,if_neg (by omega)] at aw;exact h.aO i s hi aw
 ·rw [pY aN] at aw j4;by_cases b9:i=k
  ·rw [if_pos b9] at aw; cases aw;by_cases b3:j=k
   ·omega
   ·rw [if_neg b3] at j4;exact absurd he.symm (aB j s2 j4)
  ·rw [if_neg b9] at aw;by_cases b3:j=k
   ·rw [if_pos b3] at j4; cases j4;exact absurd he (aB i s aw)
   ·rw [if_neg b3] at j4;exact h.un i j s s2 aw j4 aq he
 ·rw [pY aN] at aw;rw [pY aP];by_cases b9:i=k
  ·rw [if_pos b9] at aw ⊢;cases aw;exact ⟨λ_=>aK,λh=>by cases h⟩
  ·rw [if_neg b9] at aw ⊢;exact h.gm i s hi aw
theorem tg (m:e') (a:Int) (n:ByteArray):Par (ob m a n) λm'=>rX m m'/\m'.eG≠0:=.of (t148 m a n)
theorem e6.fail {m m':e'}(h:e6 m) (aw:rX m m'/\m'.eG≠0):e6 m':=⟨by rw [aw.1.g,aw.1.gm]; exact h.a,λe=>absurd e aw.2⟩
theorem Zx (m:e') (x:Sym) (aD:3<=m.ba.br.length) (h:m.ba.br.length<=lim):Par (uB m x) λr=>r=-1\/(1<=r/\r≠2):=by
 have ah:lim=1000000000000\/lim<=1000000000000000:=by unfold lim; omega
 unfold uB;refine .aA (Ξ:=h0 (λ_=>True) (λr:Int=>1<=r/\r≠2)) ?_ λr hr=>?_
 ·refine Par.loop (λs=>1<=s/\s<=m.ba.br.length) ⟨by decide,by omega⟩ λs aw=>?_
  ·refine Par.bt (λaN=>?_) (λ_=>.al trivial);refine .aA (Ξ:=λc=>c=true->s≠2) ?_ λc aa=>Par.bM (λaJ=>.al ⟨aw.1,aa aJ⟩) (λ_=>.al ⟨by rw [cB]; omega,by rw [cB]; omega⟩);refine .go λy _=>Par.bM (λ_=>.go λz _=>Par.bM (λ_=>.al λaJ=>by simpa using aJ) (λ_=>.al λh=>by cases h)) (λ_=>.al λh=>by cases h)
 ·rcases r with _ | r
  ·exact .al (.inl rfl)
  ·exact .al (.inr hr)
theorem Qi (m:e') (n:Int) (aD:3<=m.ba.br.length) (h:m.ba.br.length<=lim):Par (v7 m n) λr=>r<0->∀ (i:Nat) (t:b4),3<=i->m.ba.br[i]?=some t->t.cc≠n:=by
 have ah:lim=1000000000000\/lim<=1000000000000000:=by unfold lim; omega
 unfold v7;refine .aA (Ξ:=h0 (λ_=>∀ (i:Nat) (t:b4),3<=i->m.ba.br[i]?=some t->t.cc≠n) (λr:Int=>0<=r)) ?_ λr hr=>?_
 ·refine Par.loop (λs=>3<=s/\s<=m.ba.br.length/\∀ (i:Nat) (t:b4),3<=i->(i:Int)<s->m.ba.br[i]?=some t->t.cc≠n) ⟨by decide,by omega,λi t h1 af=>by omega⟩ λs aw=>?_;obtain ⟨h1,af,aw⟩:=aw;refine Par.bt (λaN=>?_) (λdF=>.al λi t hi ar=>aw i t hi ?_ ar)
  ·refine .go λy ao=>?_;obtain ⟨_,_,ao⟩:=vN ao;have hw:aG (s+1)=s+1:=by rw [cB]; omega
   rw [hw];refine Par.bt (λe=>.al (show (0:Int)<=s by omega)) (λe=>.al ⟨by omega,by omega,λi t hi zK ar=>?_⟩);by_cases b3:i=s.toNat
   ·subst b3;rw [ao] at ar; cases ar; exact e
   ·exact aw i t hi (by omega) ar
  ·have:=(List.getElem?_eq_some_iff.1 ar).1;omega
 ·rcases r with _ | r
  ·exact .al λ_=>hr
  ·exact .al λh=>by have:(0:Int)<=r:=hr; omega
theorem Eb {α:Type}{l:List α}{x:α}(i:Nat) {y:α}(h:(l++[x])[i]?=some y):(i<l.length/\l[i]?=some y)\/(i=l.length/\y=x):=by
 by_cases hi:i<l.length
 ·rw [List.getElem?_append_left hi] at h;exact .inl ⟨hi,h⟩
 ·rw [List.getElem?_append_right (by omega)] at h;by_cases e:i - l.length=0
  ·rw [e] at h;simp at h;exact .inr ⟨by omega,h.symm⟩
  ·have:([x]:List α)[i - l.length]?=none:=by rw [List.getElem?_eq_none]; simp; omega
   rw [this] at h; cases h
theorem Qh (m:e') (x:Sym) (hm:e6 m) (J:kc x):Par (vZ m x) λr=>e6 r.2/\(r.1=1\/3<=r.1):=by
 unfold vZ;have ah:lim<=1000000000000000:=by unfold lim; omega
 refine .aA (Zx m x hm.a.lo hm.a.hi) λr hr=>Par.bt (λh=>.al ⟨hm,?_⟩) (λ_=>?_)
 ·show r=1\/3<=r;omega
 refine .aA (Ξ:=λj:e' × Int=>j.1.ba=m.ba/\j.1.d'=m.d'/\e6 j.1/\j.2<=50000/\(j.1.eG=0->(x.Lit=true->0<j.2/\∀ (i:Nat) (t:b4),m.ba.br[i]?=some t->t.cc≠j.2)/\(x.Lit=false->j.2=0))) ?_ λj ag=>?_
 ·refine Par.bM (λoF=>?_) (λoF=>.al ⟨rfl,rfl,hm,by show (0:Int)<=_; decide,λ_=>⟨λh=>(by rw [oF] at h; cases h),λ_=>rfl⟩⟩);obtain ⟨_,h1,af,_⟩:=J.lit oF;refine .aA (Ξ:=λc=>c=lI x.Name 0) (λc aa=>?_) λc aa=>?_
  ·unfold ky at aa
   split at aa
   ·exact (Option.some.inj aa).symm
   ·cases aa
  subst aa;have hw:aG (lI x.Name 0)=lI x.Name 0:=by rw [cB]; omega
  rw [hw];refine .aA (Qi m (lI x.Name 0) hm.a.lo hm.a.hi) λo aW=>?_;refine .aA (Ξ:=λj:e'=>j.ba=m.ba/\j.d'=m.d'/\e6 j/\(j.eG=0->m.eG=0/\o<0)) (Par.bt (λh=>.aA (tg m x.At x.Name) λm' aJ=>.al ⟨aJ.1.g,aJ.1.gm,hm.fail aJ,λe=>absurd e aJ.2⟩) (λh=>.al ⟨rfl,rfl,hm,λe=>⟨e,by omega⟩⟩)) λj ag=>.al ⟨ag.1,ag.2.1,ag.2.2.1,by show lI x.Name 0<=_; omega,λe=>⟨λ_=>⟨h1,λi t ar=>?_⟩,λh=>(by rw [oF] at h; cases h)⟩⟩;obtain ⟨b9,b3⟩:=ag.2.2.2 e;by_cases aD:3<=i
  ·exact aW b3 i t aD ar
  ·have:=(hm.b b9).aO i t (by omega) ar;show t.cc≠lI x.Name 0;omega
 ·obtain ⟨aP,sd,cU,hle,he⟩:=ag;have Oc:j.1.eG=0->tG m.ba.br m.d':=λe=>by have:=cU.b e; rwa [aP,sd] at this
  refine Par.ap λCo=>Par.ap λ_=>.al ?_;rw [aP] at Co;rw [aP,sd];simp only [List.length_cons,List.length_nil] at Co;have aD:=hm.a.lo;have Jx:=hm.a.NQ;refine ⟨⟨⟨by simp [Jx],by show 3<=(m.ba.br++[_]).length; simp; omega,by show (m.ba.br++[_]).length<=_; simp; omega,λt ar=>?_⟩,λft=>?_⟩,?_⟩
  ·rcases List.mem_append.1 ar with ar | ar
   ·exact hm.a.le t ar
   ·rw [List.mem_singleton.1 ar]; exact hle
  ·have Nh:j.1.eG=0:=ft;have au:=Oc Nh;obtain ⟨Jq,Ci⟩:=he Nh;refine ⟨λi t hi ar=>?_,λi k s t aw ar aK heq=>?_,λi t hi ar=>?_⟩
   ·rcases Eb i ar with ⟨h1,af⟩ | ⟨h1,_⟩
    ·exact au.aO i t hi af
    ·omega
   ·rcases Eb i aw with ⟨h1,af⟩ | ⟨h1,af⟩
    ·rcases Eb k ar with ⟨bm,b7⟩ | ⟨bm,b7⟩
     ·exact au.un i k s t af b7 aK heq
     ·subst b7;have heq:s.cc=j.2:=heq;cases oF:x.Lit with
      | true=>exact absurd heq ((Jq oF).2 i s af)
      | false=>have:=Ci oF; omega
    ·subst af;rcases Eb k ar with ⟨bm,b7⟩ | ⟨bm,b7⟩
     ·have heq:j.2=t.cc:=heq;have aK:0<j.2:=aK;cases oF:x.Lit with
      | true=>exact absurd heq.symm ((Jq oF).2 k t b7)
      | false=>have:=Ci oF; omega
     ·omega
   ·have V_:(m.d'++[x.Lit])[i]?=if i=m.ba.br.length then some x.Lit else m.d'[i]?:=by
     by_cases e:i=m.ba.br.length
     ·rw [if_pos e,e,<- Jx,List.getElem?_append_right (Nat.le_refl _)]; simp
     ·have:=(List.getElem?_eq_some_iff.1 ar).1;simp at this;rw [if_neg e,List.getElem?_append_left (by omega)]
    show ((m.d'++[x.Lit])[i]?=some true->0<t.cc)/\((m.d'++[x.Lit])[i]?=some false->t.cc=0);rw [V_];rcases Eb i ar with ⟨h1,af⟩ | ⟨h1,af⟩
    ·rw [if_neg (by omega)];exact au.gm i t hi af
    ·rw [if_pos h1];subst af;exact ⟨λh=>(Jq (Option.some.inj h)).1,λh=>Ci (Option.some.inj h)⟩
  ·right;show 3<=aG (((m.ba.br++[_]).length:Int) - 1);simp only [List.length_append,List.length_cons,List.length_nil];rw [cB]; omega
theorem CX {α:Type}{l:List α}{i:Int}{y:α}(h:idx l i=some y):y∈l:=List.mem_of_getElem? (vN h).2.2
theorem e6.GP {m:e'}(h:e6 m) {k:Nat}{t t':b4}(hk:m.ba.br[k]?=some t) (hu:t'.cc=t.cc):y_ (m.ba.br.set k t') m.d'/\(m.eG=0->tG (m.ba.br.set k t') m.d') :=
 ⟨h.a.set hk (by rw [hu]; exact h.a.le t (List.mem_of_getElem? hk)) rfl,λe=>(h.b e).GP hk hu⟩
theorem e6.IA {m m':e'}(h:e6 m) (aw:rX m m'/\m'.eG≠0):e6 (⟨(⟨m.ba.br,m'.ba.dC,m'.ba.bx,m'.ba.hf,m'.ba.jX⟩:bD),m'.d',m'.fw,m'.dw,m'.eG,m'.kg,m'.kh,m'.fb,m'.dd⟩:e') :=
 ⟨by show y_ m.ba.br m'.d'; rw [aw.1.gm]; exact h.a,λe=>absurd e aw.2⟩
theorem Zw (m:e') (d:Decl) (x:Sym) (hm:e6 m) (J:kc x):Par (vW m d x) e6:=by
 unfold vW;refine Par.bM (λ_=>?_) (λ_=>?_)
 ·refine .aA (Ξ:=λ_=>True) (λ_ _=>trivial) λk _=>.aA (Ξ:=e6) ?_ λm' hm=>.al hm;refine Par.bt (λ_=>Par.ap λ_=>.al ⟨hm.a,hm.b⟩) (λ_=>?_);refine .go λy _=>.aA (Ξ:=e6) (Par.bM (λ_=>.aA (tg m _ _) λm' h=>.al (hm.fail h)) (λ_=>.al hm)) λm' hm=>.al hm
 ·refine .aA (Qh m x hm J) λr hr=>?_;obtain ⟨hr,iU⟩:=hr;refine .go λy ao=>?_;refine .aA (Ξ:=e6) ?_ λgX pD=>?_
  ·refine Par.bM (λ_=>?_) (λ_=>.al hr);refine .aA (Ξ:=e6) (Par.bM (λ_=>.aA (tg r.2 _ _) λm' h=>.al (hr.IA h)) (λ_=>.al hr)) λfU w4=>?_;refine .go λz aX=>?_;obtain ⟨_,_,aX⟩:=vN aX;rw [List.set_set];obtain ⟨h1,af⟩:=w4.GP (t':=(⟨z.Name,z.Lit,z.cc,fU.fb,aG (d.Kind - 1),z.Tag⟩:b4)) aX rfl;exact .al ⟨h1,af⟩
  refine .go λy _=>?_;refine .aA (Ξ:=e6) ?_ λiI vj=>?_
  ·refine Par.bt (λpO=>?_) (λ_=>.al pD);refine .aA (Ξ:=λc:Bool=>c=false->r.1≠1/\∀ (i:Nat) (t:b4),3<=i->gX.ba.br[i]?=some t->t.cc≠x.cc) ?_ λc aa=>?_
   ·refine Par.bt (λ_=>.al λh=>by cases h) (λh1=>.go λgm _=>Par.bM (λ_=>.al λh=>by cases h) (λ_=>.aA (Qi gX x.cc pD.a.lo pD.a.hi) λo aW=>.al λh=>⟨h1,aW (by have:=of_decide_eq_false h; omega)⟩))
   refine .aA (Ξ:=λj=>e6 j/\(j.eG=0->r.1≠1/\∀ (i:Nat) (t:b4),3<=i->j.ba.br[i]?=some t->t.cc≠x.cc)) (Par.bM (λ_=>.aA (tg gX _ _) λm' h=>.al ⟨pD.IA h,λe=>absurd e h.2⟩) (λh=>.al ⟨pD,λ_=>aa h⟩)) λhV vk=>?_;obtain ⟨vk,aB⟩:=vk;refine .go λz aX=>.go λgm sd=>.al ?_;obtain ⟨aK,aN,aX⟩:=vN aX;obtain ⟨_,XA,sd⟩:=vN sd;have hle:=J.num;refine ⟨vk.a.set (t':=(⟨z.Name,z.Lit,x.cc,z.Level,z.i',z.Tag⟩:b4)) aX hle.2 (by simp),λe=>?_⟩;obtain ⟨aD,bm⟩:=aB e;have au:=vk.b e;refine au.aaD (t':=(⟨z.Name,z.Lit,x.cc,z.Level,z.i',z.Tag⟩:b4)) aX (by omega) XA pO λi t ar=>?_;by_cases aes:3<=i
   ·grind
   ·have:=au.aO i t (by omega) ar
    grind
  refine .go λy _=>.aA (Ξ:=e6) ?_ λj ag=>.al ag;refine Par.bM (λ_=>?_) (λ_=>.al vj);refine .aA (Ξ:=λ_=>True) (λ_ _=>trivial) λc _=>?_;refine .aA (Ξ:=e6) (Par.bM (λ_=>.aA (tg iI _ _) λm' h=>.al (vj.IA h)) (λ_=>.al vj)) λnE Fe=>?_;refine .go λz aX=>?_;obtain ⟨_,_,aX⟩:=vN aX;obtain ⟨h1,af⟩:=Fe.GP (t':=(⟨z.Name,z.Lit,z.cc,z.Level,z.i',d.Tag⟩:b4)) aX rfl;exact .al ⟨h1,af⟩
theorem Qj (m:e') (x:Sym) (hm:e6 m) (J:kc x):Par (tj m x) λr=>e6 r.2:=by
 unfold tj;refine Par.bM (λ_=>.aA (Qh m x hm J) λr hr=>.al hr.1) (λ_=>.aA (Ξ:=λ_=>True) (λ_ _=>trivial) λk _=>Par.bM (λ_=>.al hm) (λ_=>.aA (Ξ:=λ_=>True) (λ_ _=>trivial) λt _=>Par.bM (λ_=>.aA (tg m _ _) λm' h=>.al (hm.fail h)) (λ_=>.al hm)))
theorem Zy (m:e') (left:ByteArray) (a:Alt) (hm:e6 m) (aI:(∀ p∈a.Parts,kc p.Sym)/\kc a.Prec):Par (vX m left a) e6:=by
 unfold vX;refine .aA (Ξ:=λ_=>True) (λ_ _=>trivial) λaR _=>?_;refine .aA (Ξ:=λr:e' × List Int × ByteArray × Int=>e6 r.1) ?_ λa7 aD=>?_
 ·refine Par.loop (λs=>e6 s.1) hm λs aw=>?_;obtain ⟨m1,rt,bM,at_,i⟩:=s;simp only at aw ⊢;refine Par.bt (λaN=>?_) (λ_=>.al aw);refine .aA (Ξ:=λj:e' × List Int × ByteArray × Int=>e6 j.1) ?_ λj ag=>.al ag;refine .go λy ao=>.aA (Ξ:=λj:e' × List Int × ByteArray × Int=>e6 j.1) ?_ λj ag=>.al ag;have Kk:=(CX ao);refine .aA (Ξ:=λj:e' × List Int × ByteArray × Int=>e6 j.1) ?_ λj ag=>.al ag;refine Par.bM (λ_=>?_) (λ_=>?_)
  ·exact .aA (Qj m1 y.Sym aw (aI.1 y Kk)) λr hr=>Par.ap λ_=>.al hr
  ·exact .aA (Ξ:=λ_=>True) (λ_ _=>trivial) λj _=>.al ⟨aw.a,aw.b⟩
 ·refine .aA (Ξ:=λ_=>True) (λ_ _=>trivial) λgx _=>?_;refine .aA (Ξ:=λj:e' × Int=>e6 j.1) ?_ λj ag=>Par.ap λ_=>Par.ap λ_=>.al ⟨ag.a,ag.b⟩;refine Par.bM (λ_=>?_) (λ_=>.al aD);refine .aA (Ξ:=λ_=>True) (λ_ _=>trivial) λc _=>.aA (Ξ:=λj:e' × Int=>e6 j.1) ?_ λj ag=>.al ag;exact Par.bM (λ_=>.aA (Qj a7.1 a.Prec aD aI.2) λr hr=>.al hr) (λ_=>.aA (tg a7.1 _ _) λm' h=>.al (aD.fail h))
structure u0 (g:bD):Prop where
 aO:∀ (i:Nat) (t:b4),i<3->g.br[i]?=some t->t.cc<=0
 pos:∀ (i:Nat) (t:b4),3<=i->g.br[i]?=some t->0<t.cc/\t.cc<=100000
 un:∀ (i j:Nat) (s t:b4),g.br[i]?=some s->g.br[j]?=some t->0<s.cc->s.cc=t.cc->i=j
theorem Zu (s:Source) (au:u4 s):Par (vV s) λr=>r.2.1=0->u0 r.1:=by
 have Xb:=au.qh;have CC:=au.aF;unfold vV;refine .aA (Zv s au) λc aa=>Par.bM (λ_=>.al λh=>absurd h (by decide)) (λkl=>?_);have ok:Mm s:=aa (by simpa using kl);refine .aA (Ξ:=λl=>l=List.replicate 3 false) (λa e=>by unfold oP at e; split at e <;> cases e; rfl) λa7 hb=>?_;subst hb
 -- declarations
 refine .aA (Ξ:=λr:e' × ByteArray=>e6 r.1) ?_ λbW b7=>?_
 ·refine Par.loop (λz=>e6 z.1) ⟨⟨rfl,Nat.le_refl 3,by show 3<=lim; unfold lim; omega,λt ar=>?_⟩,λ_=>⟨λi t hi ar=>?_,λi j a b aI au aK he=>?_,λi t hi ar=>?_⟩⟩ λz aX=>?_
  ·have ar:t∈[_,_,_]:=ar;simp only [List.mem_cons,List.not_mem_nil,or_false] at ar;rcases ar with rfl | rfl | rfl <;> decide
  ·have ar:t∈[_,_,_]:=List.mem_of_getElem? ar;simp only [List.mem_cons,List.not_mem_nil,or_false] at ar;rcases ar with rfl | rfl | rfl <;> decide
  ·have aI:a∈[_,_,_]:=List.mem_of_getElem? aI;simp only [List.mem_cons,List.not_mem_nil,or_false] at aI;rcases aI with rfl | rfl | rfl <;> exact absurd aK (by decide)
  ·have:=(List.getElem?_eq_some_iff.1 ar).1;have:i<3:=this;omega
  ·obtain ⟨m,st,i⟩:=z;have hm:=aX;simp only at hm ⊢;refine Par.bt (λaN=>?_) (λ_=>.al hm);refine .go λd aO=>?_;have k3:=CX aO;refine .aA (Ξ:=λ_=>True) (λ_ _=>trivial) λ_ _=>.aA (Ξ:=λ_=>True) (λ_ _=>trivial) λiW _=>?_;refine .aA (Ξ:=λr:e' × ByteArray=>e6 r.1) ?_ λr hr=>.al hr;refine Par.loop (λz=>e6 z.1) ⟨hm.a,hm.b⟩ λz aX=>?_;obtain ⟨m,st,k⟩:=z;have hm:=aX;simp only at hm ⊢;have Ch:=(au.decls d k3).n;refine Par.bt (λxn=>?_) (λ_=>.al hm);refine .aA (Ξ:=λr:e' × ByteArray=>e6 r.1) ?_ λr hr=>.al hr;refine Par.bM (λ_=>.go λx J=>?_) (λ_=>?_)
   ·have CU:=CX J;exact .aA (Zw m d x hm (ok.decls d k3 x CU)) λm' hT=>.al hT
   ·refine .aA (Ξ:=e6) (Par.bM (λ_=>.go λ_ _=>.go λ_ _=>.aA (tg m _ _) λm' h=>.al (hm.fail h)) (λ_=>.al hm)) λm' hT=>.go λ_ _=>.al hT
 -- what stands on the left
 refine .aA (Ξ:=e6) ?_ λgz IP=>?_
 ·refine Par.loop (λz=>e6 z.1) b7 λz aX=>?_;obtain ⟨m,i⟩:=z;have hm:=aX;simp only at hm ⊢;refine Par.bt (λaN=>?_) (λ_=>.al hm);refine .aA (Ξ:=e6) ?_ λr hr=>.al hr;refine .go λr hr=>.aA (Ξ:=λ_=>True) (λ_ _=>trivial) λ_ _=>?_;refine .aA (Ξ:=e6) (Par.bM (λ_=>.aA (tg m _ _) λm' h=>.al (hm.fail h)) (λ_=>.al hm)) λmQ ra=>?_;refine .aA (Ξ:=λ_=>True) (λ_ _=>trivial) λ_ _=>?_;exact .aA (Ξ:=λ_=>True) (λ_ _=>trivial) λl _=>.al ⟨ra.a,ra.b⟩
 -- types and starts
 refine .aA (Ξ:=e6) ?_ λhF vl=>?_
 ·refine Par.loop (λz=>e6 z.1) IP λz hm=>?_;obtain ⟨m,i⟩:=z;simp only at hm ⊢;refine Par.bt (λaN=>?_) (λ_=>.al hm);refine .aA (Ξ:=e6) ?_ λr hr=>.al hr;refine Par.loop (λz=>e6 z.1) hm λz hm=>?_;obtain ⟨m,k⟩:=z;simp only at hm ⊢;refine .go λd _=>Par.bt (λaN=>?_) (λ_=>.al hm);refine .aA (Ξ:=e6) ?_ λr hr=>.al hr;refine .go λ_ _=>.go λ_ _=>.aA (Ξ:=λ_=>True) (λ_ _=>trivial) λ_ _=>?_;exact .aA (Ξ:=e6) (Par.bM (λ_=>.aA (tg m _ _) λm' h=>.al (hm.fail h)) (λ_=>.al hm)) λm' hT=>.al hT
 refine .aA (Ξ:=λ_=>True) (λ_ _=>trivial) λxN _=>.aA (Ξ:=λ_=>True) (λ_ _=>trivial) λmw _=>?_
 -- the alternatives
 refine .aA (Ξ:=e6) ?_ λcp pE=>?_
 ·refine Par.loop (λz=>e6 z.1) ⟨vl.a,vl.b⟩ λz aX=>?_;obtain ⟨m,i⟩:=z;have hm:=aX;simp only at hm ⊢;refine Par.bt (λaN=>?_) (λ_=>.al hm);refine .aA (Ξ:=e6) ?_ λr hr=>.al hr;refine Par.loop (λz=>e6 z.1) hm λz aX=>?_;obtain ⟨m,k⟩:=z;have hm:=aX;simp only at hm ⊢;refine .go λd aO=>Par.bt (λxn=>?_) (λ_=>.al hm);have k3:=CX aO;refine .go λd1 Fo=>.go λd2 zC=>.go λa aI=>?_;rw [aO] at Fo zC;cases Fo; cases zC;have Wy:=CX aI;exact .aA (Zy m d.Left a hm (ok.rules d k3 a Wy)) λm' hT=>.al hT
 refine Par.pA (λh=>.al λaJ=>absurd aJ h) (λhe=>?_);have J4:=pE.b he;refine .aA (Ξ:=λ_=>True) (λ_ _=>trivial) λwA _=>.aA (Ξ:=λ_=>True) (λ_ _=>trivial) λlz _=>?_
 -- numbers
 have cU:=pE.a;have Co:cp.ba.br.length<=1000000000000000:=by have:=cU.hi; unfold lim at this; omega
 refine .aA (Ξ:=λl:List b4=>∃ (i next:Int),l.length=cp.ba.br.length/\(l.length:Int)<=i/\(∀ (j:Nat) (t:b4),l[j]?=some t->∃ t0,cp.ba.br[j]?=some t0/\((t.cc=t0.cc/\(¬ (3<=j/\(j:Int)<i)\/cp.d'[j]?=some true))\/(57346<=t.cc/\t.cc<next/\3<=j/\(j:Int)<i)))/\(∀ (j k:Nat) (s t:b4),l[j]?=some s->l[k]?=some t->57346<=s.cc->s.cc=t.cc->j=k)/\57346<=next/\next<=57343+i/\i<=l.length) ?_ λmx NW=>?_
 ·refine Par.loop (λz=>z.1.length=cp.ba.br.length/\(∀ (j:Nat) (t:b4),z.1[j]?=some t->∃ t0,cp.ba.br[j]?=some t0/\((t.cc=t0.cc/\(¬ (3<=j/\(j:Int)<z.2.2)\/cp.d'[j]?=some true))\/(57346<=t.cc/\t.cc<z.2.1/\3<=j/\(j:Int)<z.2.2)))/\(∀ (j k:Nat) (s t:b4),z.1[j]?=some s->z.1[k]?=some t->57346<=s.cc->s.cc=t.cc->j=k)/\57346<=z.2.1/\z.2.1<=57343+z.2.2/\3<=z.2.2/\z.2.2<=z.1.length) ⟨rfl,λj t ar=>⟨t,ar,.inl ⟨rfl,.inl (by show ¬ (3<=j/\(j:Int)<3); omega)⟩⟩,λj k s t aw ar aK he=>?_,by show (57346:Int)<=57346; decide,by show (57346:Int)<=57343+3; decide,Int.le_refl 3,by have:=cU.lo; show (3:Int)<=(cp.ba.br.length:Nat); omega⟩ λz aX=>?_
  ·have:=cU.le s (List.mem_of_getElem? aw); omega
  obtain ⟨l,next,i⟩:=z;obtain ⟨ah,eV,rb,mf,xp,Xl,uf⟩:=aX;simp only at ah eV rb mf xp Xl uf ⊢;have hw:aG (i+1)=i+1:=by rw [cB]; omega
  have Yd:aG (next+1)=next+1:=by rw [cB]; omega
  rw [hw,Yd];refine Par.bt (λaN=>?_) (λdF=>.al ⟨i,next,ah,by omega,eV,rb,mf,xp,uf⟩);have Fp:i.toNat<l.length:=by omega
  refine .aA (Ξ:=λj:List b4 × Int=>j.1.length=cp.ba.br.length/\(∀ (k:Nat) (t:b4),j.1[k]?=some t->∃ t0,cp.ba.br[k]?=some t0/\((t.cc=t0.cc/\(¬ (3<=k/\(k:Int)<i+1)\/cp.d'[k]?=some true))\/(57346<=t.cc/\t.cc<j.2/\3<=k/\(k:Int)<i+1)))/\(∀ (a k:Nat) (s t:b4),j.1[a]?=some s->j.1[k]?=some t->57346<=s.cc->s.cc=t.cc->a=k)/\57346<=j.2/\j.2<=57343+(i+1)) ?_ λj ag=>.al ⟨ag.1,ag.2.1,ag.2.2.1,ag.2.2.2.1,ag.2.2.2.2,by show 3<=i+1; omega,by show i+1<=(j.1.length:Nat); rw [ag.1,<- ah]; omega⟩;refine .go λgm sd=>.aA (Ξ:=λj:List b4 × Int=>j.1.length=cp.ba.br.length/\(∀ (k:Nat) (t:b4),j.1[k]?=some t->∃ t0,cp.ba.br[k]?=some t0/\((t.cc=t0.cc/\(¬ (3<=k/\(k:Int)<i+1)\/cp.d'[k]?=some true))\/(57346<=t.cc/\t.cc<j.2/\3<=k/\(k:Int)<i+1)))/\(∀ (a k:Nat) (s t:b4),j.1[a]?=some s->j.1[k]?=some t->57346<=s.cc->s.cc=t.cc->a=k)/\57346<=j.2/\j.2<=57343+(i+1)) ?_ λj ag=>.al ag;obtain ⟨_,_,sd⟩:=vN sd;refine Par.bM (λaP=>.go λy ao=>.al ?_) (λaP=>.al ⟨ah,λk t ar=>?_,rb,mf,by omega⟩)
  ·obtain ⟨_,_,ao⟩:=vN ao;obtain ⟨t0,ft,eP⟩:=eV _ y ao;have ae9:y.cc<next:=by
    rcases eP with ⟨eP,_⟩ | eP
    ·have:=cU.le t0 (List.mem_of_getElem? ft); omega
    ·exact eP.2.1
   have me:∀ (k:Nat) (t:b4),l[k]?=some t->t.cc<next:=λk t ar=>by
    obtain ⟨t1,f0,f3⟩:=eV k t ar;rcases f3 with ⟨f3,_⟩ | f3
    ·have:=cU.le t1 (List.mem_of_getElem? f0); omega
    ·exact f3.2.1
   refine ⟨by show (l.set _ _).length=_; rw [List.length_set]; exact ah,λk t ar=>?_,λa k s t aw ar aK he=>?_,by show 57346<=next+1; omega,by show next+1<=_; omega⟩
   ·have ar:(l.set i.toNat _)[k]?=some t:=ar;rw [pY Fp] at ar;by_cases e:k=i.toNat
    ·rw [if_pos e] at ar;cases ar;subst e;exact ⟨t0,ft,.inr ⟨mf,by show next<next+1; omega,by omega,by omega⟩⟩
    ·rw [if_neg e] at ar;obtain ⟨t1,f0,f3⟩:=eV k t ar;refine ⟨t1,f0,?_⟩;rcases f3 with ⟨f3,f4⟩ | f3
     ·exact .inl ⟨f3,f4.imp (λh=>by omega) id⟩
     ·exact .inr ⟨f3.1,by show t.cc<next+1; omega,f3.2.2.1,by omega⟩
   ·have aw:(l.set i.toNat _)[a]?=some s:=aw;have ar:(l.set i.toNat _)[k]?=some t:=ar;rw [pY Fp] at aw ar;by_cases e:a=i.toNat
    ·rw [if_pos e] at aw;cases aw;by_cases b1:k=i.toNat
     ·omega
     ·rw [if_neg b1] at ar;have h1:=me k t ar;have he:next=t.cc:=he;omega
    ·rw [if_neg e] at aw;by_cases b1:k=i.toNat
     ·rw [if_pos b1] at ar;cases ar;have h1:=me a s aw;have he:s.cc=next:=he;omega
     ·rw [if_neg b1] at ar;exact rb a k s t aw ar aK he
  ·obtain ⟨t1,f0,f3⟩:=eV k t ar;refine ⟨t1,f0,?_⟩;rcases f3 with ⟨f3,f4⟩ | f3
   ·by_cases e:k=i.toNat
    ·refine .inl ⟨f3,.inr ?_⟩;rw [e,sd];simpa using aP
    ·exact .inl ⟨f3,f4.imp (λh=>by omega) id⟩
   ·exact .inr ⟨f3.1,f3.2.1,f3.2.2.1,by omega⟩
 -- limits
 refine .aA (Ξ:=λc=>c=false->mx.length<=40) ?_ λvb IL=>?_
 ·exact Par.bt (λ_=>.al λh=>by cases h) (λh1=>λ_ _ _=>by omega)
 refine .aA (Ξ:=λc=>c=false->vb=false) ?_ λA3 IM=>?_
 ·refine Par.loop (λz=>z.1=false->vb=false) id λz aX=>?_;refine Par.bM (λ_=>?_) (λ_=>.al aX);exact .aA (Ξ:=λc=>c=false->vb=false) (Par.bM (λ_=>.al λh=>by cases h) (λh=>.go λ_ _=>.al λ_=>aX h)) λc aa=>.al aa
 refine Par.bM (λ_=>.al λh=>absurd h (by decide)) (λaa=>.al λ_=>?_);have gE:=IL (IM aa);obtain ⟨i,next,ah,dF,eV,rb,mf,xp,uf⟩:=NW;refine ⟨λj t ag ar=>?_,λj t ag ar=>?_,λj k s t aw ar aK Ci=>?_⟩
 ·obtain ⟨t0,ft,eP⟩:=eV j t ar;rcases eP with ⟨eP,_⟩ | eP
  ·rw [eP]; exact J4.aO j t0 ag ft
  ·omega
 ·have ez:j<mx.length:=(List.getElem?_eq_some_iff.1 ar).1;obtain ⟨t0,ft,eP⟩:=eV j t ar;rcases eP with ⟨eP,lj⟩ | eP
  ·rcases lj with lj | lj
   ·omega
   ·have h1:=(J4.gm j t0 ag ft).1 lj;have af:=cU.le t0 (List.mem_of_getElem? ft);omega
  ·omega
 ·by_cases VN:57346<=s.cc
  ·exact rb j k s t aw ar VN Ci
  ·obtain ⟨e9,ft,eP⟩:=eV j s aw;obtain ⟨t0,f0,f3⟩:=eV k t ar;rcases eP with ⟨eP,_⟩ | eP
   ·rcases f3 with ⟨f3,_⟩ | f3
    ·exact J4.un j k e9 t0 ft f0 (by omega) (by omega)
    ·omega
   ·omega
def sx (a b:cG):Bool:=decide (a.At<b.At)||(decide (a.At=b.At)&&decide (a.cb<b.cb))
theorem F3 {a b:cG}:sx a b=true↔(a.At<b.At\/(a.At=b.At/\a.cb<b.cb)):=by simp [sx]
theorem KP {a b:cG}:sx a b=false↔¬ (a.At<b.At\/(a.At=b.At/\a.cb<b.cb)):=by
 rw [<- F3]; simp
theorem Qd:Ord sx where
 swo:=⟨λx=>by rw [KP]; omega,λx y z h1 af=>by rw [F3] at *; omega,λx y z h1 af=>by rw [KP] at *; omega⟩
 ju x y h1 af:=by
  rw [KP] at h1 af;obtain ⟨aR,x2⟩:=x;obtain ⟨bB,y2⟩:=y;simp only at h1 af;have:aR=bB:=by omega
  have:x2=y2:=by omega
  subst_vars; rfl
theorem S9 {α:Type} [DecidableEq α] {lt:α->α->Bool}(h:Ord lt) {l:List α}(aB:l.Nodup):e_ lt (h_ lt l):=by
 have h1:=FQ h.swo l;have af:(h_ lt l).Nodup:=(tc lt l).nodup_iff.2 aB;refine List.Pairwise.imp (λ{a b} B9=>?_) (h1.and af);cases bP:lt a b with
 | true=>rfl
 | false=>exact absurd (h.ju _ _ bP (by simpa using B9.1)) B9.2
def tC (T:List b4) (p:cG):Prop:=∃ (k:Nat) (t:b4),T[k]?=some t/\0<t.cc/\p=⟨t.cc,(k:Int)⟩
theorem tC.val {T:List b4}{p:cG}(h:tC T p):∃ (k:Nat) (t:b4),T[k]?=some t/\p.cb=(k:Int)/\p.At=t.cc/\0<t.cc:=by
 obtain ⟨k,t,h1,af,rfl⟩:=h;exact ⟨k,t,h1,rfl,rfl,af⟩
theorem HY (a b:Int):∃ v,tm a b=some v/\(v<0↔a<b)/\(v=0↔a=b):=by
 have e:∀ a,wa a=some false:=λa=>by simp [wa]
 unfold tm;simp only [e,Option.bind_some,cond_false];by_cases h1:a<b
 ·exact ⟨-1,by simp [h1],by omega,by omega⟩
 ·by_cases af:b<a
  ·exact ⟨1,by simp [h1,af],by omega,by omega⟩
  ·exact ⟨0,by simp [h1,af],by omega,by omega⟩
theorem TJ (g:bD) (aP:u0 g) (ah:g.br.length<=1000):Tot (AE g) λl=>e_ sx l/\l.length<=1000/\∀ p,p∈l↔tC g.br p:=by
 unfold AE;refine .aA (Ξ:=λl:List cG=>(l.length<=1000/\∀ p,p∈l↔tC g.br p)/\l.Pairwise λa b=>a.cb<b.cb) ?_ λl ah=>?_
 ·refine Tot.upto (λs=>s.2) g.br.length (λk s=>(s.1.length<=k/\∀ p,p∈s.1↔(tC g.br p/\p.cb<(k:Int)))/\s.1.Pairwise λa b=>a.cb<b.cb) rfl (by omega) ⟨⟨Nat.le_refl 0,λp=>⟨λh=>(by cases h),λh=>by obtain ⟨k,t,_,e,_⟩:=h.1.val; omega⟩⟩,.nil⟩ λk s hk he bf=>?_;obtain ⟨l,i⟩:=s;obtain ⟨⟨h1,af⟩,b7⟩:=bf;simp only at he h1 af b7 ⊢;subst he;rw [et k (by omega)];refine Tot.bt (λaN=>?_) (λdF=>.al ⟨⟨by omega,λp=>(af p).trans ⟨λh=>h.1,λh=>⟨h,?_⟩⟩⟩,b7⟩)
  ·have aN:k<g.br.length:=by omega
   rw [dN aN];have mL:g.br[k]?=some g.br[k]:=List.getElem?_eq_getElem aN;refine .aA (Ξ:=λo:List cG=>(o.length<=k+1/\∀ p,p∈o↔(tC g.br p/\p.cb<((k+1:Nat):Int)))/\o.Pairwise λa b=>a.cb<b.cb) ?_ λo aW=>.al ⟨aN,rfl,aW⟩;simp only [Option.bind_some];refine .aA (Ξ:=λo:List cG=>(o.length<=k+1/\∀ p,p∈o↔(tC g.br p/\p.cb<((k+1:Nat):Int)))/\o.Pairwise λa b=>a.cb<b.cb) ?_ λo aW=>.al aW;refine Tot.bt (λaq=>.bK<|.al ⟨⟨by simp; omega,λp=>?_⟩,?_⟩) (λaq=>.al ⟨⟨by omega,λp=>?_⟩,b7⟩)
   ·rw [List.mem_append,List.mem_singleton,af];constructor
    ·rintro (h | rfl)
     ·exact ⟨h.1,by omega⟩
     ·exact ⟨⟨k,_,mL,aq,rfl⟩,by show (k:Int)<((k+1:Nat):Int); omega⟩
    ·rintro ⟨h,hv⟩;obtain ⟨j,t,aD,bm,rfl⟩:=h;simp only at hv;by_cases e:j=k
     ·subst e;rw [mL] at aD; cases aD;exact .inr rfl
     ·exact .inl ⟨⟨j,t,aD,bm,rfl⟩,by show (j:Int)<k; omega⟩
   ·refine List.pairwise_append.2 ⟨b7,List.pairwise_singleton ..,λa aI b au=>?_⟩;rw [List.mem_singleton.1 au];exact ((af a).1 aI).2
   ·rw [af];constructor
    ·rintro ⟨h,hv⟩;exact ⟨h,by omega⟩
    ·rintro ⟨h,hv⟩;obtain ⟨j,t,aD,bm,rfl⟩:=h;simp only at hv;refine ⟨⟨j,t,aD,bm,rfl⟩,?_⟩;show (j:Int)<k;by_cases e:j=k
     ·subst e;rw [mL] at aD; cases aD;exact absurd bm aq
     ·omega
  ·obtain ⟨j,t,aD,_,rfl⟩:=h;have:=(List.getElem?_eq_some_iff.1 aD).1;show (j:Int)<k;omega
 ·obtain ⟨ah,JZ⟩:=ah;have aw:pZ (λa b=>DL a b) l=some (h_ sx l):=by
   refine aaV Qd (λa aI b au=>?_) (by omega);obtain ⟨v,hv,h1,af⟩:=HY a.At b.At;refine ⟨v,by unfold DL; rw [hv]; rfl,h1.trans ?_⟩;rw [F3];constructor
   ·exact .inl
   ·rintro (h | ⟨h,aJ⟩)
    ·exact h
    ·exfalso;obtain ⟨i,s,b9,b3,rfl⟩:=(ah.2 a).1 aI;obtain ⟨j,t,eP,lj,rfl⟩:=(ah.2 b).1 au;simp only at h aJ;have:=aP.un i j s t b9 eP b3 h;omega
  rw [aw];refine .al ⟨S9 Qd (JZ.imp λ{a b} h e=>by subst e; omega),by rw [(tc sx l).length_eq]; exact ah.1,λp=>((tc sx l).mem_iff).trans (ah.2 p)⟩
theorem abM:DR=some true:=by kernel_rfl
end Go.Proofs
