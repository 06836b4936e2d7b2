/- Parts of the proof that the last text states. -/
import Derived.KernelRfl
import Derived.Test.YtaddiiogopnkpaaGreatE7
import Derived.ProofKit
import Derived.RowKit3
set_option linter.unusedVariables false
namespace Go.Proofs
open Go Go.Own
set_option maxRecDepth 100000
theorem iF.Y9 {m:fe}{T L:Nat}(h:iF m T L):lv m (3+T) m.dw.length 0 0 :=
 ⟨h.gq,h.lo,h.hi,by have:=h.ty; omega,rfl,by rw [h.hq]; decide,by rw [h.gC]; exact Nat.le_refl 0,by rw [h.gC]; exact λp aq=>absurd aq (by simp),h.lvl,h.jy,by rw [h.gC]; exact λ_ p aq=>absurd aq (by simp)⟩
theorem t123 (s:Source) (ar:ve s):Tot (v' s) λr=>r.2.1=0->fZ r.1:=by
 unfold v';refine .aA (t146 s ar) λc aa=>Tot.bN (λ_=>.al λh=>absurd h (by decide)) (λkt=>?_);have ok:My s:=aa (by simpa using kt);refine .aA (Tot.mk (by decide) (rfl:List.replicate (3:Int).toNat false=List.replicate (3:Int).toNat false)) λa8 hg=>?_;have Xh:=ar.qo;have CL:=ar.aD
 -- declarations
 refine Tot.aA (Ξ:=λr=>iF r.1 (1001 * 1000) 0) ?_ λbV b7=>?_
 ·refine Tot.count (λz=>z.2.2) s.Decls.length (λz=>0<=z.2.2/\z.2.2<=s.Decls.length/\iF z.1 (1001 * z.2.2.toNat) 0/\z.1.fg<=z.2.2) ⟨Int.le_refl 0,by show (0:Int)<=_; omega,⟨by show a8.length=3; rw [<- hg]; rfl,Nat.le_refl 3,Nat.le_refl 3,Nat.le_refl 0,Nat.le_refl 0,rfl,rfl,Int.le_refl 0,by show ∀ t∈[_,_,_],0<=b5.Level t; simp⟩,Int.le_refl 0⟩ (by show (s.Decls.length:Int) - 0<_; omega) λz aX=>?_;obtain ⟨m,st,i⟩:=z;obtain ⟨aK,h1,hm,pT⟩:=aX;simp only at aK h1 hm pT ⊢;have hw:aG (i+1)=i+1:=by rw [cC]; omega
  rw [hw];have ux:=hm.lvl;refine Tot.bs (λaN=>?_) (λ_=>.al (hm.mono (by omega) (Nat.le_refl _)));refine .aA (Tot.hs (Φ:=λy=>y∈s.Decls) aK aN λy _ ao=>ao) λd aR=>?_;have h7:=ar.decls d aR;have Cq:=h7.n;refine .aA (Ξ:=λ_=>True) (Tot.bN (λ_=>.al trivial) (λ_=>.al trivial)) λiI _=>.aA (Ξ:=λj=>0<=j/\j<=i+1) (Tot.bN (λ_=>.al (by rw [cC]; omega)) (λ_=>.al (by omega))) λjc B1=>?_;refine Tot.aA (Ξ:=λr=>iF r.1 (1001 * i.toNat+1000) 0/\r.1.fg<=i+1) ?_ λeF xc=>.al ⟨⟨?_,?_,?_,?_⟩,?_,?_⟩
  ·refine Tot.count (λz=>z.2.2) d.ff.length (λz=>0<=z.2.2/\z.2.2<=d.ff.length/\iF z.1 (1001 * i.toNat+z.2.2.toNat) 0/\z.1.fg<=i+1) ⟨Int.le_refl 0,by show (0:Int)<=_; omega,⟨hm.gq,hm.lo,hm.hi,hm.ty,hm.hG,hm.gC,hm.hq,B1.1,hm.jy⟩,B1.2⟩ (by show (d.ff.length:Int) - 0<_; omega) λz aX=>?_;obtain ⟨m,st,k⟩:=z;obtain ⟨g0,g1,hm,pT⟩:=aX;simp only at g0 g1 hm pT ⊢;have sx:aG (k+1)=k+1:=by rw [cC]; omega
   rw [sx];refine Tot.bs (λxx=>?_) (λ_=>.al ⟨hm.mono (by omega) (Nat.le_refl _),pT⟩);have F2:Tot (idx d.ff k) λy=>y∈d.ff:=Tot.hs g0 xx λy _ ao=>ao;refine Tot.aA (Ξ:=λj=>iF j.1 (1001 * i.toNat+k.toNat+1) 0/\j.1.fg<=i+1) ?_ λj ag=>.al ⟨⟨?_,?_,?_,ag.2⟩,?_,?_⟩
   ·refine Tot.bN (λ_=>?_) (λ_=>?_)
    ·refine .aA F2 λx J=>.aA (t147 m d x hm.gq (by have:=hm.hi; omega) (by have:=hm.ty; omega) (ok.decls d aR x J)) λm' aQ=>.al ⟨hm.grow aQ,by show m'.fg<=_; rw [aQ.lvl]; exact pT⟩
    ·refine Tot.aA (Ξ:=λj=>iF j (1001 * i.toNat+k.toNat+1) 0/\j.fg<=i+1) ?_ λj ag=>.aA F2 λ_ _=>.al ag;refine Tot.bN (λ_=>?_) (λ_=>.al ⟨hm.mono (by omega) (Nat.le_refl _),pT⟩);exact .aA F2 λ_ _=>.aA F2 λ_ _=>.aA (t148 m _ _) λm' hW=>.al ⟨(hm.same hW.1).mono (by omega) (Nat.le_refl _),by rw [hW.1.jy]; exact pT⟩
   ·show 0<=k+1; omega
   ·show k+1<=(d.ff.length:Int); omega
   ·show iF j.1 (1001 * i.toNat+(k+1).toNat) 0;exact ag.1.mono (by omega) (Nat.le_refl _)
   ·show k<k+1; omega
   ·show k+1<=(d.ff.length:Int); omega
  ·show 0<=i+1; omega
  ·show i+1<=(s.Decls.length:Int); omega
  ·show iF eF.1 (1001 * (i+1).toNat) 0;exact xc.1.mono (by omega) (Nat.le_refl _)
  ·exact xc.2
  ·show i<i+1; omega
  ·show i+1<=(s.Decls.length:Int); omega
 -- what stands on the left
 refine Tot.aA (Ξ:=λr=>iF r (1001 * 1000) 1000) ?_ λgD I4=>?_
 ·refine Tot.count (λz=>z.2) s.eP.length (λz=>0<=z.2/\z.2<=s.eP.length/\iF z.1 (1001 * 1000) z.2.toNat) ⟨Int.le_refl 0,by show (0:Int)<=_; omega,b7⟩ (by show (s.eP.length:Int) - 0<_; omega) λz aX=>?_;obtain ⟨m,i⟩:=z;obtain ⟨aK,h1,hm⟩:=aX;simp only at aK h1 hm ⊢;have hw:aG (i+1)=i+1:=by rw [cC]; omega
  rw [hw];refine Tot.bs (λaN=>?_) (λ_=>.al (hm.mono (Nat.le_refl _) (by omega)));have vF:=hm.hi;have zS:=hm.hG;refine Tot.aA (Ξ:=λj=>iF j (1001 * 1000) (i.toNat+1)) ?_ λj ag=>.al ⟨⟨?_,?_,?_⟩,?_,?_⟩
  ·refine .aA (Tot.hs (Φ:=λ_=>True) aK aN λy _ ao=>trivial) λr hr=>.aA (t149 m _ (by simp only [ef]; omega)) λt _=>?_;refine Tot.aA (Ξ:=λj=>iF j (1001 * 1000) i.toNat) ?_ λmZ rj=>?_
   ·exact Tot.bN (λ_=>.aA (t148 m _ _) λm' hW=>.al (hm.same hW.1)) (λ_=>.al hm)
   ·have ae9:=rj.hG;refine .aA (t150 mZ _ (by simp only [ef]; omega)) λk _=>?_;refine Tot.aA (Ξ:=λl=>l.length<=i.toNat+1) ?_ λl ah=>.al ⟨rj.gq,rj.lo,rj.hi,rj.ty,ah,rj.gC,rj.hq,rj.lvl,rj.jy⟩;refine Tot.bN (λ_=>?_) (λ_=>.al (by omega));exact .bK<|.al (by simp; omega)
  ·show 0<=i+1; omega
  ·show i+1<=(s.eP.length:Int); omega
  ·show iF j (1001 * 1000) (i+1).toNat;exact ag.mono (Nat.le_refl _) (by omega)
  ·show i<i+1; omega
  ·show i+1<=(s.eP.length:Int); omega
 -- types and starts
 refine Tot.aA (Ξ:=λr=>iF r (1001 * 1000) 1000) ?_ λhI vv=>?_
 ·refine Tot.count (λz=>z.2) s.Decls.length (λz=>0<=z.2/\z.2<=s.Decls.length/\iF z.1 (1001 * 1000) 1000) ⟨Int.le_refl 0,by show (0:Int)<=_; omega,I4⟩ (by show (s.Decls.length:Int) - 0<_; omega) λz aX=>?_;obtain ⟨m,i⟩:=z;obtain ⟨aK,h1,hm⟩:=aX;simp only at aK h1 hm ⊢;have hw:aG (i+1)=i+1:=by rw [cC]; omega
  rw [hw];refine Tot.bs (λaN=>?_) (λ_=>.al hm);refine Tot.aA (Ξ:=λr=>iF r (1001 * 1000) 1000) ?_ λqX VP=>.al ⟨⟨?_,?_,VP⟩,?_,?_⟩
  ·have pR:i.toNat<s.Decls.length:=by omega
   have hi:idx s.Decls i=some s.Decls[i.toNat]:=by simp [idx,aK,pR]
   rw [hi];generalize aR:s.Decls[i.toNat]=d;have lh:d∈s.Decls:=by rw [<- aR]; exact List.getElem_mem pR
   have Cq:=(ar.decls d lh).n;refine Tot.count (λz=>z.2) d.ff.length (λz=>0<=z.2/\z.2<=d.ff.length/\iF z.1 (1001 * 1000) 1000) ⟨Int.le_refl 0,by show (0:Int)<=_; omega,hm⟩ (by show (d.ff.length:Int) - 0<_; omega) λz aX=>?_;obtain ⟨m,k⟩:=z;obtain ⟨g0,g1,hm⟩:=aX;simp only at g0 g1 hm ⊢;have sx:aG (k+1)=k+1:=by rw [cC]; omega
   rw [sx];refine Tot.aT (Tot.bs (λxx=>?_) (λ_=>.al hm));have zS:=hm.hG;refine Tot.aA (Ξ:=λj=>iF j (1001 * 1000) 1000) ?_ λj ag=>.al ⟨⟨?_,?_,ag⟩,?_,?_⟩
   ·refine Tot.aT (.aA (Tot.hs (Φ:=λ_=>True) g0 xx λ_ _ _=>trivial) λx _=>?_);refine .aA (Ξ:=λ_=>True) (Tot.aT (Tot.bN (λ_=>.aA (t150 m _ (by simp only [ef]; omega)) λ_ _=>.al trivial) (λ_=>.al trivial))) λc _=>?_;refine Tot.aA (Ξ:=λj=>iF j (1001 * 1000) 1000) ?_ λj ag=>.al ag;exact Tot.bN (λ_=>.aA (t148 m _ _) λm' hW=>.al (hm.same hW.1)) (λ_=>.al hm)
   ·show 0<=k+1; omega
   ·show k+1<=(d.ff.length:Int); omega
   ·show k<k+1; omega
   ·show k+1<=(d.ff.length:Int); omega
  ·show 0<=i+1; omega
  ·show i+1<=(s.Decls.length:Int); omega
  ·show i<i+1; omega
  ·show i+1<=(s.Decls.length:Int); omega
 -- the start
 have pU:=ok.pos;refine Tot.aA (Ξ:=λ_=>True) (Tot.bN (λ_=>.aA (Ξ:=λ_=>True) (Tot.hs (by decide) (by omega) λ_ _ _=>trivial) λ_ _=>.al trivial) (λ_=>.al trivial)) λxW _=>?_;have ae':=vv.hG;refine .aA (t150 hI xW (by simp only [ef]; omega)) λmB o5=>?_;have VX:-1<=mB/\mB<hI.dw.length:=by rcases o5 with h | h <;> omega
 -- the alternatives
 have fM:hI.dw.length<=1000:=vv.hG;generalize Wk:hI.dw.length=L at fM VX;refine Tot.aA (Ξ:=λr=>lv r (3+1001 * 1000+1001 * 1000000) L (1001 * 1000000) (1+1001 * 1000000)/\1<=r.ba.bu.length) ?_ λcn VY=>?_
 ·have uy:=vv.Y9;rw [Wk] at uy;refine Tot.count (λz=>z.2) s.eP.length (λz=>0<=z.2/\z.2<=s.eP.length/\lv z.1 (3+1001 * 1000+1001 * (1000 * z.2.toNat)) L (1001 * (1000 * z.2.toNat)) (1+1001 * (1000 * z.2.toNat))/\1<=z.1.ba.bu.length) ⟨Int.le_refl 0,by show (0:Int)<=_; omega,⟨uy.gq,uy.lo,uy.hi,uy.ty,uy.hG,uy.hq,Nat.le_refl 1,λp aq=>?_,uy.lvl,uy.jy,λ_=>Lr (P:=[]) (λp aq=>by cases aq) λy ao=>?_⟩,Nat.le_refl 1⟩ (by show (s.eP.length:Int) - 0<_; omega) λz aX=>?_
  ·rw [List.mem_singleton.1 aq];have ae1:=vv.hq;have ml:=vv.lo;refine ⟨⟨Int.le_refl 0,by show (0:Int)<=L+hI.dc; omega⟩,λy ao=>?_,⟨by show (-1:Int)<=-1; omega,by show (-1:Int)<_; omega⟩⟩;have ao:y∈[aG (1001+mB)]:=ao;rw [List.mem_singleton.1 ao];have:aG (1001+mB)=1001+mB:=by rw [cC]; omega
   rw [this];exact .inr (by show 1000<=1001+mB/\1001+mB<=1000+((L:Int)+hI.dc); omega)
  ·have ao:y∈[aG (1001+mB)]:=ao;rw [List.mem_singleton.1 ao,cC]; omega
  ·obtain ⟨m,i⟩:=z;obtain ⟨aK,h1,hm,vL⟩:=aX;simp only at aK h1 hm vL ⊢;have hw:aG (i+1)=i+1:=by rw [cC]; omega
   rw [hw];refine Tot.bs (λaN=>?_) (λ_=>.al ⟨hm.mono (by omega) (by omega) (by omega),vL⟩);refine Tot.aA (Ξ:=λr=>lv r (3+1001 * 1000+1001 * (1000 * (i.toNat+1))) L (1001 * (1000 * (i.toNat+1))) (1+1001 * (1000 * (i.toNat+1)))/\1<=r.ba.bu.length) ?_ λkU Ft=>.al ⟨⟨?_,?_,?_,Ft.2⟩,?_,?_⟩
   ·have pR:i.toNat<s.eP.length:=by omega
    have hi:idx s.eP i=some s.eP[i.toNat]:=by simp [idx,aK,pR]
    rw [hi];generalize aR:s.eP[i.toNat]=d;have lh:d∈s.eP:=by rw [<- aR]; exact List.getElem_mem pR
    have Cq:=(ar.rules d lh).n;refine Tot.count (λz=>z.2) d.gi.length (λz=>0<=z.2/\z.2<=d.gi.length/\lv z.1 (3+1001 * 1000+1001 * (1000 * i.toNat+z.2.toNat)) L (1001 * (1000 * i.toNat+z.2.toNat)) (1+1001 * (1000 * i.toNat+z.2.toNat))/\1<=z.1.ba.bu.length) ⟨Int.le_refl 0,by show (0:Int)<=_; omega,hm,vL⟩ (by show (d.gi.length:Int) - 0<_; omega) λz aX=>?_;obtain ⟨m,k⟩:=z;obtain ⟨g0,g1,hm,vL⟩:=aX;simp only at g0 g1 hm vL ⊢;have sx:aG (k+1)=k+1:=by rw [cC]; omega
    rw [sx];refine Tot.aT (Tot.bs (λxx=>?_) (λ_=>.al ⟨hm.mono (by omega) (by omega) (by omega),vL⟩));refine Tot.aT (Tot.aT (.aA (Tot.hs (Φ:=λy=>y∈d.gi) g0 xx λ_ _ h=>h) λa aJ=>?_));refine .aA (t151 m d.Left a hm (by omega) (by omega) (by omega) (by omega) ((ar.rules d lh).alts a aJ) (ok.rules d lh a aJ)) λm' hW=>.al ⟨⟨?_,?_,?_,hW.2⟩,?_,?_⟩
    ·show 0<=k+1; omega
    ·show k+1<=(d.gi.length:Int); omega
    ·show lv m' (3+1001 * 1000+1001 * (1000 * i.toNat+(k+1).toNat)) L (1001 * (1000 * i.toNat+(k+1).toNat)) (1+1001 * (1000 * i.toNat+(k+1).toNat));exact hW.1.mono (by omega) (by omega) (by omega)
    ·show k<k+1; omega
    ·show k+1<=(d.gi.length:Int); omega
   ·show 0<=i+1; omega
   ·show i+1<=(s.eP.length:Int); omega
   ·show lv kU (3+1001 * 1000+1001 * (1000 * (i+1).toNat)) L (1001 * (1000 * (i+1).toNat)) (1+1001 * (1000 * (i+1).toNat));exact Ft.1.mono (by omega) (by omega) (by omega)
   ·show i<i+1; omega
   ·show i+1<=(s.eP.length:Int); omega
 obtain ⟨pL,VZ⟩:=VY;refine Tot.pF (λh=>.al λaI=>absurd aI h) (λhe=>?_);have aey:=pL.hG;have aew:=pL.hi;have aeA:=pL.ty;have aex:=pL.hq;have aez:=pL.AZ
 -- nonterminals
 refine Tot.aA (Ξ:=λl=>l.length=1+L) ?_ λwF aeC=>?_
 ·refine Tot.count (λz=>z.2) cn.dw.length (λz=>0<=z.2/\z.2<=cn.dw.length/\z.1.length=1+z.2.toNat) ⟨Int.le_refl 0,by show (0:Int)<=_; omega,rfl⟩ (by show (cn.dw.length:Int) - 0<_; omega) λz aX=>?_;obtain ⟨l,i⟩:=z;obtain ⟨aK,h1,ah⟩:=aX;simp only at aK h1 ah ⊢;have hw:aG (i+1)=i+1:=by rw [cC]; omega
  rw [hw];refine Tot.bs (λaN=>?_) (λ_=>.al (by show l.length=1+L; omega));refine .aA (Tot.hs (Φ:=λ_=>True) aK aN λ_ _ _=>trivial) λqY _=>.aA (t152 _ _ (by show cn.fx.length<=_; simp only [ef]; omega)) λyO V0=>?_;have aeD:yO=-1\/(0<=yO/\yO<cn.fx.length):=V0;refine .aA (Ξ:=λ_=>True) (Tot.bs (λh=>.aA (Ξ:=λ_=>True) (Tot.hs h (by omega) λ_ _ _=>trivial) λ_ _=>.al trivial) (λ_=>.al trivial)) λuI _=>?_;refine .bK<|.al ⟨⟨?_,?_,?_⟩,?_,?_⟩
  ·show 0<=i+1; omega
  ·show i+1<=(cn.dw.length:Int); omega
  ·show (l++[_]).length=1+(i+1).toNat;simp; omega
  ·show i<i+1; omega
  ·show i+1<=(cn.dw.length:Int); omega
 refine Tot.aA (Ξ:=λl=>(l.length:Int)=1+L+cn.dc) ?_ λlI aeE=>?_
 ·refine Tot.count (λz=>z.2) (cn.dc+1) (λz=>1<=z.2/\z.2<=cn.dc+1/\(z.1.length:Int)=1+L+(z.2 - 1)) ⟨Int.le_refl 1,by show (1:Int)<=_; omega,by show (wF.length:Int)=1+L+(1 - 1); omega⟩ (by show cn.dc+1 - 1<_; omega) λz aX=>?_;obtain ⟨l,i⟩:=z;obtain ⟨aK,h1,ah⟩:=aX;simp only at aK h1 ah ⊢;have hw:aG (i+1)=i+1:=by rw [cC]; omega
  rw [hw];refine Tot.bs (λaN=>?_) (λ_=>.al (by show (l.length:Int)=1+L+cn.dc; omega));refine .aA (t153 i (by omega) (by omega)) λHo aeF=>.aA (Ξ:=λ_=>True) (Tot.cat (by show 1+Ho.size<=_; omega) trivial) λwG _=>?_;refine .bK<|.al ⟨⟨?_,?_,?_⟩,?_,?_⟩
  ·show 1<=i+1; omega
  ·show i+1<=cn.dc+1; omega
  ·show ((l++[_]).length:Int)=1+L+(i+1 - 1);simp; omega
  ·show i<i+1; omega
  ·show i+1<=cn.dc+1; omega
 -- numbers
 have sm:=pL.gq;refine Tot.aA (Ξ:=λl=>l.length=cn.ba.br.length/\∀ t∈l,0<=t.Level) ?_ λmC V1=>?_
 ·refine Tot.count (λz=>z.2.2) cn.ba.br.length (λz=>3<=z.2.2/\z.2.2<=cn.ba.br.length/\z.1.length=cn.ba.br.length/\∀ t∈z.1,0<=t.Level) ⟨Int.le_refl 3,by have:=pL.lo; show (3:Int)<=_; omega,rfl,pL.jy⟩ (by show (cn.ba.br.length:Int) - 3<_; omega) λz aX=>?_;obtain ⟨l,n,i⟩:=z;obtain ⟨aK,h1,ah,hv⟩:=aX;simp only at aK h1 ah hv ⊢;have hw:aG (i+1)=i+1:=by rw [cC]; omega
  rw [hw];refine Tot.bs (λaN=>?_) (λ_=>.al ⟨ah,hv⟩);refine Tot.aA (Ξ:=λj=>j.1.length=cn.ba.br.length/\∀ t∈j.1,0<=t.Level) ?_ λj ag=>.al ⟨⟨?_,?_,ag⟩,?_,?_⟩
  ·refine .aA (Tot.hs (Φ:=λ_=>True) (by omega) (by rw [sm]; omega) λ_ _ _=>trivial) λ_ _=>?_;refine Tot.aA (Ξ:=λj=>j.1.length=cn.ba.br.length/\∀ t∈j.1,0<=t.Level) ?_ λj ag=>.al ag;refine Tot.bN (λ_=>?_) (λ_=>.al ⟨ah,hv⟩);refine .aA (Tot.hs (Φ:=λy=>y∈l) (by omega) aN λ_ _ h=>h) λy ao=>.al ⟨by show (l.set _ _).length=_; simp [ah],λt au=>?_⟩;rcases PS au with au | rfl
   ·exact hv t au
   ·exact (hv y ao:0<=y.Level)
  ·show 3<=i+1; omega
  ·show i+1<=(cn.ba.br.length:Int); omega
  ·show i<i+1; omega
  ·show i+1<=(cn.ba.br.length:Int); omega
 -- limits
 obtain ⟨N5,V2⟩:=V1;refine Tot.aA (Ξ:=λc=>c=false->mC.length<=40/\lI.length<=24/\cn.ba.bu.length<=60) ?_ λBF I1=>?_
 ·refine Tot.bs (λ_=>.al λh=>by cases h) (λh1=>Tot.bs (λ_=>.al λh=>by cases h) (λaf=>.al λh=>?_));have aF:=of_decide_eq_false h;omega
 refine Tot.aA (Ξ:=λc=>c=false->BF=false/\∀ p∈cn.ba.bu,p.dF.length<=8) ?_ λA8 I2=>?_
 ·refine Tot.count (λz=>z.2) cn.ba.bu.length (λz=>0<=z.2/\z.2<=cn.ba.bu.length/\(z.1=false->BF=false/\∀ (j:Nat) (p:Prod),(j:Int)<z.2->cn.ba.bu[j]?=some p->p.dF.length<=8)) ⟨Int.le_refl 0,by show (0:Int)<=_; omega,λh=>⟨h,λj p ag=>by have ag:(j:Int)<0:=ag; omega⟩⟩ (by show (cn.ba.bu.length:Int) - 0<_; omega) λz aX=>?_;obtain ⟨c,i⟩:=z;obtain ⟨aK,h1,ah⟩:=aX;simp only at aK h1 ah ⊢;have hw:aG (i+1)=i+1:=by rw [cC]; omega
  rw [hw];refine Tot.bs (λaN=>?_) (λdH=>.al λh=>⟨(ah h).1,λp aq=>?_⟩)
  ·refine Tot.aA (Ξ:=λcj=>cj=false->c=false/\∀ p,cn.ba.bu[i.toNat]?=some p->p.dF.length<=8) ?_ λcj dQ=>.al ⟨⟨?_,?_,λh=>?_⟩,?_,?_⟩
   ·refine Tot.bN (λ_=>.al λh=>by cases h) (λCo=>.aA (Tot.hs (Φ:=λy=>idx cn.ba.bu i=some y) aK aN λ_ h _=>h) λy ao=>.al λh=>⟨Co,λp aq=>?_⟩);have af:=(mq ao).2.2;rw [aq] at af; cases af;have:=of_decide_eq_false h;omega
   ·show 0<=i+1; omega
   ·show i+1<=(cn.ba.bu.length:Int); omega
   ·obtain ⟨aw,a2⟩:=dQ h;obtain ⟨gW,ir⟩:=ah aw;refine ⟨gW,λj p ag aq=>?_⟩;have ag:(j:Int)<i+1:=ag;by_cases Xw:(j:Int)<i
    ·exact ir j p Xw aq
    ·have:j=i.toNat:=by omega
     subst this;exact a2 p aq
   ·show i<i+1; omega
   ·show i+1<=(cn.ba.bu.length:Int); omega
  ·obtain ⟨j,ag,rfl⟩:=List.mem_iff_getElem.1 aq;exact (ah h).2 j _ (by omega) (List.getElem?_eq_getElem ag)
 refine Tot.bN (λ_=>.al λh=>absurd h (by decide)) (λaa=>.al λ_=>?_);obtain ⟨aw,a2⟩:=I2 aa;obtain ⟨gW,ir,lO⟩:=I1 aw;have ml:=pL.lo;refine ⟨⟨?_,gW⟩,⟨?_,ir⟩,⟨VZ,lO⟩,λp aq=>?_,a2,V2,pL.yx he⟩
 ·show 3<=mC.length; omega
 ·show 1<=lI.length; omega
 ·have:=pL.gC p aq;exact this.mono (by show _<=mC.length; omega) (by show (L:Int)+cn.dc<=((lI.length:Nat):Int) - 1; omega)
theorem t93 (s:Source) (ar:ve s):Tot (yv s) λr=>r.2=true->fZ r.1:=by
 unfold yv;exact .aA (t123 s ar) λr hr=>.al λh=>hr (of_decide_eq_true h)
open Go Go.Own Go.Sort
structure ED (g:bD) (m:List State) (cs:List Cell):Prop where
 pJ:fZ g
 Ge:nq g m
 ce:Be g m.length cs
def Ag (g:bD) (p:Int):Int × Int:=match idx g.bu p with
 | some q=>match idx g.br q.Prec with
  | some t=>(t.Level,t.ji)
  | none=>(0,0)
 | none=>(0,0)
def dec (g:bD) (p t:Int):Int:=match idx g.br t with
 | some k=>if (Ag g p).1=0\/k.Level=0 then 0 else if (Ag g p).1<k.Level then 1 else if k.Level<(Ag g p).1 then 2 else if k.ji=1 then 2 else if k.ji=2 then 1 else 3
 | none=>0
theorem U6 (g:bD) (aQ:fZ g) (p:Int) (aq:0<=p/\p<g.bu.length):DF g p=some (Ag g p):=by
 obtain ⟨q,a_,hm⟩:=nG aq.1 aq.2;have ar:=(aQ.gC q hm).prec;unfold DF Ag;have d1:decide (p<0)=false:=decide_eq_false (by omega);have d2:decide ((g.bu.length:Int)<=p)=false:=decide_eq_false (by omega);rw [d1,d2,a_];simp only [cond_false,Option.bind_some];by_cases h:q.Prec<0
 ·rw [decide_eq_true h,Ky (.inl h)]; rfl
 ·obtain ⟨t,au,_⟩:=nG (l:=g.br) (i:=q.Prec) (by omega) ar.2;rw [decide_eq_false h,au]; rfl
theorem Vc (g:bD) (aQ:fZ g) (p t:Int) (aq:0<=p/\p<g.bu.length) (au:0<=t/\t<g.br.length):D2 g p t=some (dec g p t):=by
 obtain ⟨k,hk,hm⟩:=nG au.1 au.2;unfold D2 dec;rw [U6 g aQ p aq,hk];have d1:decide (t<0)=false:=decide_eq_false (by omega);have d2:decide ((g.br.length:Int)<=t)=false:=decide_eq_false (by omega);rw [d1,d2];generalize Ag g p=x;simp only [cond_false,Option.bind_some];by_cases h1:x.1=0
 ·simp [h1]
 ·by_cases af:k.Level=0
  ·simp [h1,af]
  ·rw [if_neg (by omega)];simp only [h1,af,decide_false,cond_false,Option.bind_some];by_cases aF:x.1<k.Level
   ·simp [aF]
   ·by_cases bh:k.Level<x.1
    ·simp [aF,bh]
    ·by_cases b7:k.ji=1
     ·simp [aF,bh,b7]
     ·by_cases dp:k.ji=2 <;> simp [aF,bh,b7,dp]
def qj (g:bD) (c:Cell):Act:=match c.bu with
 | []=>if c.nN=true then ⟨3,0⟩ else ⟨1,c.k3⟩
 | p::_=>if c.nN=true then ⟨3,0⟩ else if c.k3<0 then ⟨2,p⟩ else if dec g p c.b5=2 then ⟨2,p⟩ else if dec g p c.b5=3 then ⟨4,0⟩ else ⟨1,c.k3⟩
def zx (g:bD) (c:Cell):List e1:=match c.bu with
 | []=>[]
 | p::r=>r.map (λx=>(⟨c.State,c.b5,p,x⟩:e1))++(if c.nN=true\/(0<=c.k3/\dec g p c.b5=0) then [(⟨c.State,c.b5,-1,p⟩:e1)] else [])
structure oU (g:bD) (n:Nat) (a:Act):Prop where
 k:0<=a.Kind/\a.Kind<=4
 gP:a.Kind=0->a.N=0
 nI:a.Kind=1->0<=a.N/\a.N<n
 oa:a.Kind=2->oX g a.N
 PX:a.Kind=3->a.N=0
 Zc:a.Kind=4->a.N=0
theorem SJ {g:bD}{n:Nat}{c:Cell}(h:py g n c):oU g n (qj g c)/\(qj g c).Kind≠0:=by
 have sv:=h.Rw;have aV:=h.f;have a3:oU g n ⟨3,0⟩:=⟨⟨by decide,by decide⟩,λh=>(by cases h),λh=>(by cases h),λh=>(by cases h),λ_=>rfl,λh=>by cases h⟩;have a4:oU g n ⟨4,0⟩:=⟨⟨by decide,by decide⟩,λh=>(by cases h),λh=>(by cases h),λh=>(by cases h),λ_=>rfl,λ_=>rfl⟩;have aw:0<=c.k3->oU g n ⟨1,c.k3⟩:=λaK=>⟨⟨by show (0:Int)<=1; decide,by show (1:Int)<=4; decide⟩,λh=>(by cases h),λ_=>⟨aK,aV.2⟩,λh=>(by cases h),λh=>(by cases h),λh=>by cases h⟩;have a2:∀ p∈c.bu,oU g n ⟨2,p⟩:=λp aq=>⟨⟨by show (0:Int)<=2; decide,by show (2:Int)<=4; decide⟩,λh=>(by cases h),λh=>(by cases h),λ_=>h.q p aq,λh=>(by cases h),λh=>by cases h⟩;unfold qj;unfold oh at sv;cases bI:c.bu with
 | nil =>
  simp only;rw [bI] at sv;by_cases h1:c.nN=true
  ·rw [if_pos h1]; exact ⟨a3,by decide⟩
  ·rw [if_neg h1];rw [if_neg h1] at sv;refine ⟨aw ?_,by show (1:Int)≠0; decide⟩;by_cases af:0<=c.k3
   ·exact af
   ·rw [if_neg af] at sv; simp at sv
 | cons p r =>
  simp only;have aq:=a2 p (by rw [bI]; simp);split
  ·exact ⟨a3,by decide⟩
  ·split
   ·exact ⟨aq,by show (2:Int)≠0; decide⟩
   ·split
    ·exact ⟨aq,by show (2:Int)≠0; decide⟩
    ·split
     ·exact ⟨a4,by decide⟩
     ·exact ⟨aw (by omega),by show (1:Int)≠0; decide⟩
theorem Nf {g:bD}(aQ:fZ g) {n:Nat}{c:Cell}(h:py g n c):(zx g c).length<=60:=by
 have ah:=h.len aQ;unfold zx;cases bI:c.bu with
 | nil=>simp
 | cons p r =>
  rw [bI,List.length_cons] at ah;simp only [List.length_append,List.length_map];split
  ·simp; omega
  ·simp; omega
theorem BT (g:bD) (aQ:fZ g) {n:Nat}(c:Cell) (h:py g n c):yr g c=some (qj g c,zx g c):=by
 have ah:=h.len aQ
 suffices ax:Tot (yr g c) λr=>r=(qj g c,zx g c) by
  obtain ⟨r,hr,e⟩:=ax; rw [hr,e]
 unfold yr qj zx;cases bI:c.bu with
 | nil =>
  simp only;refine .aA (Ξ:=λl:List e1=>l=[]) ?_ λl ah=>?_
  ·refine Tot.loop (λs=>s=(([]:List e1),(1:Int))) (λ_=>0) rfl (by show 0<1000000000000000000; omega) λs ax=>?_;subst ax;exact .al rfl
  ·subst ah;cases h1:c.nN
   ·exact .al (by simp)
   ·exact .al (by simp)
 | cons p r =>
  rw [bI,List.length_cons] at ah;simp only;have ga:idx (p::r) 0=some p:=rfl;refine .aA (Ξ:=λl:List e1=>l=r.map (λx=>(⟨c.State,c.b5,p,x⟩:e1))) ?_ λl ah=>?_
  ·refine Tot.count (λs=>s.2) ((r.length:Int)+1) (λs=>∃ k:Nat,k<=r.length/\s.2=((k+1:Nat):Int)/\s.1=(r.take k).map (λx=>(⟨c.State,c.b5,p,x⟩:e1))) ⟨0,Nat.zero_le _,rfl,rfl⟩ (by show (r.length:Int)+1 - 1<_; omega) λs ax=>?_;obtain ⟨l,i⟩:=s;obtain ⟨k,hk,he,bf⟩:=ax;simp only at he bf ⊢;subst he bf;rw [et (k+1) (by omega),ga];refine Tot.bs (λaN=>?_) (λdH=>.al ?_)
   ·rw [List.length_cons] at aN;have aN:k<r.length:=by omega
    have ca:idx (p::r) ((k+1:Nat):Int)=some r[k]:=by
     simp only [idx,if_pos (show (0:Int)<=((k+1:Nat):Int) by omega),Int.toNat_natCast,List.getElem?_cons_succ];exact List.getElem?_eq_getElem aN
    rw [ca];refine Tot.aT (Tot.aT (.bK<|.al ⟨⟨k+1,by omega,rfl,?_⟩,by show ((k+1:Nat):Int)<((k+1+1:Nat):Int); omega,by show ((k+1+1:Nat):Int)<=(r.length:Int)+1; omega⟩));show _=(r.take (k+1)).map _;rw [l9 aN,List.map_append]; rfl
   ·rw [List.length_cons] at dH;rw [List.take_of_length_le (by omega)]; rfl
  ·subst ah;have aq:=h.q p (by rw [bI]; simp);have IJ:=Vc g aQ p c.b5 ⟨by have:=aq.1; omega,aq.2⟩ h.t;have dl:decide (((p::r).length:Int)=0)=false:=decide_eq_false (by simp; omega);simp only [ga,IJ,dl,cond_false,Option.bind_some];generalize tg:dec g p c.b5=v;refine ⟨_,?_,rfl⟩;have Ol:c8 (r.map (λx=>(⟨c.State,c.b5,p,x⟩:e1))) [(⟨c.State,c.b5,(-1),p⟩:e1)]=some (r.map (λx=>(⟨c.State,c.b5,p,x⟩:e1))++[⟨c.State,c.b5,(-1),p⟩]):=by
    unfold c8; rw [if_pos (by simp [lim]; omega)]
   cases h1:c.nN
   ·by_cases af:c.k3<0
    ·have aF:¬ (0<=c.k3):=by omega
     simp [af,aF]
    ·have aF:0<=c.k3:=by omega
     by_cases bh:v=0
     ·simp [af,aF,bh,Ol]
     ·by_cases b7:v=2
      ·simp [af,aF,b7]
      ·by_cases dp:v=3
       ·simp [af,aF,dp]
       ·simp [af,aF,bh,b7,dp]
   ·simp [Ol]
def rowOf (g:bD) (l:List Cell):List Act:=l.foldl (λrow c=>row.set c.b5.toNat (qj g c)) (List.replicate g.br.length ⟨0,0⟩)
def iq (cs:List Cell) (q:Nat):List Cell:=cs.filter λc=>decide (c.State=(q:Int))
def go (m:List State) (q s:Int):Int:=(rQ m q s).getD (-1)
theorem go_eq {g:bD}{m:List State}(hm:nq g m) (q s:Int):rQ m q s=some (go m q s)/\GoTo m q s (go m q s):=by
 obtain ⟨r,hr,h⟩:=E' m q s hm.x3;unfold go;rw [hr];exact ⟨rfl,h⟩
theorem QN (g:bD):∀ (l:List Cell),(rowOf g l).length=g.br.length:=λl=>by
 suffices h:∀ (l:List Cell) (r:List Act),(l.foldl (λrow c=>row.set c.b5.toNat (qj g c)) r).length=r.length by
  unfold rowOf; rw [h]; simp
 intro l
 induction l with
 | nil=>intro r; rfl
 | cons c l aM=>intro r; rw [List.foldl_cons,aM,List.length_set]
theorem aam (g:bD) (l:List Cell) (c:Cell):rowOf g (l++[c])=(rowOf g l).set c.b5.toNat (qj g c):=by
 unfold rowOf; rw [List.foldl_append]; rfl
theorem aaj {g:bD}{n:Nat}:∀ {l:List Cell},(∀ c∈l,py g n c)->∀ a∈rowOf g l,oU g n a:=by
 intro l h
 suffices ax:∀ (l:List Cell) (r:List Act),(∀ c∈l,py g n c)->(∀ a∈r,oU g n a)->∀ a∈l.foldl (λrow c=>row.set c.b5.toNat (qj g c)) r,oU g n a by
  refine ax l _ h λa aJ=>?_;rw [List.eq_of_mem_replicate aJ];exact ⟨⟨by decide,by decide⟩,λ_=>rfl,λh=>(by cases h),λh=>(by cases h),λh=>(by cases h),λh=>by cases h⟩
 intro l
 induction l with
 | nil=>intro r _ hr; exact hr
 | cons c l aM =>
  intro r ah hr;rw [List.foldl_cons];refine aM _ (λd aR=>ah d (by simp [aR])) λa aJ=>?_;rcases List.mem_or_eq_of_mem_set aJ with h | h
  ·exact hr a h
  ·rw [h]; exact (SJ (ah c (by simp))).1
def vr (g:bD) (m:List State) (q:Nat):List Int:=(List.range g.dE.length).map λa:Nat=>go m q (1000+(a:Int))
def mf (g:bD) (l:List Cell):List e1:=l.flatMap (zx g)
theorem Iq {g:bD}(aQ:fZ g) {n:Nat}:∀ {l:List Cell},(∀ c∈l,py g n c)->(mf g l).length<=60 * l.length
 | [],_=>by simp [mf]
 | c::l,h=>by
  have h1:=Nf aQ (h c (by simp));have af:=Iq aQ (l:=l) λd aR=>h d (by simp [aR]);unfold mf at af ⊢;rw [List.flatMap_cons,List.length_append,List.length_cons];omega
theorem Ru {α:Type}{l:List α}{k:Nat}(h:k<l.length) (p:α->Bool):(l.take (k+1)).filter p=(l.take k).filter p++(if p l[k] then [l[k]] else []):=by
 rw [l9 h,List.filter_append];congr 1;rw [List.filter_cons]
 split <;> simp
structure EH (g:bD) (m:List State) (cs:List Cell) (d:hc):Prop where
 a:d.cA=(List.range m.length).map λq=>rowOf g (iq cs q)
 o:d.eD=(List.range m.length).map λq=>vr g m q
theorem ub (g:bD) (m:List State) (cs:List Cell) (dC:ED g m cs):Tot (AO g m cs) λr=>EH g m cs r.1/\r.2=(List.range m.length).flatMap λq=>mf g (iq cs q):=by
 obtain ⟨aQ,hm,aa⟩:=dC;have au:=aQ.lq;have aB:=aQ.eZ;have xz:=hm.nI;have JA:=aa.n;unfold AO;refine .aA (Ξ:=λr:List (List Act) × List (List Int) × List e1=>r.1=(List.range m.length).map (λq=>rowOf g (iq cs q))/\r.2.1=(List.range m.length).map (λq=>vr g m q)/\r.2.2=(List.range m.length).flatMap λq=>mf g (iq cs q)) ?_ λr hr=>.al ⟨⟨hr.1,hr.2.1⟩,hr.2.2⟩;have mR:∀ q,(mf g (iq cs q)).length<=360000:=λq=>by
  have h1:=Iq aQ (l:=iq cs q) λc sj=>aa.ok c ((List.mem_filter.1 sj).1);have af:=List.length_filter_le (λc:Cell=>decide (c.State=(q:Int))) cs;unfold iq at h1 ⊢;omega
 have JF:∀ k,((List.range k).flatMap λq=>mf g (iq cs q)).length<=360000 * k:=λk=>by
  induction k with
  | zero=>simp
  | succ k aM =>
   rw [List.range_succ,List.flatMap_append,List.length_append];have:=mR k;simp only [List.flatMap_cons,List.flatMap_nil,List.append_nil];omega
 refine Tot.upto (λs=>s.2.2.2) m.length (λk s=>s.1=(List.range k).map (λq=>rowOf g (iq cs q))/\s.2.1=(List.range k).map (λq=>vr g m q)/\s.2.2.1=(List.range k).flatMap λq=>mf g (iq cs q)) rfl (by omega) ⟨rfl,rfl,rfl⟩ λk s hk he bf=>?_;obtain ⟨A,G,C,i⟩:=s;obtain ⟨h1,af,aF⟩:=bf;simp only at he h1 af aF ⊢;subst he h1 af aF;rw [et k (by omega)];refine Tot.bs (λaN=>?_) (λdH=>.al ?_)
 ·have aN:k<m.length:=by omega
  refine .aA (Ξ:=λr=>r=List.replicate g.br.length (⟨0,0⟩:Act)) (Tot.mk (by simp [lim]; omega) (by simp)) λtT gr=>?_;subst gr;have aeW:=JF k;refine .aA (Ξ:=λr:List e1 × List Act=>r.1=(List.range k).flatMap (λq=>mf g (iq cs q))++mf g (iq cs k)/\r.2=rowOf g (iq cs k)) ?_ λr hr=>?_
  ·refine Tot.upto (λs=>s.2.2) cs.length (λj s=>s.1=(List.range k).flatMap (λq=>mf g (iq cs q))++mf g (iq (cs.take j) k)/\s.2.1=rowOf g (iq (cs.take j) k)) rfl (by omega) ⟨by simp [iq,mf],by simp [iq,rowOf]⟩ λj s ag he bf=>?_;obtain ⟨C,R,i⟩:=s;obtain ⟨h1,af⟩:=bf;simp only at he h1 af ⊢;subst he h1 af;rw [et j (by omega)];refine Tot.bs (λfW=>?_) (λdH=>.al ?_)
   ·have fW:j<cs.length:=by omega
    have xt:=aa.ok _ (List.getElem_mem fW);have tf:=Ru fW (λc:Cell=>decide (c.State=(k:Int)));have afh:(mf g (iq (cs.take j) k)).length<=360000:=by
     have h1:=Iq aQ (l:=iq (cs.take j) k) λc sj=>aa.ok c (List.mem_of_mem_take ((List.mem_filter.1 sj).1));have af:=List.length_filter_le (λc:Cell=>decide (c.State=(k:Int))) (cs.take j);rw [List.length_take] at af;unfold iq at h1 ⊢;omega
    rw [dR fW];generalize cs[j]=c at *;simp only [Option.bind_some];refine .aA (Ξ:=λr:List e1 × List Act=>r.1=(List.range k).flatMap (λq=>mf g (iq cs q))++mf g (iq (cs.take (j+1)) k)/\r.2=rowOf g (iq (cs.take (j+1)) k)) ?_ λr hr=>.al ⟨fW,rfl,hr⟩;refine .aA (Ξ:=λr:List e1 × List Act=>r.1=(List.range k).flatMap (λq=>mf g (iq cs q))++mf g (iq (cs.take (j+1)) k)/\r.2=rowOf g (iq (cs.take (j+1)) k)) (Tot.bs (λax=>?_) (λax=>.al ?_)) λr hr=>.al hr
    ·rw [decide_eq_true ax,if_pos rfl] at tf;rw [BT g aQ c xt];simp only [Option.bind_some];have oH:=QN g (iq (cs.take j) k);obtain ⟨a0,Ce,_⟩:=nG (l:=rowOf g (iq (cs.take j) k)) (i:=c.b5) xt.t.1 (by rw [oH]; exact xt.t.2);rw [Ce];have hN:=Nf aQ xt;refine Tot.aT (.aA (Ξ:=λ_=>True) (Tot.ap (by rw [List.length_append]; simp only [lim]; omega) trivial) λ_ _=>.al ⟨?_,?_⟩)
     ·show _=_++mf g ((cs.take (j+1)).filter _);rw [tf];unfold mf;rw [List.flatMap_append,List.append_assoc];simp [iq]
     ·show _=rowOf g ((cs.take (j+1)).filter _);rw [tf,aam]; rfl
    ·have:(if (decide (c.State=(k:Int)))=true then [c] else [])=[]:=by simp [ax]
     rw [this,List.append_nil] at tf;unfold iq;rw [tf];exact ⟨rfl,rfl⟩
   ·have e:cs.take j=cs:=List.take_of_length_le (by omega);rw [e];exact ⟨rfl,rfl⟩
  ·obtain ⟨C,R⟩:=r;obtain ⟨h1,af⟩:=hr;simp only at h1 af ⊢;subst h1 af;refine .aA (Ξ:=λr=>r=List.replicate g.dE.length (0:Int)) (Tot.mk (by simp [lim]; omega) (by simp)) λHF We=>?_;subst We;refine .aA (Ξ:=λr:List Int=>r=vr g m k) ?_ λr hr=>?_
   ·refine Tot.upto (λs=>s.2) g.dE.length (λj s=>s.1.length=g.dE.length/\∀ i:Nat,i<j->s.1[i]?=some (go m k (1000+(i:Int)))) rfl (by omega) ⟨by simp,λi hi=>absurd hi (Nat.not_lt_zero _)⟩ λj s ag he bf=>?_;obtain ⟨L,i⟩:=s;obtain ⟨h1,af⟩:=bf;simp only at he h1 af ⊢;subst he;rw [et j (by omega)];refine Tot.bs (λfW=>?_) (λdH=>.al ?_)
    ·have fW:j<L.length:=by omega
     have hw:aG (1000+(j:Int))=1000+(j:Int):=by rw [cC]; omega
     rw [hw,(go_eq hm k _).1,dR fW];refine Tot.aT (Tot.aT (.al ⟨by omega,rfl,?_,λi hi=>?_⟩))
     ·show (L.set _ _).length=_;rw [List.length_set]; exact h1
     ·show (L.set (j:Int).toNat _)[i]?=_;rw [Int.toNat_natCast,p6 fW];by_cases e:i=j
      ·subst e; rw [if_pos rfl]
      ·rw [if_neg e]; exact af i (by omega)
    ·show L=vr g m k;refine List.ext_getElem? λi=>?_;unfold vr;by_cases hi:i<g.dE.length
     ·rw [af i (by omega),List.getElem?_map,List.getElem?_range hi]; rfl
     ·rw [List.getElem?_eq_none (by omega),List.getElem?_eq_none (by simp; omega)]
   ·subst hr;refine .bK<|.bK<|.al ⟨aN,rfl,?_,?_,?_⟩
    ·show _=(List.range (k+1)).map _;rw [List.range_succ,List.map_append]; rfl
    ·show _=(List.range (k+1)).map _;rw [List.range_succ,List.map_append]; rfl
    ·show _=(List.range (k+1)).flatMap _;rw [List.range_succ,List.flatMap_append]; simp
 ·have:k=m.length:=by omega
  subst this;exact ⟨rfl,rfl,rfl⟩
structure yZ (g:bD) (n:Nat) (d:hc):Prop where
 gP:0<n/\n<=150
 pJ:fZ g
 a:d.cA.length=n
 k6:∀ r∈d.cA,r.length=g.br.length/\∀ a∈r,oU g n a
 o:d.eD.length=n
 Gs:∀ r∈d.eD,r.length=g.dE.length/\∀ v∈r,-1<=v/\v<n
theorem EH.aU {g:bD}{m:List State}{cs:List Cell}{d:hc}(h:EH g m cs d) (dC:ED g m cs):yZ g m.length d:=by
 obtain ⟨aQ,hm,aa⟩:=dC;refine ⟨⟨hm.gP,hm.nI⟩,aQ,by rw [h.a]; simp,λr hr=>?_,by rw [h.o]; simp,λr hr=>?_⟩
 ·rw [h.a] at hr;obtain ⟨q,_,rfl⟩:=List.mem_map.1 hr;exact ⟨QN g _,aaj λc sj=>aa.ok c (List.mem_filter.1 sj).1⟩
 ·rw [h.o] at hr;obtain ⟨q,_,rfl⟩:=List.mem_map.1 hr;refine ⟨by simp [vr],λv hv=>?_⟩;obtain ⟨a,_,rfl⟩:=List.mem_map.1 hv;exact (go_eq hm q _).2.aU hm
theorem Z9 {g:bD}(aQ:fZ g) {n:Nat}{cs:List Cell}(aa:Be g n cs) {f:Cell->Option Int}(aV:∀ c:Cell,c.bu.length<=1000->f c=some (oh c:Int)):Tot (cg (R:=Int) (λ(s1:Int × Int) =>
(bif decide (s1.2<(cs.length:Int)) then
((idx cs s1.2).bind λbA =>
(f bA).bind λbn =>
((bif decide (1<bn) then
some (aG (s1.1+1))
else
some s1.1)).bind λd_ =>
some d_).bind λiy =>
some (.inl (iy,aG (s1.2+1)))
else
some (.inr s1.1))) (0,0)) λr=>r=((cs.filter λc=>decide (1<oh c)).length:Int):=by
 have JA:=aa.n;refine Tot.upto (λs=>s.2) cs.length (λk s=>s.1=(((cs.take k).filter λc=>decide (1<oh c)).length:Int)) rfl (by omega) rfl λk s hk he bf=>?_;obtain ⟨z,i⟩:=s;simp only at he bf ⊢;subst he bf;rw [et k (by omega)];refine Tot.bs (λaN=>?_) (λdH=>.al ?_)
 ·have aN:k<cs.length:=by omega
  have W_:=aa.ok _ (List.getElem_mem aN);have tf:=Ru aN (λc:Cell=>decide (1<oh c));have mR:=List.length_filter_le (λc:Cell=>decide (1<oh c)) (cs.take k);rw [List.length_take] at mR;rw [dR aN];generalize cs[k]=c at *;have hN:=W_.len aQ;rw [show (some c).bind=λ(f:Cell->Option Int)=>f c from rfl]
  simp only [aV c (by omega),Option.bind_some];refine .aA (Ξ:=λz:Int=>z=(((cs.take (k+1)).filter λc=>decide (1<oh c)).length:Int)) ?_ λr hr=>.al ⟨aN,rfl,hr⟩;rw [tf];refine .aA (Ξ:=λz:Int=>z=(((cs.take k).filter (λc=>decide (1<oh c))++if decide (1<oh c)=true then [c] else []).length:Int)) (Tot.bs (λh=>.al ?_) (λh=>.al ?_)) λr hr=>.al hr
  ·have:1<oh c:=by omega
   rw [et _ (by omega)];simp [this]
  ·have:¬ 1<oh c:=by omega
   simp [this]
 ·have e:cs.take k=cs:=List.take_of_length_le (by omega);rw [e]; rfl
theorem TQ {g:bD}(aQ:fZ g) {n:Nat}{cs:List Cell}(aa:Be g n cs):Tot (DQ cs) λr=>r=((cs.filter λc=>decide (1<oh c)).length:Int):=by
 unfold DQ;exact .aA (Z9 aQ aa Nt) λr hr=>.al hr
theorem Vb (a:Act):AW a=oP a:=by
 grind [AW,oP]
theorem U7 (n:Int):yg n=Dw n:=by
 grind [yg,Dw]
theorem RC (a:Act):Tot (oP a) λ_=>True:=by
 unfold oP
 repeat' first | apply Tot.bi | refine Tot.bN (λ_=>?_) (λ_=>?_) | exact Tot.al trivial | apply Tot.al
theorem T0 (a:Act):∃ c,oP a=some c/\(c=0\/Dw c=some a):=by
 obtain ⟨c,aa,_⟩:=RC a;refine ⟨c,aa,?_⟩;obtain ⟨K,N⟩:=a;have g:∀ p q:Prop,∀ [Decidable p] [Decidable q],(bif decide p then some (decide q) else some false)=some (decide (p/\q)):=λp q _ _=>by
  by_cases aq:p <;> simp [aq]
 by_cases h1:K=1/\0<=N/\N<=19999
 ·obtain ⟨rfl,h1⟩:=h1;have e:aG (N+1)=N+1:=by rw [cC]; omega
  have b6:aG (N+1 - 1)=N:=by rw [cC]; omega
  simp [oP,h1,e] at aa;subst aa;have af:1<=N+1/\N+1<=20000:=by omega
  have eI:aG N=N:=by rw [cC]; omega
  exact .inr (by simp [Dw,af,eI])
 ·by_cases af:K=2/\1<=N/\N<=19999
  ·obtain ⟨rfl,af⟩:=af;have e:aG (-N)=-N:=by rw [cC]; omega
   have b6:aG N=N:=by rw [cC]; omega
   simp [oP,af,e] at aa;subst aa;have aF:¬ 1<=-N:=by omega
   have bh:-N<=-1/\-19999<=-N:=by omega
   exact .inr (by simp [Dw,aF,bh,b6])
  ·by_cases aF:K=3/\N=0
   ·obtain ⟨rfl,rfl⟩:=aF;have:oP ⟨3,0⟩=some 20001:=by decide
    rw [this] at aa; cases aa;exact .inr (by decide)
   ·by_cases bh:K=4/\N=0
    ·obtain ⟨rfl,rfl⟩:=bh;have:oP ⟨4,0⟩=some 20002:=by decide
     rw [this] at aa; cases aa;exact .inr (by decide)
    ·refine .inl ?_;have tv:(bif decide (K=1) then (bif decide (0<=N) then some (decide (N<=19999)) else some false) else some false)=some false:=by
      rw [g]; by_cases h:K=1
      ·have:=λaI=>h1 ⟨h,aI⟩;simp [h]; omega
      ·simp [h]
     have rF:(bif decide (K=2) then (bif decide (1<=N) then some (decide (N<=19999)) else some false) else some false)=some false:=by
      rw [g]; by_cases h:K=2
      ·have:=λaI=>af ⟨h,aI⟩;simp [h]; omega
      ·simp [h]
     have PC:(bif decide (K=3) then some (decide (N=0)) else some false)=some false:=by rw [g]; simp [aF]
     have F4:(bif decide (K=4) then some (decide (N=0)) else some false)=some false:=by rw [g]; simp [bh]
     unfold oP at aa;rw [tv,rF,PC,F4] at aa;simpa using aa.symm
def oW (l:List Int) (v:Int):Prop:=(l=[]/\v=-1)\/(v∈l/\∀ x∈l,l.count x<l.count v\/(l.count x=l.count v/\v<=x))
theorem oW.uniq {l:List Int}{v w:Int}(h:oW l v) (aI:oW l w):v=w:=by
 rcases h with ⟨h1,af⟩ | ⟨h1,af⟩ <;> rcases aI with ⟨aF,bh⟩ | ⟨aF,bh⟩
 ·omega
 ·subst h1; cases aF
 ·subst aF; cases h1
 ·have a:=af w aF;have b:=bh v h1;omega
theorem w6 (l:List Int) (y x:Int):(l++[y]).count x=l.count x+(if y=x then 1 else 0):=by
 rw [List.count_append];by_cases e:y=x
 ·subst e; simp
 ·rw [if_neg e,List.count_eq_zero.2 λhm=>e (List.mem_singleton.1 hm).symm]
theorem US {l:List Int}{x:Int}(h:x∈l):0<l.count x:=List.count_pos_iff.2 h
theorem oW.snoc {l:List Int}{b y:Int}(h:oW l b) (aK:∀ x∈l,0<=x) (ao:0<=y):oW (l++[y]) (if b<0\/(l++[y]).count b<(l++[y]).count y\/((l++[y]).count y=(l++[y]).count b/\y<b) then y else b):=by
 refine .inr ?_;rcases h with ⟨rfl,rfl⟩ | ⟨ar,hm⟩
 ·rw [if_pos (.inl (by decide))];refine ⟨by simp,λx J=>?_⟩;rw [List.nil_append,List.mem_singleton] at J;subst J; exact .inr ⟨rfl,Int.le_refl _⟩
 ·have Om:=aK b ar;have key:∀ x∈l++[y],x∈l\/x=y:=λx J=>by simpa using J
  have w9:(l++[y]).count y=l.count y+1:=by rw [w6,if_pos rfl]
  by_cases Oo:b=y
  ·subst Oo;rw [if_neg (by omega)];refine ⟨by simp,λx J=>?_⟩;rw [w9];by_cases e:x=b
   ·subst e; exact .inr ⟨w9,Int.le_refl _⟩
   ·rw [w6,if_neg (λh=>e h.symm)];rcases key x J with J | J
    ·have:=hm x J; omega
    ·exact absurd J e
  ·have km:(l++[y]).count b=l.count b:=by rw [w6,if_neg (λh=>Oo h.symm)]; rfl
   by_cases aa:b<0\/(l++[y]).count b<(l++[y]).count y\/((l++[y]).count y=(l++[y]).count b/\y<b)
   ·rw [if_pos aa];rw [km,w9] at aa;refine ⟨by simp,λx J=>?_⟩;rw [w9];by_cases e:x=y
    ·subst e; exact .inr ⟨w9,Int.le_refl _⟩
    ·rw [w6,if_neg (λh=>e h.symm)];rcases key x J with J | J
     ·have:=hm x J; omega
     ·exact absurd J e
   ·rw [if_neg aa];rw [km,w9] at aa;refine ⟨by simp [ar],λx J=>?_⟩;rw [km];by_cases e:x=y
    ·subst e; rw [w9]; omega
    ·rw [w6,if_neg (λh=>e h.symm)];rcases key x J with J | J
     ·have:=hm x J; omega
     ·exact absurd J e
theorem KO {x:Int}(h:-1<=x/\x<=1000000):sE x=true:=by unfold sE; rw [decide_eq_true]; omega
theorem TZ (l:List Int) (ah:l.length<=100000) (aK:∀ x∈l,0<=x/\x<=1000000):Tot (wj l) (oW l):=by
 unfold wj;refine .aA (Ξ:=oW l) ?_ λr hr=>.al hr;refine Tot.upto (λs=>s.2.2) l.length (λk s=>s.1.length=k/\(∀ x,(pq s.1 x).getD 0=((l.take k).count x:Int))/\oW (l.take k) s.2.1) rfl (by omega) ⟨rfl,λx=>by simp [pq],.inl ⟨rfl,rfl⟩⟩ λk s hk he bf=>?_;obtain ⟨m,b,i⟩:=s;obtain ⟨h1,af,aF⟩:=bf;simp only at he h1 af aF ⊢;subst he;rw [et k (by omega)];refine Tot.bs (λaN=>?_) (λdH=>.al ?_)
 ·have aN:k<l.length:=by omega
  have ao:=aK _ (List.getElem_mem aN);have fO:=l9 aN;have Oe:∀ x∈l.take k,0<=x/\x<=1000000:=λx J=>aK x (List.mem_of_mem_take J);have hN:=List.count_le_length (a:=l[k]) (l:=l.take k);rw [dR aN];generalize l[k]=y at *;have ar:-1<=b/\b<=1000000:=by
   rcases aF with ⟨_,rfl⟩ | ⟨h,_⟩
   ·omega
   ·have:=Oe b h; omega
  rw [List.length_take] at hN;have ca:uK sE 0 m y=some ((l.take k).count y:Int):=by unfold uK; rw [if_pos (KO ⟨by omega,ao.2⟩),af]
  have b6:aG (((l.take k).count y:Int)+1)=(((l.take k).count y+1:Nat):Int):=et _ (by omega);have eI:Ah sE m y (((l.take k).count y+1:Nat):Int)=some ((y,(((l.take k).count y+1:Nat):Int))::m):=by
   unfold Ah;rw [KO ⟨by omega,ao.2⟩,Bool.true_and,if_pos (decide_eq_true (by simp only [lim]; omega))]
  have JX:∀ x,(pq ((y,(((l.take k).count y+1:Nat):Int))::m) x).getD 0=((l.take (k+1)).count x:Int):=λx=>by
   rw [fO,w6];unfold pq;by_cases e:y=x
   ·subst e; rw [if_pos rfl,if_pos rfl]; rfl
   ·rw [if_neg e,if_neg e,af]; rfl
  have k_:∀ x,(-1<=x/\x<=1000000)->uK sE 0 ((y,(((l.take k).count y+1:Nat):Int))::m) x=some ((l.take (k+1)).count x:Int):=λx J=>by unfold uK; rw [if_pos (KO J),JX]
  have ax:=aF.snoc (y:=y) (λx J=>(Oe x J).1) ao.1;rw [<- fO] at ax;have kt:=List.count_le_length (a:=y) (l:=l.take (k+1));have qy:=List.count_le_length (a:=b) (l:=l.take (k+1));rw [List.length_take] at kt qy;simp only [Option.bind_some,ca,b6,eI,k_ y ⟨by omega,ao.2⟩,k_ b ar];have hw:aG (((l.take (k+1)).count y:Int) - ((l.take (k+1)).count b:Int))=((l.take (k+1)).count y:Int) - ((l.take (k+1)).count b:Int):=by rw [cC]; omega
  rw [hw];refine .aA (Ξ:=λr:List (Int × Int) × Int=>r.1=(y,(((l.take k).count y+1:Nat):Int))::m/\oW (l.take (k+1)) r.2) ?_ λr hr=>.al ⟨aN,rfl,by rw [hr.1]; simp [h1],by rw [hr.1]; exact JX,hr.2⟩;refine .aA (Ξ:=λc:Bool=>c=decide (b<0\/(l.take (k+1)).count b<(l.take (k+1)).count y\/((l.take (k+1)).count y=(l.take (k+1)).count b/\y<b))) ?_ λc aa=>?_
  ·refine Tot.bs (λh=>.al (decide_eq_true (.inl h)).symm) (λh=>Tot.bs (λaI=>.al (decide_eq_true (.inr (.inl (by omega)))).symm) (λaI=>Tot.bs (λaf=>.al ?_) (λaf=>.al (decide_eq_false (by omega)).symm)));exact decide_eq_decide.2 (by omega)
  ·subst aa;refine .aA (Ξ:=λz=>z=(if b<0\/(l.take (k+1)).count b<(l.take (k+1)).count y\/((l.take (k+1)).count y=(l.take (k+1)).count b/\y<b) then y else b)) (Tot.bs (λh=>.al (if_pos h).symm) (λh=>.al (if_neg h).symm)) λz aX=>.al ⟨rfl,?_⟩
   show oW _ z;rw [aX]; exact ax
 ·have e:l.take k=l:=List.take_of_length_le (by omega);rw [e] at aF;exact aF
theorem Nc (l:List Int) (ah:l.length<=100000) (aK:∀ x∈l,0<=x/\x<=1000000):Tot (Gz l) (oW l):=by
 unfold Gz;refine .aA (Ξ:=λr:List Int=>fc iO r/\r.length<=l.length/\∀ x,x∈r↔x∈l) ?_ λD h7=>?_
 ·refine Tot.upto (λs=>s.2) l.length (λk s=>fc iO s.1/\s.1.length<=k/\∀ x,x∈s.1↔x∈l.take k) rfl (by omega) ⟨.nil,Nat.le_refl 0,λx=>by simp⟩ λk s hk he bf=>?_;obtain ⟨r,i⟩:=s;obtain ⟨h1,af,aF⟩:=bf;simp only at he h1 af aF ⊢;subst he;rw [et k (by omega)];refine Tot.bs (λaN=>?_) (λdH=>.al ?_)
  ·have aN:k<l.length:=by omega
   have fO:=l9 aN;rw [dR aN];generalize l[k]=y at *;refine Tot.aT (.aA (Fa r y h1 (by omega)) λc' dI=>.al ⟨aN,rfl,dI.1,by have:=dI.2.1; show c'.length<=k+1; omega,λx=>?_⟩);rw [fO,List.mem_append,List.mem_singleton,<- aF];exact dI.2.2 x
  ·have e:l.take k=l:=List.take_of_length_le (by omega);rw [e] at aF;exact ⟨h1,by omega,aF⟩
 ·obtain ⟨V_,aeI,Fv⟩:=h7;refine .aA (Ξ:=λr:Int=>oW l r) ?_ λr hr=>.al hr;refine Tot.upto (λs=>s.2.2) D.length (λk s=>(k=0/\s.1=-1/\s.2.1=0)\/(s.1∈D.take k/\s.2.1=(l.count s.1:Int)/\∀ x∈D.take k,l.count x<l.count s.1\/(l.count x=l.count s.1/\s.1<=x))) rfl (by omega) (.inl ⟨rfl,rfl,rfl⟩) λk s hk he bf=>?_;obtain ⟨b,n,i⟩:=s;simp only at he bf ⊢;subst he;rw [et k (by omega)];refine Tot.bs (λaN=>?_) (λdH=>.al ?_)
  ·have aN:k<D.length:=by omega
   have fO:=l9 aN;have Kt:=List.getElem_mem aN;have uB:∀ x∈D.take k,x<D[k]:=λx J=>by
    obtain ⟨j,ag,rfl⟩:=List.mem_iff_getElem.1 J;rw [List.length_take] at ag;rw [List.getElem_take];exact PR.1 (MR V_ (by omega) aN (by omega))
   rw [dR aN];generalize D[k]=y at *;have FT:=(Fv y).1 Kt;refine .aA (Ξ:=λr:Int × Int=>r.1∈D.take (k+1)/\r.2=(l.count r.1:Int)/\∀ x∈D.take (k+1),l.count x<l.count r.1\/(l.count x=l.count r.1/\r.1<=x)) ?_ λr hr=>.al ⟨aN,rfl,.inr hr⟩;refine .aA (Ξ:=λz:Int=>z=(l.count y:Int)) ?_ λz aX=>?_
   ·refine Tot.upto (λs=>s.2) l.length (λj s=>s.1=((l.take j).count y:Int)) rfl (by omega) (by simp) λj s ag he bf=>?_;obtain ⟨z,i⟩:=s;simp only at he bf ⊢;subst he bf;rw [et j (by omega)];refine Tot.bs (λfW=>?_) (λdH=>.al ?_)
    ·have fW:j<l.length:=by omega
     have uA:=l9 fW;have hN:=List.count_le_length (a:=y) (l:=l.take j);rw [List.length_take] at hN;rw [dR fW];generalize l[j]=x at *;simp only [Option.bind_some];refine .aA (Ξ:=λz:Int=>z=((l.take (j+1)).count y:Int)) ?_ λz aX=>.al ⟨fW,rfl,aX⟩;rw [uA,w6];refine .aA (Ξ:=λz:Int=>z=(((l.take j).count y+if x=y then 1 else 0:Nat):Int)) (Tot.bs (λe=>.al ?_) (λe=>.al ?_)) λz aX=>.al aX
     ·rw [if_pos e,et _ (by omega)]
     ·rw [if_neg e]; rfl
    ·have e:l.take j=l:=List.take_of_length_le (by omega);rw [e]; rfl
   ·subst aX;refine .aA (Ξ:=λr:Int × Int=>r.1∈D.take (k+1)/\r.2=(l.count r.1:Int)/\∀ x∈D.take (k+1),l.count x<l.count r.1\/(l.count x=l.count r.1/\r.1<=x)) ?_ λr hr=>.al hr;have pQ:=US FT;rw [fO];have key:∀ x∈D.take k++[y],x∈D.take k\/x=y:=λx J=>by simpa using J
    refine Tot.bs (λaa=>Tot.aT (.al ⟨by simp,rfl,λx J=>?_⟩)) (λaa=>?_)
    ·rcases key x J with J | rfl
     ·rcases bf with ⟨rfl,_,_⟩ | ⟨h1,af,aF⟩
      ·simp at J
      ·have:=aF x J; show l.count x<l.count y\/_; omega
     ·exact .inr ⟨rfl,Int.le_refl _⟩
    ·rcases bf with ⟨rfl,_,rfl⟩ | ⟨h1,af,aF⟩
     ·omega
     ·refine .al ⟨by simp [h1],af,λx J=>?_⟩;rcases key x J with J | rfl
      ·exact aF x J
      ·have:=uB b h1;have aa:¬ ((n:Int)<(l.count x:Int)):=aa;have af:n=(l.count b:Int):=af;show l.count x<l.count b\/(l.count x=l.count b/\b<=x);omega
  ·have e:D.take k=D:=List.take_of_length_le (by omega);rw [e] at bf;rcases bf with ⟨rfl,rfl,_⟩ | ⟨h1,af,aF⟩
   ·have:D=[]:=List.eq_nil_of_length_eq_zero (by omega);refine .inl ⟨?_,rfl⟩;refine List.eq_nil_iff_forall_not_mem.2 λx J=>?_;have:=(Fv x).2 J
    subst_vars
    cases this
   ·exact .inr ⟨(Fv b).1 h1,λx J=>aF x ((Fv x).2 J)⟩
def hx (l:List Int):Int:=(Gz l).getD (-1)
def HM (l:List Int):Prop:=l.length<=100000/\∀ x∈l,0<=x/\x<=1000000
theorem Lb {l:List Int}(h:HM l):wj l=some (hx l)/\Gz l=some (hx l)/\oW l (hx l):=by
 obtain ⟨v,hv,h1⟩:=TZ l h.1 h.2;obtain ⟨w,hw,af⟩:=Nc l h.1 h.2;have e:hx l=w:=by unfold hx; rw [hw]; rfl
 have b6:=h1.uniq af
 grind
def jZ {α:Type}(keep:α->Bool) (val:α->Int) (l:List α):List cH:=(l.zipIdx.filter λp=>keep p.1).map λp=>(⟨(p.2:Nat),val p.1⟩:cH)
theorem QB {α:Type}(keep:α->Bool) (val:α->Int) (l:List α) (x:α):jZ keep val (l++[x])=jZ keep val l++(if keep x=true then [(⟨l.length,val x⟩:cH)] else []):=by
 grind [jZ]
theorem A0 {α:Type}(keep:α->Bool) (val:α->Int) (l:List α):(jZ keep val l).length<=l.length:=by
 grind [jZ,List.length_zipIdx]
theorem K1 {α:Type}{keep:α->Bool}{val:α->Int}{l:List α}{p:cH}:p∈jZ keep val l↔∃ (k:Nat) (x:α),l[k]?=some x/\keep x=true/\p=⟨k,val x⟩:=by
 unfold jZ;rw [List.mem_map];constructor
 ·grind
 ·rintro ⟨k,x,h1,af,rfl⟩;exact ⟨(x,k),by rw [List.mem_filter,List.mem_zipIdx_iff_getElem?]; exact ⟨h1,af⟩,rfl⟩
def red (r:List Act):List Int:=(r.filter λa=>decide (a.Kind=2)).map (·.N)
theorem aac (r:List Act) (a:Act):red (r++[a])=red r++(if a.Kind=2 then [a.N] else []):=by
 grind [red]
theorem QG (r:List Act):(red r).length<=r.length:=by
 grind [red]
def o3 (a:Act):Int:=(oP a).getD 0
theorem Ue (a:Act):AW a=some (o3 a)/\oP a=some (o3 a):=by
 obtain ⟨c,aa,_⟩:=RC a
 grind [o3,Vb]
def oM (d:Int) (a:Act):Bool:=!decide (a.Kind=0)&&(!decide (a.Kind=2)||!decide (a.N=d))
def sL (r:List Act):Row:=⟨hx (red r),jZ (oM (hx (red r))) o3 r⟩
def pe (d v:Int):Bool:=decide (0<=v)&&!decide (v=d)
def pos (c:List Int):List Int:=c.filter λv=>decide (0<=v)
theorem ZW (r:List Int) (a:Int):pos (r++[a])=pos r++(if 0<=a then [a] else []):=by
 grind [pos]
def qQ (c:List Int):Row:=⟨hx (pos c),jZ (pe (hx (pos c))) id c⟩
def f' (d:hc) (a:Nat):List Int:=d.eD.map λr=>r.getD a 0
theorem QH {g:bD}{n:Nat}(aQ:fZ g) {r:List Act}(ah:r.length=g.br.length) (h:∀ a∈r,oU g n a):HM (red r):=by
 have au:=aQ.lq;have aq:=aQ.jA;have:=QG r;refine ⟨by omega,λx J=>?_⟩;unfold red at J;obtain ⟨a,aJ,rfl⟩:=List.mem_map.1 J;rw [List.mem_filter] at aJ;have hk:=(h a aJ.1).oa (of_decide_eq_true aJ.2);have h1:=hk.1;have af:=hk.2;omega
theorem ZV {c:List Int}(ah:c.length<=150) (h:∀ v∈c,v<150):HM (pos c):=by
 have:=List.length_filter_le (λv:Int=>decide (0<=v)) c;refine ⟨by unfold pos; omega,λx J=>?_⟩
 grind [pos]
theorem TS (g:bD) (n:Nat) (d:hc) (aR:yZ g n d):Tot (DR d) λr=>r=d.cA.map sL:=by
 have aQ:=aR.pJ;have au:=aQ.lq;have aB:=aR.gP;have aJ:=aR.a;unfold DR;refine .aA (Ξ:=λr:List Row=>r=d.cA.map sL) ?_ λr hr=>.al hr;refine Tot.upto (λs=>s.2) d.cA.length (λk s=>s.1=(d.cA.take k).map sL) rfl (by omega) rfl λk s hk he bf=>?_;obtain ⟨R,i⟩:=s;simp only at he bf ⊢;subst he bf;rw [et k (by omega)];refine Tot.bs (λaN=>?_) (λdH=>.al ?_)
 ·have aN:k<d.cA.length:=by omega
  have fO:=l9 aN;obtain ⟨oH,vM⟩:=aR.k6 _ (List.getElem_mem aN);simp only [dR aN,Option.bind_some];generalize d.cA[k]=r at *;have qB:=QH aQ oH vM;obtain ⟨BT,U',_⟩:=Lb qB;refine .aA (Ξ:=λl:List Int=>l=red r) ?_ λl ah=>?_
  ·refine Tot.upto (λs=>s.2) r.length (λj s=>s.1=red (r.take j)) rfl (by omega) rfl λj s ag he bf=>?_;obtain ⟨L,i⟩:=s;simp only at he bf ⊢;subst he bf;rw [et j (by omega)];refine Tot.bs (λfW=>?_) (λdH=>.al ?_)
   ·have fW:j<r.length:=by omega
    have uA:=l9 fW;have hlen:=QG (r.take j);rw [List.length_take] at hlen;simp only [dR fW,Option.bind_some];generalize r[j]=a at *;refine .aA (Ξ:=λL:List Int=>L=red (r.take (j+1))) ?_ λr hr=>.al ⟨fW,rfl,hr⟩;rw [uA,aac];refine .aA (Ξ:=λL:List Int=>L=red (r.take j)++(if a.Kind=2 then [a.N] else [])) (Tot.bs (λh=>?_) (λh=>.al ?_)) λr hr=>.al hr
    ·rw [if_pos h];exact .bK<|.al rfl
    grind
   grind
  ·subst ah;rw [BT];refine Tot.aT (.aA (Ξ:=λl:List cH=>l=jZ (oM (hx (red r))) o3 r) ?_ λl ah=>?_)
   ·generalize hx (red r)=D;refine Tot.upto (λs=>s.2) r.length (λj s=>s.1=jZ (oM D) o3 (r.take j)) rfl (by omega) rfl λj s ag he bf=>?_;obtain ⟨L,i⟩:=s;simp only at he bf ⊢;subst he bf;rw [et j (by omega)];refine Tot.bs (λfW=>?_) (λdH=>.al ?_)
    ·have fW:j<r.length:=by omega
     have uA:=l9 fW;have hlen:=A0 (oM D) o3 (r.take j);have ez:(r.take j).length=j:=by rw [List.length_take]; omega
     rw [List.length_take] at hlen;simp only [dR fW,Option.bind_some];generalize r[j]=a at *;rw [(Ue a).1];refine .aA (Ξ:=λL:List cH=>L=jZ (oM D) o3 (r.take (j+1))) ?_ λr hr=>.al ⟨fW,rfl,hr⟩;rw [uA,QB,ez];refine .aA (Ξ:=λc:Bool=>c=oM D a) (Tot.bN (λh=>?_) (λh=>.al ?_)) λc aa=>?_
     ·refine Tot.bN (λaf=>.al ?_) (λaf=>.al ?_)
      all_goals grind [oM]
     ·grind [oM]
     subst aa;refine .aA (Ξ:=λL:List cH=>L=jZ (oM D) o3 (r.take j)++(if oM D a=true then [(⟨j,o3 a⟩:cH)] else [])) (Tot.bN (λh=>?_) (λh=>.al ?_)) λr hr=>.al hr
     ·rw [if_pos h];exact Tot.aT (.bK<|.al rfl)
     grind
    grind
   ·subst ah;refine .bK<|.al ⟨aN,rfl,?_⟩
    grind [sL]
 grind
theorem BL (d:hc) (a:Nat):(f' d a).length=d.eD.length:=by simp [f']
theorem Nh {d:hc}{a q:Nat}(h:q<d.eD.length):(f' d a).take (q+1)=(f' d a).take q++[(d.eD[q]).getD a 0]:=by
 rw [l9 (by rw [BL]; exact h)];congr 2;simp [f']
theorem Uf {g:bD}{n:Nat}{d:hc}(aR:yZ g n d) {a:Nat}(aJ:a<g.dE.length):∀ v∈f' d a,-1<=v/\v<n:=λv hv=>by
 unfold f' at hv;obtain ⟨r,hr,rfl⟩:=List.mem_map.1 hv;obtain ⟨h1,af⟩:=aR.Gs r hr;refine af _ ?_;rw [List.getD_eq_getElem?_getD,List.getElem?_eq_getElem (by omega)];exact List.getElem_mem _
theorem Pk {r:List Int}{a:Nat}(h:a<r.length):idx r (a:Int)=some (r.getD a 0):=by
 rw [dR h,List.getD_eq_getElem?_getD,List.getElem?_eq_getElem h]; rfl
theorem ZU (c:List Int):(pos c).length<=c.length:=List.length_filter_le ..
theorem TT (g:bD) (n:Nat) (d:hc) (aR:yZ g n d):Tot (DS d) λr=>r=(List.range g.dE.length).map λa=>qQ (f' d a):=by
 have aQ:=aR.pJ;have au:=aQ.eZ;have aB:=aR.gP;have aJ:=aR.o;have aK:0<d.eD.length:=by omega
 obtain ⟨afi,_⟩:=aR.Gs _ (List.getElem_mem aK);have i0:idx d.eD 0=some d.eD[0]:=dR (k:=0) aK;unfold DS;refine Tot.bs (λh=>absurd h (by omega)) (λ_=>?_);rw [i0];refine Tot.aT (.aA (Ξ:=λr:List Row=>r=(List.range g.dE.length).map λa=>qQ (f' d a)) ?_ λr hr=>.al hr);refine Tot.upto (λs=>s.2) g.dE.length (λk s=>s.1=(List.range k).map λa=>qQ (f' d a)) rfl (by omega) rfl λk s hk he bf=>?_;obtain ⟨R,i⟩:=s;simp only at he bf ⊢;subst he bf;rw [et k (by omega)];refine Tot.bs (λaN=>?_) (λdH=>.al ?_)
 ·have ig:k<g.dE.length:=by omega
  have qB:=ZV (c:=f' d k) (by rw [BL]; omega) λv hv=>by have:=(Uf aR ig v hv).2; omega
  obtain ⟨BT,U',_⟩:=Lb qB;have hN:=BL d k;refine .aA (Ξ:=λl:List Int=>l=pos (f' d k)) ?_ λl ah=>?_
  ·refine Tot.upto (λs=>s.2) d.eD.length (λj s=>s.1=pos ((f' d k).take j)) rfl (by omega) rfl λj s ag he bf=>?_;obtain ⟨L,i⟩:=s;simp only at he bf ⊢;subst he bf;rw [et j (by omega)];refine Tot.bs (λfW=>?_) (λdH=>.al ?_)
   ·have fW:j<d.eD.length:=by omega
    have uA:=Nh (a:=k) fW;have hlen:=ZU ((f' d k).take j);rw [List.length_take] at hlen;obtain ⟨oH,_⟩:=aR.Gs _ (List.getElem_mem fW);simp only [dR fW,Option.bind_some,Pk (show k<(d.eD[j]).length by omega)];generalize (d.eD[j]).getD k 0=v at *;refine .aA (Ξ:=λL:List Int=>L=pos ((f' d k).take (j+1))) ?_ λr hr=>.al ⟨fW,rfl,hr⟩;rw [uA,ZW];refine .aA (Ξ:=λL:List Int=>L=pos ((f' d k).take j)++(if 0<=v then [v] else [])) (Tot.bs (λh=>?_) (λh=>.al ?_)) λr hr=>.al hr
    ·rw [if_pos h];exact .bK<|.al rfl
    ·rw [if_neg h,List.append_nil]
   ·have e:(f' d k).take j=f' d k:=List.take_of_length_le (by omega);rw [e]; rfl
  ·subst ah;rw [BT];refine Tot.aT (.aA (Ξ:=λl:List cH=>l=jZ (pe (hx (pos (f' d k)))) id (f' d k)) ?_ λl ah=>?_)
   ·generalize hx (pos (f' d k))=D;refine Tot.upto (λs=>s.2) d.eD.length (λj s=>s.1=jZ (pe D) id ((f' d k).take j)) rfl (by omega) rfl λj s ag he bf=>?_;obtain ⟨L,i⟩:=s;simp only at he bf ⊢;subst he bf;rw [et j (by omega)];refine Tot.bs (λfW=>?_) (λdH=>.al ?_)
    ·have fW:j<d.eD.length:=by omega
     have uA:=Nh (a:=k) fW;have hlen:=A0 (pe D) id ((f' d k).take j);have ez:((f' d k).take j).length=j:=by rw [List.length_take]; omega
     rw [ez] at hlen;obtain ⟨oH,_⟩:=aR.Gs _ (List.getElem_mem fW);simp only [dR fW,Option.bind_some,Pk (show k<(d.eD[j]).length by omega)];generalize (d.eD[j]).getD k 0=v at *;refine .aA (Ξ:=λL:List cH=>L=jZ (pe D) id ((f' d k).take (j+1))) ?_ λr hr=>.al ⟨fW,rfl,hr⟩;rw [uA,QB,ez];refine .aA (Ξ:=λc:Bool=>c=pe D v) (Tot.bN (λh=>.al ?_) (λh=>.al ?_)) λc aa=>?_
     ·unfold pe; rw [h]; rfl
     ·unfold pe; rw [h]; rfl
     subst aa;refine .aA (Ξ:=λL:List cH=>L=jZ (pe D) id ((f' d k).take j)++(if pe D v=true then [(⟨j,id v⟩:cH)] else [])) (Tot.bN (λh=>?_) (λh=>.al ?_)) λr hr=>.al hr
     ·rw [if_pos h];exact .bK<|.al rfl
     ·rw [if_neg (by rw [h]; decide),List.append_nil]
    ·have e:(f' d k).take j=f' d k:=List.take_of_length_le (by omega);rw [e]; rfl
   ·subst ah;refine .bK<|.al ⟨ig,rfl,?_⟩;show _=(List.range (k+1)).map λa=>qQ (f' d a);rw [List.range_succ,List.map_append]; rfl
 ·have:k=g.dE.length:=by omega
  subst this; rfl
theorem ZZ {α:Type}(keep:α->Bool) (val:α->Int) (l:List α):(jZ keep val l).Pairwise λa b=>a.At<b.At:=by
 unfold jZ;rw [List.pairwise_map];refine List.Pairwise.sublist List.filter_sublist ?_;rw [List.pairwise_iff_getElem];intro i j hi ag ae5;simp only [List.getElem_zipIdx];omega
theorem TB (P:List cH) (i:Int) (h:P.length<=1000000):Tot (Ax P i) λr=>(∃ v,(⟨i,v⟩:cH)∈P/\r=(v,true))\/((∀ v,(⟨i,v⟩:cH)∉P)/\r=(0,false)):=by
 unfold Ax;refine .aA (Ξ:=h4 (λ_=>∀ v,(⟨i,v⟩:cH)∉P) (λr:Int × Bool=>∃ v,(⟨i,v⟩:cH)∈P/\r=(v,true))) ?_ λx J=>?_
 ·refine Tot.upto (λs=>s) P.length (λk _=>∀ v,(⟨i,v⟩:cH)∉P.take k) rfl (by omega) (by simp) λk s hk he bf=>?_;subst he;rw [et k (by omega)];refine Tot.bs (λaN=>?_) (λ_=>.al ?_)
  ·have aN:k<P.length:=by omega
   have fO:=l9 aN;have hm:=List.getElem_mem aN;simp only [dR aN,Option.bind_some];generalize P[k]=p at *;refine Tot.bs (λe=>.al ⟨p.cc,by rw [<- e]; exact hm,rfl⟩) (λe=>.al ⟨aN,rfl,λv hv=>?_⟩);rw [fO,List.mem_append,List.mem_singleton] at hv;rcases hv with hv | hv
   ·exact bf v hv
   ·exact e (by rw [<- hv])
  ·have e:P.take k=P:=List.take_of_length_le (by omega);rw [e] at bf;exact bf
 ·rcases x with x | x
  ·exact .al (.inr ⟨J,rfl⟩)
  ·exact .al (.inl J)
theorem VG {α:Type}{keep:α->Bool}{val:α->Int}{l:List α}{k:Nat}{x:α}(ah:l.length<=1000000) (hk:l[k]?=some x):Ax (jZ keep val l) (k:Int)=some (if keep x=true then (val x,true) else (0,false)):=by
 obtain ⟨r,hr,h⟩:=TB (jZ keep val l) k (by have:=A0 keep val l; omega);rw [hr];have key:∀ v,(⟨(k:Nat),v⟩:cH)∈jZ keep val l↔keep x=true/\v=val x:=λv=>by
  rw [K1];constructor
  ·rintro ⟨j,y,h1,af,aF⟩;simp only [cH.mk.injEq] at aF;have:k=j:=by omega
   subst this;rw [hk] at h1; cases h1;exact ⟨af,aF.2⟩
  ·rintro ⟨h1,rfl⟩;exact ⟨k,x,hk,h1,rfl⟩
 rcases h with ⟨v,h1,rfl⟩ | ⟨h1,rfl⟩
 ·obtain ⟨af,rfl⟩:=(key v).1 h1;rw [if_pos af]
 ·rw [if_neg λh=>h1 (val x) ((key _).2 ⟨h,rfl⟩)]
theorem Ud {g:bD}{n:Nat}(aQ:fZ g) (aB:n<=150) {a:Act}(h:oU g n a) (aK:a.Kind≠0):yg (o3 a)=some a:=by
 rw [U7];obtain ⟨c,aa,aR⟩:=T0 a;have aq:=aQ.jA;have:o3 a=c:=by unfold o3; rw [aa]; rfl
 rw [this];refine aR.resolve_left λe=>?_;subst e;obtain ⟨K,N⟩:=a;have h1:=h.k;simp only at h1 aK;have:K=1\/K=2\/K=3\/K=4:=by omega
 rcases this with rfl | rfl | rfl | rfl
 ·have af:=h.nI rfl;simp only at af;have aF:0<=N/\N<=19999:=by omega
  have e:aG (N+1)=N+1:=by rw [cC]; omega
  simp [oP,aF,e] at aa;omega
 ·have af:=h.oa rfl;have bh:=af.1;have b7:=af.2;simp only at bh b7;have aF:1<=N/\N<=19999:=by omega
  have e:aG (-N)=-N:=by rw [cC]; omega
  simp [oP,aF,e] at aa;omega
 ·have af:N=0:=h.PX rfl;subst af;have:oP ⟨3,0⟩=some 20001:=by decide
  rw [this] at aa; cases aa
 ·have af:N=0:=h.Zc rfl;subst af;have:oP ⟨4,0⟩=some 20002:=by decide
  rw [this] at aa; cases aa
abbrev ft:=List cH
structure lN (r:ft):Prop where
 oy:∀ p∈r,0<=p.At/\p.At<=999
 nd:(r.map (·.At)).Nodup
def Fit (jo:List Int) (r:ft) (b:Nat):Prop:=∀ p∈r,jo.getD (b+p.At.toNat) 0=0
theorem tt {α:Type}{l:List α}{k:Nat}(h:k<l.length):idx l (k:Int)=some l[k]:=by simp [idx,h]
theorem TL (p:cH) (b:Nat) (jo:List Int) (aq:0<=p.At/\p.At<=999) (ar:b<=1000000000000) (aa:jo.length<=1000000000000):Tot (DG p b jo) λc=>(c=true↔jo.getD (b+p.At.toNat) 0≠0):=by
 unfold DG;have hw:aG ((b:Int)+p.At)=((b+p.At.toNat:Nat):Int):=by rw [cC]; omega
 rw [hw];refine .aA (Ξ:=λc=>(c=true↔jo.getD (b+p.At.toNat) 0≠0)) (Tot.bs (λh=>?_) (λh=>.al ?_)) λc aa=>.al aa
 ·have ah:b+p.At.toNat<jo.length:=by omega
  rw [tt ah];refine Tot.aT (.al ?_);rw [List.getD_eq_getElem?_getD,List.getElem?_eq_getElem ah];simp
 ·have ah:¬ b+p.At.toNat<jo.length:=by omega
  rw [List.getD_eq_getElem?_getD,List.getElem?_eq_none (by omega)];simp
theorem TF (jo:List Int) (r:ft) (b:Nat) (hr:∀ p∈r,0<=p.At/\p.At<=999) (ah:r.length<=100000) (ar:b<=1000000000000) (aa:jo.length<=1000000000000):Tot (yd jo r b) λc=>(c=true↔Fit jo r b):=by
 unfold yd Gu Gv;refine .aA (Ξ:=λx=>x=true↔¬ Fit jo r b) (.aA (Ξ:=λx=>(x=-1/\Fit jo r b)\/(0<=x/\¬ Fit jo r b)) ?_ λx J=>.al ?_) λx J=>.al ?_
 ·refine Tot.aA (Tot.scan r (λp=>jo.getD (b+p.At.toNat) 0=0) (λx:Int=>0<=x/\¬ Fit jo r b) (by omega) (λs y aK h1 hi hm=>?_) (λs ax=>by simp [ax])) λx J=>?_
  ·refine Tot.bs (λ_=>?_) (λh=>absurd h1 h);rw [hi];refine Tot.aT (.aA (TL y b jo (hr y hm) ar aa) λc xr=>Tot.bN (λh=>.al ⟨aK,λaV=>(xr.1 h) (aV y hm)⟩) (λh=>.al ⟨?_,?_⟩))
   ·rw [cC]; omega
   ·exact Classical.byContradiction λaB=>by rw [xr.2 aB] at h; cases h
  ·rcases x with _ | x
   ·exact .al (.inl ⟨rfl,J⟩)
   ·exact .al (.inr J)
 ·rcases J with ⟨rfl,aV⟩ | ⟨aK,aV⟩
  ·simp [aV]
  ·simp [aK,aV]
 ·cases x <;> simp_all
theorem wX (l:List Int) (h:l.length<=100000000000000000):Tot (rP l l) λc=>c=true:=by
 unfold rP;refine Tot.pF (λh=>absurd rfl h) (λ_=>?_);refine Tot.aA (Tot.scan l (λ_=>True) (λ_=>False) h (λs y aK h1 hi hm=>?_) (λs ax=>by simp [ax])) λx J=>?_
 ·refine Tot.bs (λ_=>?_) (λh=>absurd h1 h);rw [hi];refine Tot.aT (Tot.aT (Tot.pF (λh=>absurd rfl h) (λ_=>.al ⟨?_,trivial⟩)));rw [cC]; omega
 ·rcases x with _ | x
  ·exact .al rfl
  ·exact (J:False).elim
theorem TU (a b:Int):tC a b=some (if a<b then -1 else if b<a then 1 else 0):=by
 unfold tC;have h:∀ x,wk x=some false:=λx=>by simp [wk]
 rw [h,h];by_cases h1:a<b
 ·simp [h1]
 ·by_cases af:b<a <;> simp [h1,af]
theorem TE (a b:Int):Dx [a,b]=some (if a=0 then b else a):=by
 unfold Dx;have ht:∀ (f:Int->Option (Int ⊕ (Unit ⊕ Int))),f 0=(if a=0 then some (.inl 1) else some (.inr (.inr a)))->f 1=(if b=0 then some (.inl 2) else some (.inr (.inr b)))->f 2=some (.inr (.inl ()))->cg f 0=some (if a=0 then (if b=0 then .inl () else .inr b) else .inr a):=by
  intro f x y z;show iter f (999999999999999997+1+1+1) _=_;by_cases aJ:a=0
  ·by_cases ar:b=0 <;> simp only [iter,x,y,z,aJ,ar,if_true,if_false]
  ·simp only [iter,x,aJ,if_false]
 rw [ht _ ?_ ?_ ?_]
 ·by_cases aJ:a=0
  ·by_cases ar:b=0 <;> simp [aJ,ar]
  ·simp [aJ]
 ·show (bif decide ((0:Int)<2) then _ else _)=_;have e:idx [a,b] 0=some a:=rfl;simp only [e,Option.bind_some];by_cases aJ:a=0 <;> simp [aJ];rfl
 ·show (bif decide ((1:Int)<2) then _ else _)=_;have e:idx [a,b] 1=some b:=rfl;simp only [e,Option.bind_some];by_cases ar:b=0 <;> simp [ar];rfl
 ·rfl
def EF (rows:List ft) (a b:Int):Prop:=∃ x y,idx rows a=some x/\idx rows b=some y/\(y.length<x.length\/(x.length=y.length/\a<b))
theorem FZ {α:Type}{l:List α}{i:Int}(aK:0<=i) (h1:i<l.length):∃ y,idx l i=some y/\y∈l:=by
 have aN:i.toNat<l.length:=by omega
 exact ⟨l[i.toNat],by simp [idx,aK,aN],List.getElem_mem aN⟩
theorem TD (rows:List ft) (a b:Int) (aJ:0<=a/\a<rows.length) (ar:0<=b/\b<rows.length):∃ v,v_ a b rows=some v/\(v<0↔EF rows a b):=by
 obtain ⟨x,J,_⟩:=FZ aJ.1 aJ.2;obtain ⟨y,ao,_⟩:=FZ ar.1 ar.2;unfold v_;rw [J,ao];simp only [Option.bind_some,TU,TE];have eY:EF rows a b↔(y.length<x.length\/(x.length=y.length/\a<b)):=by
  unfold EF;rw [J,ao];constructor
  ·rintro ⟨x',y',ca,b6,h⟩;cases ca; cases b6; exact h
  ·intro h;exact ⟨x,y,rfl,rfl,h⟩
 refine ⟨_,rfl,?_⟩;rw [eY];by_cases h1:(y.length:Int)<x.length
 ·simp only [h1,if_true];rw [if_neg (by decide)];constructor
  ·intro _; exact .inl (by omega)
  ·intro _; decide
 ·by_cases af:(x.length:Int)<y.length
  ·simp only [h1,af,if_true,if_false];rw [if_neg (by decide)];constructor
   ·intro h; exact absurd h (by decide)
   ·rintro (h | ⟨h,_⟩) <;> omega
  ·simp only [h1,af,if_false,if_true];by_cases aF:a<b
   ·simp only [aF,if_true];constructor
    ·intro _; exact .inr ⟨by omega,trivial⟩
    ·intro _; decide
   ·simp only [aF,if_false];constructor
    ·intro h
     split at h <;> omega
    ·rintro (h | ⟨_,h⟩)
     ·omega
     ·exact h.elim
structure tR (c:h2) (r:ft) (i b:Nat) (v bZ:List Int):Prop where
 len:v.length=bZ.length
 lo:c.b'.length<=bZ.length
 Pm:∀ p∈r,b+p.At.toNat<bZ.length
 hi:bZ.length=c.b'.length\/∃ p∈r,bZ.length=b+p.At.toNat+1
 jo:∀ p∈r,bZ.getD (b+p.At.toNat) 0=(i:Int)+1
 BK:∀ k,(∀ p∈r,b+p.At.toNat≠k)->bZ.getD k 0=c.b'.getD k 0
 val:∀ p∈r,v.getD (b+p.At.toNat) 0=p.cc
 LY:∀ k,(∀ p∈r,b+p.At.toNat≠k)->v.getD k 0=c.cc.getD k 0
structure Step (r:ft) (i:Nat) (c cj:h2) (b:Nat):Prop where
 fit:Fit c.b' r b
 least:∀ dU,dU<b->¬ Fit c.b' r dU
 base:cj.cX=c.cX.set i (b:Int)
 put:tR c r i b cj.cc cj.b'
inductive oo (rows:List ft):List Nat->h2->Prop
 | nil:oo rows [] ⟨List.replicate rows.length 0,[],[]⟩
 | cons {i b:Nat}{l:List Nat}{c cj:h2}{r:ft}(hr:rows[i]?=some r) (hi:i∉l) (h:oo rows l c) (ax:Step r i c cj b):oo rows (i::l) cj
theorem oo.len {rows:List ft}{l:List Nat}{c:h2}(h:oo rows l c):c.cc.length=c.b'.length/\c.cX.length=rows.length:=by
 induction h with
 | nil=>simp
 | cons _ _ _ ax aM=>exact ⟨ax.put.len,by rw [ax.base,List.length_set]; exact aM.2⟩
theorem oo.rest {rows:List ft}{l:List Nat}{c:h2}(h:oo rows l c):∀ j,j<rows.length->j∉l->c.cX[j]?=some 0:=by
 induction h with
 | nil=>intro j ag _; simp [ag]
 | @cons i b l c cj r hr hi h ax aM =>
  intro j ag aB;rw [ax.base,List.getElem?_set_ne (by rintro rfl; exact aB (by simp))];exact aM j ag λbQ=>aB (by simp [bQ])
theorem pad (x y:Int) (K:Nat) (c6:aG (x+y)=(K:Int)) (aeM:K<=1000000000) (v bZ:List Int) (ah:v.length=bZ.length) (ar:bZ.length<=1000000000) :
  Tot (cg (R:=List Int × List Int) (λ(s:List Int × List Int) =>
(bif decide ((s.2.length:Int)<=aG (x+y)) then
(c8 s.2 [0]).bind λgQ =>
(c8 s.1 [0]).bind λkT =>
some (.inl (s.1++[0],s.2++[0]))
else
some (.inr (s.1,s.2)))) (v,bZ)) λr=>r.1.length=r.2.length/\r.2.length=max bZ.length (K+1)/\(∀ k,r.1.getD k 0=v.getD k 0)/\∀ k,r.2.getD k 0=bZ.getD k 0:=by
 have app:∀ (l:List Int) k,(l++[0]).getD k 0=l.getD k 0:=by
  intro l k;rw [List.getD_eq_getElem?_getD,List.getD_eq_getElem?_getD];by_cases hk:k<l.length
  ·rw [List.getElem?_append_left hk]
  ·rw [List.getElem?_append_right (by omega),List.getElem?_eq_none (l:=l) (by omega)];by_cases aK:k - l.length=0
   ·rw [aK]; rfl
   ·rw [List.getElem?_eq_none (by simp; omega)]
 refine Tot.loop (λs=>s.1.length=s.2.length/\bZ.length<=s.2.length/\s.2.length<=max bZ.length (K+1)/\(∀ k,s.1.getD k 0=v.getD k 0)/\∀ k,s.2.getD k 0=bZ.getD k 0) (λs=>(K+1) - s.2.length) ⟨ah,Nat.le_refl _,Nat.le_max_left _ _,λ_=>rfl,λ_=>rfl⟩ (by show (K+1) - bZ.length<1000000000000000000; omega) λs ax=>?_;obtain ⟨h1,af,aF,bh,b7⟩:=ax;rw [c6];refine Tot.bs (λhle=>?_) (λae0=>.al ⟨h1,?_,bh,b7⟩)
 ·refine .bK<|.bK<|.al ⟨⟨?_,?_,?_,λk=>?_,λk=>?_⟩,?_⟩
  ·show (s.1++[0]).length=(s.2++[0]).length; simp [h1]
  ·show bZ.length<=(s.2++[0]).length; simp; omega
  ·show (s.2++[0]).length<=_; simp; omega
  ·exact (app _ _).trans (bh k)
  ·exact (app _ _).trans (b7 k)
  ·show (K+1) - (s.2++[0]).length<(K+1) - s.2.length;simp; omega
 ·show s.2.length=_; omega
theorem zE (l:List Int) (K k:Nat) (x:Int) (h:K<l.length):(l.set K x).getD k 0=if k=K then x else l.getD k 0:=by
 rw [List.getD_eq_getElem?_getD,List.getElem?_set];by_cases e:k=K
 ·subst e; simp [h]
 ·simp [e,Ne.symm e,List.getD_eq_getElem?_getD]
theorem tR.more {c:h2}{r:ft}{p:cH}{i b:Nat}{v bZ dK BJ:List Int}(h:tR c r i b v bZ) (aq:∀ q∈r,q.At.toNat≠p.At.toNat) (ah:dK.length=BJ.length) (hlen:BJ.length=max bZ.length (b+p.At.toNat+1)) (hv:∀ k,dK.getD k 0=v.getD k 0) (aa:∀ k,BJ.getD k 0=bZ.getD k 0) :
  tR c (r++[p]) i b (dK.set (b+p.At.toNat) p.cc) (BJ.set (b+p.At.toNat) ((i:Int)+1)):=by
 have c6:b+p.At.toNat<BJ.length:=by omega
 have mem:∀ {Q:cH->Prop},(∀ q∈r,Q q)->Q p->∀ q∈r++[p],Q q:=λh1 af q a_=>by
  rcases List.mem_append.1 a_ with a_ | a_
  ·exact h1 q a_
  ·rw [List.mem_singleton.1 a_]; exact af
 refine ⟨by simp [ah],?_,mem (λq a_=>?_) ?_,?_,mem (λq a_=>?_) ?_,λk hk=>?_,mem (λq a_=>?_) ?_,λk hk=>?_⟩
 ·rw [List.length_set]; have:=h.lo; omega
 ·rw [List.length_set]; have:=h.Pm q a_; omega
 ·rw [List.length_set]; exact c6
 ·rw [List.length_set];by_cases hm:bZ.length<=b+p.At.toNat+1
  ·exact .inr ⟨p,by simp,by omega⟩
  ·rcases h.hi with e | ⟨q,a_,e⟩
   ·exact .inl (by omega)
   ·exact .inr ⟨q,by simp [a_],by omega⟩
 ·rw [zE _ _ _ _ c6,if_neg (by have:=aq q a_; omega),aa]; exact h.jo q a_
 ·rw [zE _ _ _ _ c6,if_pos rfl]
 ·rw [zE _ _ _ _ c6,if_neg (λe=>hk p (by simp) e.symm),aa]; exact h.BK k λq a_=>hk q (by simp [a_])
 ·rw [zE _ _ _ _ (by rw [ah]; exact c6),if_neg (by have:=aq q a_; omega),hv]; exact h.val q a_
 ·rw [zE _ _ _ _ (by rw [ah]; exact c6),if_pos rfl]
 ·rw [zE _ _ _ _ (by rw [ah]; exact c6),if_neg (λe=>hk p (by simp) e.symm),hv]; exact h.LY k λq a_=>hk q (by simp [a_])
theorem tR.nil (c:h2) (i b:Nat) (ah:c.cc.length=c.b'.length):tR c [] i b c.cc c.b' :=
 ⟨ah,Nat.le_refl _,λ_ h=>absurd h (by simp),.inl rfl,λ_ h=>absurd h (by simp),λ_ _=>rfl,λ_ h=>absurd h (by simp),λ_ _=>rfl⟩
theorem Fit.NC {jo:List Int}{r:ft}{b:Nat}(h:jo.length<=b):Fit jo r b:=λp _=>by
 rw [List.getD_eq_getElem?_getD,List.getElem?_eq_none (by omega)]; rfl
theorem Q9 {r:ft}{k:Nat}(hr:lN r) (hk:k<r.length):∀ q∈r.take k,q.At.toNat≠(r[k]).At.toNat:=by
 intro q a_ e;obtain ⟨j,ag,rfl⟩:=List.mem_iff_getElem.1 a_;rw [List.length_take] at ag;have ez:j<r.length:=by omega
 rw [List.getElem_take] at e;have h1:=hr.oy _ (List.getElem_mem ez);have af:=hr.oy _ (List.getElem_mem hk);have eA:=hr.nd;have:=(List.getElem_inj (h₀:=by simpa using ez) (h₁:=by simpa using hk) eA).1 (by simp only [List.getElem_map]; omega);omega
structure qf (rows:List ft):Prop where
 n:rows.length<=400
 rows:∀ r∈rows,lN r
structure EU (rows:List ft):Prop where
 n:rows.length<=1000
 r:∀ r∈rows,r.length<=1000
theorem aaF (rows:List ft) (eY:EU rows) (i:Nat) (r:ft) (hr:rows[i]?=some r) (l0:lN r) (c:h2) (aa:c.b'.length<=900000) (aK:c.cX[i]?=some 0) (fits:List Int->ft->Int->Option Bool)
  (aV:∀ b:Nat,b<=1000000->Tot (fits c.b' r b) λx=>(x=true↔Fit c.b' r b)) :
  Tot (cg (R:=List Int) (λ(di:List Int) =>
(idx rows (i:Int)).bind λiC =>
(idx di (i:Int)).bind λfF =>
(fits c.b' iC fF).bind λhS =>
(bif !hS then
(idx di (i:Int)).bind λiS =>
some (.inl (di.set (i:Int).toNat (aG (iS+1))))
else
some (.inr di))) c.cX) λB=>∃ b:Nat,B=c.cX.set i (b:Int)/\Fit c.b' r b/\(∀ dU,dU<b->¬ Fit c.b' r dU)/\b<=c.b'.length:=by
 have uw:i<c.cX.length:=(List.getElem?_eq_some_iff.1 aK).1;have Cu:idx rows (i:Int)=some r:=by simp [idx,hr]
 have X3:c.cX=c.cX.set i 0:=by
  apply List.ext_getElem?;intro k;rw [List.getElem?_set];by_cases e:i=k
  ·subst e; rw [aK]; simp [uw]
  ·simp [e]
 have key:Tot (cg (R:=List Int) (λ(di:List Int) =>
(idx rows (i:Int)).bind λiC =>
(idx di (i:Int)).bind λfF =>
(fits c.b' iC fF).bind λhS =>
(bif !hS then
(idx di (i:Int)).bind λiS =>
some (.inl (di.set (i:Int).toNat (aG (iS+1))))
else
some (.inr di))) (c.cX.set i 0)) λB=>∃ b:Nat,B=c.cX.set i (b:Int)/\Fit c.b' r b/\(∀ dU,dU<b->¬ Fit c.b' r dU)/\b<=c.b'.length:=by
  refine Tot.loop (λs=>∃ b:Nat,s=c.cX.set i (b:Int)/\(∀ dU,dU<b->¬ Fit c.b' r dU)/\b<=c.b'.length) (λs=>c.b'.length+1 - (s.getD i 0).toNat) ⟨0,rfl,λdU h=>absurd h (Nat.not_lt_zero _),Nat.zero_le _⟩ (by show c.b'.length+1 - _<1000000000000000000; omega) λs ax=>?_;obtain ⟨b,rfl,ah,ar⟩:=ax;have Kb:idx (c.cX.set i (b:Int)) (i:Int)=some (b:Int):=by
   simp [idx,uw]
  rw [Cu,Kb];refine Tot.aT (Tot.aT (.aA (aV b (by omega)) λx J=>?_));refine Tot.bN (λh=>Tot.aT (.al ⟨⟨b+1,?_,λdU j_=>?_,?_⟩,?_⟩)) (λh=>.al ⟨b,rfl,J.1 (by simpa using h),ah,ar⟩)
  ·have hw:aG ((b:Int)+1)=((b+1:Nat):Int):=by rw [cC]; omega
   rw [hw];show (c.cX.set i (b:Int)).set i _=_;rw [List.set_set]
  ·by_cases e:dU=b
   ·subst e;intro xu;rw [J.2 xu] at h; cases h
   ·exact ah dU (by omega)
  ·have:¬ c.b'.length<=b:=λaI=>by
    rw [J.2 (Fit.NC aI)] at h; cases h
   omega
  ·have hw:aG ((b:Int)+1)=((b+1:Nat):Int):=by rw [cC]; omega
   rw [hw];show c.b'.length+1 - ((((c.cX.set i (b:Int)).set i ((b+1:Nat):Int)).getD i 0).toNat)<c.b'.length+1 - ((c.cX.set i (b:Int)).getD i 0).toNat;rw [List.set_set];have g:∀ x:Int,(c.cX.set i x).getD i 0=x:=λx=>by simp [List.getD_eq_getElem?_getD,uw]
   rw [g,g];have:¬ c.b'.length<=b:=λaI=>by
    rw [J.2 (Fit.NC aI)] at h; cases h
   omega
 rw [<- X3] at key;exact key
theorem Z1 (r:ft) (l0:lN r) (oH:r.length<=1000) (i b:Nat) (hi:i<=100000) (c:h2) (hN:c.cc.length=c.b'.length) (aa:c.b'.length<=900000) (ar:b<=c.b'.length)
  (f:List Int × List Int × Int->Option ((List Int × List Int × Int) ⊕ (List Int × List Int)))
  (aV:∀ (v bZ:List Int) (k:Nat) (hk:k<r.length),f (v,bZ,(k:Int))=(cg (R:=List Int × List Int) (λ(s:List Int × List Int) =>
(bif decide ((s.2.length:Int)<=aG ((b:Int)+(r[k]).At)) then
(c8 s.2 [0]).bind λgQ =>
(c8 s.1 [0]).bind λkT =>
some (.inl (s.1++[0],s.2++[0]))
else
some (.inr (s.1,s.2)))) (v,bZ)).bind λfp =>
(idx fp.2 (aG ((b:Int)+(r[k]).At))).bind λwC =>
(idx fp.1 (aG ((b:Int)+(r[k]).At))).bind λHl =>
some (.inl (fp.1.set (aG ((b:Int)+(r[k]).At)).toNat (r[k]).cc,fp.2.set (aG ((b:Int)+(r[k]).At)).toNat (aG ((i:Int)+1)),aG ((k:Int)+1))))
  (he:∀ (v bZ:List Int) (k:Int),¬ k<r.length->f (v,bZ,k)=some (.inr (v,bZ))) :
  Tot (cg f (c.cc,c.b',0)) λx=>tR c r i b x.1 x.2/\x.2.length<=c.b'.length+1000:=by
 refine Tot.count (λs=>s.2.2) r.length (λs=>∃ k:Nat,k<=r.length/\s.2.2=(k:Int)/\tR c (r.take k) i b s.1 s.2.1) ⟨0,Nat.zero_le _,rfl,tR.nil c i b hN⟩ (by show (r.length:Int) - 0<_; omega) λs ax=>?_;obtain ⟨v,bZ,kd⟩:=s;obtain ⟨k,hk,rfl,bI⟩:=ax;simp only at bI ⊢;by_cases aN:k<r.length
 ·rw [aV v bZ k aN];have aq:=l0.oy _ (List.getElem_mem aN);have c6:aG ((b:Int)+(r[k]).At)=((b+(r[k]).At.toNat:Nat):Int):=by rw [cC]; omega
  have aeR:bZ.length<=1000000:=by
   rcases bI.hi with e | ⟨q,a_,e⟩
   ·omega
   ·have:=l0.oy q (List.mem_of_mem_take a_);omega
  refine .aA (pad _ _ _ c6 (by omega) v bZ bI.len (by omega)) λx J=>?_;obtain ⟨h1,af,aF,bh⟩:=J;rw [c6];have zT:b+(r[k]).At.toNat<x.2.length:=by omega
  have XG:b+(r[k]).At.toNat<x.1.length:=by omega
  rw [tt zT,tt XG];have Yh:aG ((i:Int)+1)=(i:Int)+1:=by rw [cC]; omega
  have sx:aG ((k:Int)+1)=((k+1:Nat):Int):=by rw [cC]; omega
  rw [Yh,sx];refine Tot.aT (Tot.aT (.al ⟨⟨k+1,by omega,rfl,?_⟩,?_,?_⟩))
  ·rw [List.take_add_one,List.getElem?_eq_getElem aN];exact bI.more (Q9 l0 aN) h1 af aF bh
  ·grind
  grind
 ·rw [he v bZ k (by omega)];have:k=r.length:=by omega
  subst this;rw [List.take_length] at bI;refine .al ⟨bI,?_⟩;show bZ.length<=c.b'.length+1000;rcases bI.hi with e | ⟨q,a_,e⟩
  ·omega
  ·have:=l0.oy q a_;omega
theorem lN.snoc {r:ft}{p:cH}(h:lN r) (aq:0<=p.At/\p.At<=999) (aB:p.At∉r.map (·.At)):lN (r++[p]):=by
 refine ⟨λq a_=>?_,?_⟩
 ·rcases List.mem_append.1 a_ with a_ | a_
  ·exact h.oy q a_
  ·rw [List.mem_singleton.1 a_]; exact aq
 ·rw [List.map_append,List.nodup_append];refine ⟨h.nd,by simp,λa aJ b ar e=>?_⟩;have ar:b∈[p.At]:=ar;rw [List.mem_singleton.1 ar] at e;exact aB (e ▸ aJ)
theorem lN.nil:lN []:=⟨λ_ h=>absurd h (by simp),by simp⟩
theorem lN.bad {r:ft}{k:Nat}(hk:k<r.length) (h:¬ (0<=(r[k]).At/\(r[k]).At<=999)\/(r[k]).At∈(r.take k).map (·.At)):¬ lN r:=by
 intro hr;rcases h with h | h
 ·exact h (hr.oy _ (List.getElem_mem hk))
 ·obtain ⟨q,a_,e⟩:=List.mem_map.1 h;exact Q9 hr hk q a_ (by have e:q.At=(r[k]).At:=e; rw [e])
theorem aao {rows:List ft}{r:ft}(hr:r∈rows) (h:¬ lN r):¬ qf rows:=λbQ=>h (bQ.rows r hr)
theorem LV {r:ft}{k:Nat}(h:k<r.length):r.take (k+1)=r.take k++[r[k]]:=by
 rw [List.take_add_one,List.getElem?_eq_getElem h]; rfl
theorem TC (rows:List ft) (eY:EU rows):Tot (Ay rows) λc=>(c=true↔qf rows):=by
 unfold Ay;have aB:=eY.n;refine Tot.bs (λh=>.al ⟨λh=>(by cases h),λbQ=>by have:=bQ.n; omega⟩) (λaev=>?_);refine Tot.aA (Tot.scan rows lN (λx:Bool=>x=false/\¬ qf rows) (by omega) (λs r aK h1 hi hm=>?_) (λs ax=>by simp [ax])) λx J=>?_
 ·refine Tot.bs (λ_=>?_) (λh=>absurd h1 h);rw [hi];have oH:=eY.r r hm;refine Tot.aT (.aA (Ξ:=h4 (λ_=>lN r) (λx:Bool=>x=false/\¬ qf rows)) ?_ λx J=>?_)
  ·refine Tot.count (λs=>s.2) r.length (λs=>∃ k:Nat,k<=r.length/\s.2=(k:Int)/\s.1.length=1000/\lN (r.take k)/\∀ j,j<1000->(s.1.getD j false=true↔(j:Int)∈(r.take k).map (·.At))) ⟨0,Nat.zero_le _,rfl,List.length_replicate ..,lN.nil,λj ag=>by
   show ((List.replicate 1000 false).getD j false=true↔_);rw [List.getD_eq_getElem?_getD,List.getElem?_replicate,if_pos ag];simp⟩ (by show (r.length:Int) - 0<_; omega) λs ax=>?_
   obtain ⟨met,kd⟩:=s;obtain ⟨k,hk,rfl,vJ,c7,JY⟩:=ax;simp only at vJ JY ⊢;refine Tot.bs (λaN=>?_) (λdH=>.al ?_)
   ·have aN:k<r.length:=by omega
    rw [tt aN];have hw:aG ((k:Int)+1)=((k+1:Nat):Int):=by rw [cC]; omega
    rw [hw];have dC:0<=(r[k]).At/\(r[k]).At<=999->xP 1000 met (r[k]).At=some (met.getD (r[k]).At.toNat false):=by
     intro h;unfold xP;rw [if_pos (by omega)];have:(r[k]).At.toNat<met.length:=by omega
     simp [idx,h.1,this,List.getD_eq_getElem?_getD]
    refine Tot.aT (.aA (Ξ:=λc=>(c=true↔(¬ (0<=(r[k]).At/\(r[k]).At<=999)\/(r[k]).At∈(r.take k).map (·.At)))) ?_ λc aa=>Tot.bN (λh=>.al ⟨rfl,aao hm (lN.bad aN (aa.1 h))⟩) (λh=>?_))
    ·refine Tot.bs (λh=>.al ⟨λ_=>.inl (by omega),λ_=>rfl⟩) (λh=>Tot.bs (λaI=>.al ⟨λ_=>.inl (by omega),λ_=>rfl⟩) (λaI=>?_));have aq:0<=(r[k]).At/\(r[k]).At<=999:=by omega
     rw [dC aq];refine Tot.aT (.al ?_);rw [JY _ (by omega)];have e:(((r[k]).At.toNat:Nat):Int)=(r[k]).At:=by omega
     rw [e];exact ⟨λh=>.inr h,λh=>h.resolve_left λaB=>aB aq⟩
    ·have Xq:(0<=(r[k]).At/\(r[k]).At<=999)/\(r[k]).At∉(r.take k).map (·.At):=by
      refine ⟨Classical.byContradiction λaB=>?_,λaB=>?_⟩
      ·rw [aa.2 (.inl aB)] at h; cases h
      ·rw [aa.2 (.inr aB)] at h; cases h
     obtain ⟨aq,aB⟩:=Xq;rw [dC aq];refine Tot.aT (.al ⟨⟨k+1,by omega,rfl,by show (met.set _ _).length=_; simp [vJ],?_,λj ag=>?_⟩,?_,?_⟩)
     ·rw [LV aN]; exact c7.snoc aq aB
     ·show ((met.set (r[k]).At.toNat true).getD j false=true↔_);rw [LV aN,List.map_append,List.mem_append,List.getD_eq_getElem?_getD,List.getElem?_set];by_cases e:(r[k]).At.toNat=j
      ·subst e;have ah:(r[k]).At.toNat<met.length:=by omega
       have b6:(((r[k]).At.toNat:Nat):Int)=(r[k]).At:=by omega
       rw [if_pos rfl,if_pos ah,b6];simp
      ·rw [if_neg e,<- List.getD_eq_getElem?_getD,JY j ag];constructor
       ·exact .inl
       ·rintro (h | h)
        ·exact h
        ·have h:(j:Int)∈[(r[k]).At]:=h;have:=List.mem_singleton.1 h;omega
     ·show (k:Int)<((k+1:Nat):Int); omega
     ·show ((k+1:Nat):Int)<=_; omega
   ·have:k=r.length:=by omega
    subst this;rw [List.take_length] at c7;exact c7
  ·rcases x with _ | x
   ·exact .al ⟨by rw [cC]; omega,J⟩
   ·exact .al J
 ·rcases x with _ | x
  ·have J:∀ r∈rows,lN r:=J;exact .al ⟨λ_=>⟨by omega,J⟩,λ_=>rfl⟩
  ·obtain ⟨rfl,ar⟩:x=false/\¬ qf rows:=J;exact .al ⟨λh=>(by cases h),λh=>absurd h ar⟩
def nb (rows:List ft) (a:Int):Nat:=((idx rows a).map List.length).getD 0
def jX (rows:List ft) (a b:Int):Bool:=decide (nb rows b<nb rows a\/(nb rows a=nb rows b/\a<b))
theorem PN {rows:List ft}{a b:Int}:jX rows a b=true↔(nb rows b<nb rows a\/(nb rows a=nb rows b/\a<b)):=by simp [jX]
theorem KX {rows:List ft}{a b:Int}:jX rows a b=false↔¬ (nb rows b<nb rows a\/(nb rows a=nb rows b/\a<b)):=by simp [jX]
theorem PO (rows:List ft):SWO (jX rows) where
 irrefl x:=by rw [KX]; omega
 trans x y z h1 af:=by rw [PN] at *; omega
 ntrans x y z h1 af:=by rw [KX] at *; omega
theorem PQ {rows:List ft}{a b:Int}(h1:jX rows a b=false) (af:jX rows b a=false):a=b:=by
 rw [KX] at *; omega
theorem M8 (rows:List ft) (a b:Int) (aJ:0<=a/\a<rows.length) (ar:0<=b/\b<rows.length):∃ v,v_ a b rows=some v/\(v<0↔jX rows a b=true):=by
 obtain ⟨v,hv,h⟩:=TD rows a b aJ ar;refine ⟨v,hv,h.trans ?_⟩;obtain ⟨x,J,_⟩:=FZ aJ.1 aJ.2;obtain ⟨y,ao,_⟩:=FZ ar.1 ar.2;rw [PN];unfold EF nb;rw [J,ao];constructor
 ·rintro ⟨x',y',ca,b6,h⟩;cases ca; cases b6; exact h
 ·intro h;exact ⟨x,y,rfl,rfl,h⟩
theorem Pn {α:Type}{lt lt':α->α->Bool}(x:α):∀ l:List α,(∀ y∈l,lt y x=lt' y x)->ins lt x l=ins lt' x l
 | [],_=>rfl
 | y::l,h=>by
  simp only [ins,h y (by simp)];rw [Pn x l λz aX=>h z (by simp [aX])]
theorem Pv {α:Type}{lt lt':α->α->Bool}:∀ l:List α,(∀ a∈l,∀ b∈l,lt a b=lt' a b)->h_ lt l=h_ lt' l
 | [],_=>rfl
 | x::l,h=>by
  simp only [h_];rw [Pv l λa aJ b ar=>h a (by simp [aJ]) b (by simp [ar])];exact Pn x _ λy ao=>h y (by simp [(tu lt' l).mem_iff.1 ao]) x (by simp)
structure s4 (rows:List ft) (o:List Nat):Prop where
 mem:∀ i,i∈o↔∃ r,rows[i]?=some r/\r≠[]
 nd:o.Nodup
 D5:o.Pairwise λ(a b:Nat)=>jX rows (b:Int) (a:Int)=false
theorem s4.lt {rows:List ft}{o:List Nat}(h:s4 rows o) {i:Nat}(hi:i∈o):i<rows.length:=by
 obtain ⟨r,hr,_⟩:=(h.mem i).1 hi;exact (List.getElem?_eq_some_iff.1 hr).1
theorem s4.len {rows:List ft}{o:List Nat}(h:s4 rows o):o.length<=rows.length:=by
 have:∀ (l m:List Nat),l.Nodup->(∀ x∈l,x∈m)->l.length<=m.length:=by
  intro l
  induction l with
  | nil=>intro m _ _; exact Nat.zero_le _
  | cons x l aM =>
   intro m aR hm;have J:=hm x (by simp);have o7:=List.nodup_cons.1 aR;have:=aM (m.erase x) o7.2 λy ao=>(List.mem_erase_of_ne (λe=>o7.1 (by rw [<- e]; exact ao))).2 (hm y (by simp [ao]));have ah:=List.length_erase_of_mem J;have aq:=List.length_pos_of_mem J;simp only [List.length_cons];omega
 have:=this o (List.range rows.length) h.nd λx J=>by simpa using h.lt J
 simpa using this
theorem aaU (rows:List ft) (l:List Int) (ah:∀ a∈l,0<=a/\a<rows.length) (aB:l.length<=100000):p7 (λa b=>v_ a b rows) l=some (h_ (jX rows) l):=by
 have aN:∀ a∈l,∀ b∈l,kN (λa b=>v_ a b rows) a b=jX rows a b:=by
  intro a aJ b ar;obtain ⟨v,hv,h⟩:=M8 rows a b (ah a aJ) (ah b ar);unfold kN;simp only [hv,Option.getD_some];cases hk:jX rows a b with
  | true=>exact decide_eq_true (h.2 hk)
  | false=>exact decide_eq_false λbQ=>by rw [h.1 bQ] at hk; cases hk
 unfold p7;rw [if_pos]
 ·rw [Pv l aN]
 ·simp only [Bool.and_eq_true,decide_eq_true_eq,List.all_eq_true];refine ⟨⟨λa aJ b ar=>?_,?_⟩,by omega⟩
  ·obtain ⟨v,hv,_⟩:=M8 rows a b (ah a aJ) (ah b ar);rw [hv]; rfl
  ·unfold Aq;simp only [List.all_eq_true,Bool.and_eq_true,Bool.or_eq_true,Bool.not_eq_true',decide_eq_true_eq];have bg:=PO rows;intro a aJ;refine ⟨by rw [aN a aJ a aJ]; exact bg.irrefl a,λb ar=>⟨?_,λc aa=>⟨?_,?_⟩⟩⟩
   ·rw [aN a aJ b ar,aN b ar a aJ];cases h1:jX rows a b with
    | true=>exact .inl (.inl rfl)
    | false =>
     cases af:jX rows b a with
     | true=>exact .inl (.inr rfl)
     | false=>exact .inr (PQ h1 af)
   ·rw [aN a aJ b ar,aN b ar c aa,aN a aJ c aa];cases h1:jX rows a b with
    | false=>exact .inl rfl
    | true =>
     cases af:jX rows b c with
     | false=>exact .inl rfl
     | true=>exact .inr (bg.trans _ _ _ h1 af)
   ·rw [aN a aJ b ar,aN b ar c aa,aN a aJ c aa];cases h1:jX rows a b with
    | true=>exact .inl (.inl rfl)
    | false =>
     cases af:jX rows b c with
     | true=>exact .inl (.inr rfl)
     | false=>exact .inr (bg.ntrans _ _ _ h1 af)
theorem TY (rows:List ft) (eY:EU rows):Tot (AV rows) λc=>(¬ qf rows->c=⟨[],[],[]⟩)/\(qf rows->c.b'.length<=900000/\∃ o,s4 rows o/\oo rows o.reverse c):=by
 unfold AV;refine .aA (TC rows eY) λaS h1=>Tot.bN (λh=>.al ⟨λ_=>rfl,λc7=>by rw [h1.2 c7] at h; cases h⟩) (λh=>?_);have c7:qf rows:=h1.1 (by simpa using h);refine Tot.use (Φ:=λc=>(¬ qf rows->c=⟨[],[],[]⟩)/\(qf rows->c.b'.length<=900000/\∃ o,s4 rows o/\oo rows o.reverse c)) (Ψ:=λc=>c.b'.length<=900000/\∃ o,s4 rows o/\oo rows o.reverse c) ?_ λc aa=>⟨λaB=>absurd c7 aB,λ_=>aa⟩;have aB:=c7.n;refine .aA (Ξ:=λl=>l=List.replicate rows.length 0) (Tot.mk (by simp [lim]; omega) (by simp)) λa8 aF=>?_;subst aF;refine .aA (Ξ:=λl=>∃ o:List Nat,l=o.map (λ(j:Nat)=>(j:Int))/\o.Nodup/\o.length<=400/\∀ j,j∈o↔∃ r,rows[j]?=some r/\r≠[]) ?_ λbV b7=>?_
 ·refine Tot.count (λs=>s.2) rows.length (λs=>∃ k:Nat,k<=rows.length/\s.2=(k:Int)/\∃ o:List Nat,s.1=o.map (λ(j:Nat)=>(j:Int))/\o.Nodup/\o.length<=k/\∀ j,j∈o↔j<k/\∃ r,rows[j]?=some r/\r≠[]) ⟨0,Nat.zero_le _,rfl,[],rfl,List.nodup_nil,Nat.le_refl 0,λj=>by simp⟩ (by show (rows.length:Int) - 0<_; omega) λs ax=>?_;obtain ⟨l,kd⟩:=s;obtain ⟨k,hk,rfl,o,rfl,eA,CD,hm⟩:=ax;simp only;have hw:aG ((k:Int)+1)=((k+1:Nat):Int):=by rw [cC]; omega
  rw [hw];refine Tot.bs (λaN=>?_) (λdH=>.al ⟨o,rfl,eA,by omega,λj=>?_⟩)
  ·have aN:k<rows.length:=by omega
   rw [tt aN];have ss:rows[k]?=some rows[k]:=List.getElem?_eq_getElem aN;have XC:k∉o:=λh=>by have:=((hm k).1 h).1; omega
   refine .aA (Ξ:=λl=>∃ fU:List Nat,l=fU.map (λ(j:Nat)=>(j:Int))/\fU.Nodup/\fU.length<=k+1/\∀ j,j∈fU↔j<k+1/\∃ r,rows[j]?=some r/\r≠[]) ?_ λl ah=>.al ⟨⟨k+1,by omega,rfl,ah⟩,?_,?_⟩
   ·refine Tot.aT (.aA (Ξ:=λl=>∃ fU:List Nat,l=fU.map (λ(j:Nat)=>(j:Int))/\fU.Nodup/\fU.length<=k+1/\∀ j,j∈fU↔j<k+1/\∃ r,rows[j]?=some r/\r≠[]) ?_ λl ah=>.al ah);refine Tot.bs (λaq=>?_) (λaq=>.al ⟨o,rfl,eA,by omega,λj=>?_⟩)
    ·refine .bK<|.al ⟨o++[k],by simp,?_,by simp; omega,λj=>?_⟩
     ·rw [List.nodup_append];exact ⟨eA,by simp,λa aJ b ar e=>XC (by rw [<- List.mem_singleton.1 ar,<- e]; exact aJ)⟩
     ·rw [List.mem_append,hm j,List.mem_singleton];constructor
      ·rintro (⟨h1,af⟩ | rfl)
       ·exact ⟨by omega,af⟩
       ·exact ⟨by omega,_,ss,λe=>by rw [e] at aq; simp at aq⟩
      ·rintro ⟨h1,af⟩;by_cases e:j=k
       ·exact .inr e
       ·exact .inl ⟨by omega,af⟩
    ·rw [hm j];constructor
     ·rintro ⟨h1,af⟩;exact ⟨by omega,af⟩
     ·rintro ⟨h1,r,af,aF⟩;refine ⟨?_,r,af,aF⟩;have:j≠k:=by
       rintro rfl;rw [ss] at af; cases af;have:(rows[j]).length≠0:=λe=>aF (List.eq_nil_of_length_eq_zero e);omega
      omega
   ·show (k:Int)<((k+1:Nat):Int); omega
   ·show ((k+1:Nat):Int)<=_; omega
  ·have:k=rows.length:=by omega
   subst this;rw [hm j];constructor
   ·exact λh=>h.2
   ·rintro ⟨r,hr,h⟩;exact ⟨(List.getElem?_eq_some_iff.1 hr).1,r,hr,h⟩
 obtain ⟨An,rfl,XM,aff,vH⟩:=b7;have zO:∀ a∈An.map (λ(j:Nat)=>(j:Int)),0<=a/\a<rows.length:=by
  intro a aJ;obtain ⟨j,ag,rfl⟩:=List.mem_map.1 aJ;obtain ⟨r,hr,_⟩:=(vH j).1 ag;have:=(List.getElem?_eq_some_iff.1 hr).1;omega
 rw [aaU rows _ zO (by simp; omega)];refine Tot.aT ?_
 -- the order, az places
 obtain ⟨o,aW,hOr⟩:∃ o:List Nat,h_ (jX rows) (An.map λ(j:Nat)=>(j:Int))=o.map (λ(j:Nat)=>(j:Int))/\s4 rows o:=by
  refine ⟨h_ (λa b:Nat=>jX rows (a:Int) (b:Int)) An,?_,?_⟩
  ·exact (F0 (lt:=λa b:Nat=>jX rows (a:Int) (b:Int)) (lt':=jX rows) (f:=λ(j:Nat)=>(j:Int)) (λa b=>rfl) An).symm
  ·have bg:=PO rows;have aq:=tu (λa b:Nat=>jX rows (a:Int) (b:Int)) An;refine ⟨λi=>(aq.mem_iff).trans (vH i),aq.nodup_iff.2 XM,?_⟩;have ax:=F1 (lt:=λa b:Nat=>jX rows (a:Int) (b:Int)) ⟨λx=>bg.irrefl _,λx y z=>bg.trans _ _ _,λx y z=>bg.ntrans _ _ _⟩ An;exact ax.imp λh=>by simpa using h
 rw [aW];have CD:=hOr.len;refine .aA (Ξ:=λc=>c.b'.length<=900000/\∃ o,s4 rows o/\oo rows o.reverse c) ?_ λc aa=>.al aa;refine Tot.count (λs=>s.2) o.length (λs=>∃ k:Nat,k<=o.length/\s.2=(k:Int)/\s.1.b'.length<=1000 * k/\oo rows (o.take k).reverse s.1) ⟨0,Nat.zero_le _,rfl,Nat.le_refl 0,.nil⟩ (by show (o.length:Int) - 0<_; omega) λs ax=>?_;obtain ⟨c,kd⟩:=s;obtain ⟨k,hk,rfl,hN,fM⟩:=ax;simp only at hN fM ⊢;have hw:aG ((k:Int)+1)=((k+1:Nat):Int):=by rw [cC]; omega
 rw [hw];refine Tot.bs (λaN=>?_) (λdH=>.al ⟨by show c.b'.length<=900000; omega,o,hOr,?_⟩)
 ·rw [List.length_map] at aN;have aN:k<o.length:=by omega
  have vG:idx (o.map λ(j:Nat)=>(j:Int)) (k:Int)=some ((o[k]:Nat):Int):=by
   rw [tt (by simpa using aN)]; simp
  rw [vG];generalize hi:o[k]=i;have OG:i∈o:=by rw [<- hi]; exact List.getElem_mem aN
  obtain ⟨r,hr,afj⟩:=(hOr.mem i).1 OG;have FC:=hOr.lt OG;have zZ:r∈rows:=List.mem_of_getElem? hr;have l0:=c7.rows r zZ;have oH:=eY.r r zZ;have OR:i∉(o.take k).reverse:=by
   rw [List.mem_reverse];intro h;obtain ⟨j,ag,e⟩:=List.mem_iff_getElem.1 h;rw [List.length_take] at ag;rw [List.getElem_take] at e;have:=(List.getElem_inj (i:=j) (j:=k) (h₀:=by omega) (h₁:=aN) hOr.nd).1 (by rw [e,hi]);omega
  have hlen:=fM.len;refine Tot.aT (.aA (aaF rows eY i r hr l0 c (by omega) (fM.rest i FC OR) yd λb ar=>TF c.b' r b l0.oy (by omega) (by omega) (by omega)) λB V8=>?_);obtain ⟨b,rfl,xu,XD,qx⟩:=V8;have Cu:idx rows (i:Int)=some r:=by simp [idx,hr]
  rw [Cu];refine Tot.aT (.aA (Z1 r l0 oH i b (by omega) c hlen.1 (by omega) qx _ (λv bZ k hk=>?_) (λv bZ k hk=>?_)) λx J=>?_)
  ·have xm:idx (c.cX.set i (b:Int)) (i:Int)=some (b:Int):=by
    have:i<c.cX.length:=by omega
    simp [idx,this]
   have aR:decide ((k:Int)<(r.length:Int))=true:=decide_eq_true (by omega);simp only [aR,cond_true,tt hk,xm,Option.bind_some]
  ·have aR:decide ((k:Int)<(r.length:Int))=false:=decide_eq_false hk;simp only [aR,cond_false]
  ·obtain ⟨bI,ah⟩:=J;refine .al ⟨⟨k+1,by omega,rfl,?_,?_⟩,?_,?_⟩
   ·show x.2.length<=1000 * (k+1); omega
   ·rw [List.take_add_one,List.getElem?_eq_getElem aN,hi];show oo rows ((o.take k)++[i]).reverse _;rw [List.reverse_append];exact .cons hr OR fM ⟨xu,XD,rfl,bI⟩
   ·show (k:Int)<((k+1:Nat):Int); omega
   ·show ((k+1:Nat):Int)<=_; omega
 ·rw [List.length_map] at dH;have:k=o.length:=by omega
  subst this;rw [List.take_length] at fM;exact fM
def Am (bZ:List Int):List Nat:=(List.range bZ.length).filter λk=>decide (bZ.getD k 0≠0)
def QL (rows:List ft) (i:Nat):Nat:=(rows[i]?.map List.length).getD 0
structure Inv (rows:List ft) (l:List Nat) (c:h2):Prop where
 own:∀ i∈l,∃ (r:ft) (b:Nat),rows[i]?=some r/\c.cX[i]?=some (b:Int)/\∀ p∈r,b+p.At.toNat<c.b'.length/\c.b'.getD (b+p.At.toNat) 0=(i:Int)+1/\c.cc.getD (b+p.At.toNat) 0=p.cc
 L2:∀ k,c.b'.getD k 0≠0->∃ i∈l,∃ (r:ft) (b:Nat),rows[i]?=some r/\c.cX[i]?=some (b:Int)/\∃ p∈r,k=b+p.At.toNat/\c.b'.getD k 0=(i:Int)+1
 zero:∀ k,c.b'.getD k 0=0->c.cc.getD k 0=0
 last:c.b'.length=0\/c.b'.getD (c.b'.length - 1) 0≠0
 least:∀ i∈l,∀ b:Nat,c.cX[i]?=some (b:Int)->∀ dU,dU<b->∃ (r:ft) (p:cH) (sC:Nat),rows[i]?=some r/\p∈r/\sC∈l/\jX rows (sC:Int) (i:Int)=true/\c.b'.getD (dU+p.At.toNat) 0=(sC:Int)+1
 vm:(Am c.b').length=(l.map (QL rows)).sum
theorem K0 {bZ:List Int}{k:Nat}:k∈Am bZ↔bZ.getD k 0≠0:=by
 unfold Am;rw [List.mem_filter,List.mem_range];constructor
 ·intro h; simpa using h.2
 ·intro h;refine ⟨Classical.byContradiction λhk=>h ?_,by simpa using h⟩;rw [List.getD_eq_getElem?_getD,List.getElem?_eq_none (by omega)]; rfl
theorem PY (bZ:List Int):(Am bZ).Nodup:=List.nodup_range.sublist List.filter_sublist
theorem oo.inv {rows:List ft}(c7:qf rows) {l:List Nat}{c:h2}(h:oo rows l c) (J9:l.Pairwise λ(a b:Nat)=>jX rows (a:Int) (b:Int)=false):Inv rows l c:=by
 induction h with
 | nil=>exact ⟨λ_ h=>absurd h (by simp),λk h=>absurd rfl h,λ_ _=>rfl,.inl rfl,λ_ h=>absurd h (by simp),rfl⟩
 | @cons i b l c cj r hr hi fM ax aM =>
  have OY:=List.pairwise_cons.1 J9;have I:=aM OY.2;have l0:=c7.rows r (List.mem_of_getElem? hr);have bI:=ax.put;have hlen:=fM.len;have uw:i<c.cX.length:=by rw [hlen.2]; exact (List.getElem?_eq_some_iff.1 hr).1
  have xm:cj.cX[i]?=some (b:Int):=by rw [ax.base]; simp [uw]
  have xo:∀ j,j≠i->cj.cX[j]?=c.cX[j]?:=λj ag=>by rw [ax.base,List.getElem?_set_ne (Ne.symm ag)]
  have cQ:∀ j∈l,j≠i:=λj ag e=>hi (e ▸ ag);have free:∀ k,c.b'.getD k 0≠0->∀ p∈r,b+p.At.toNat≠k:=λk hk p aq e=>hk (e ▸ ax.fit p aq);have keep:∀ k,c.b'.getD k 0≠0->cj.b'.getD k 0=c.b'.getD k 0:=λk hk=>bI.BK k (free k hk);refine ⟨λj ag=>?_,λk hk=>?_,λk hk=>?_,?_,λj ag gW gS dU aN=>?_,?_⟩
  ·rcases List.mem_cons.1 ag with rfl | ag
   ·exact ⟨r,b,hr,xm,λp aq=>⟨bI.Pm p aq,bI.jo p aq,bI.val p aq⟩⟩
   ·obtain ⟨c',dU,h1,af,aF⟩:=I.own j ag;refine ⟨c',dU,h1,by rw [xo j (cQ j ag)]; exact af,λp aq=>?_⟩;obtain ⟨g1,g2,g3⟩:=aF p aq;have OS:c.b'.getD (dU+p.At.toNat) 0≠0:=by rw [g2]; omega
    exact ⟨Nat.lt_of_lt_of_le g1 bI.lo,by rw [keep _ OS]; exact g2,by rw [bI.LY _ (free _ OS)]; exact g3⟩
  ·by_cases aq:∃ p∈r,b+p.At.toNat=k
   ·obtain ⟨p,aq,rfl⟩:=aq;exact ⟨i,by simp,r,b,hr,xm,p,aq,rfl,bI.jo p aq⟩
   ·have e:=bI.BK k λp CG e=>aq ⟨p,CG,e⟩;rw [e] at hk ⊢;obtain ⟨j,ag,c',dU,h1,af,aF⟩:=I.L2 k hk;exact ⟨j,by simp [ag],c',dU,h1,by rw [xo j (cQ j ag)]; exact af,aF⟩
  ·by_cases aq:∃ p∈r,b+p.At.toNat=k
   ·obtain ⟨p,aq,rfl⟩:=aq;rw [bI.jo p aq] at hk; omega
   ·have aB:∀ p∈r,b+p.At.toNat≠k:=λp CG e=>aq ⟨p,CG,e⟩;rw [bI.BK k aB] at hk;rw [bI.LY k aB];exact I.zero k hk
  ·rcases bI.hi with e | ⟨p,aq,e⟩
   ·rcases I.last with aK | aK
    ·exact .inl (by omega)
    ·exact .inr (by rw [e,keep _ aK]; exact aK)
   ·refine .inr ?_;rw [e];show cj.b'.getD (b+p.At.toNat+1 - 1) 0≠0;rw [Nat.add_sub_cancel,bI.jo p aq]; omega
  ·rcases List.mem_cons.1 ag with rfl | ag
   ·rw [xm] at gS;have i_:b=gW:=by injection gS with e; omega
    subst i_;have OQ:=ax.least dU aN;obtain ⟨p,aq,aX⟩:∃ p∈r,c.b'.getD (dU+p.At.toNat) 0≠0 :=
     Classical.byContradiction λaB=>OQ λp aq=>Classical.byContradiction λaX=>aB ⟨p,aq,aX⟩
    obtain ⟨sC,qz,_,_,_,_,_,_,_,e⟩:=I.L2 _ aX;refine ⟨r,p,sC,hr,aq,by simp [qz],?_,by rw [keep _ aX]; exact e⟩;have h1:=OY.1 sC qz;cases af:jX rows (sC:Int) (j:Int) with
    | true=>rfl
    | false=>exact absurd (PQ af h1) (by have:=cQ sC qz; omega)
   ·rw [xo j (cQ j ag)] at gS;obtain ⟨c',p,sC,h1,af,aF,bh,b7⟩:=I.least j ag gW gS dU aN;exact ⟨c',p,sC,h1,af,by simp [aF],bh,by rw [keep _ (by rw [b7]; omega)]; exact b7⟩
  ·have CH:(Am cj.b').Perm (r.map (λp=>b+p.At.toNat)++Am c.b'):=by
    refine (List.perm_ext_iff_of_nodup (PY _) ?_).2 λk=>?_
    ·rw [List.nodup_append];refine ⟨?_,PY _,λx J y ao e=>?_⟩
     ·unfold List.Nodup;rw [List.pairwise_map];have:=l0.nd;unfold List.Nodup at this;rw [List.pairwise_map] at this;refine this.imp_of_mem λ{p q} aq a_ cQ=>?_;have h1:=l0.oy p aq;have af:=l0.oy q a_;omega
     ·obtain ⟨p,aq,rfl⟩:=List.mem_map.1 J;have h1:=K0.1 ao;rw [<- e] at h1;exact h1 (ax.fit p aq)
    ·rw [K0,List.mem_append,K0,List.mem_map];by_cases aq:∃ p∈r,b+p.At.toNat=k
     ·obtain ⟨p,aq,rfl⟩:=aq;rw [bI.jo p aq];exact ⟨λ_=>.inl ⟨p,aq,rfl⟩,λ_=>by omega⟩
     ·rw [bI.BK k λp CG e=>aq ⟨p,CG,e⟩];exact ⟨.inr,λh=>h.resolve_left aq⟩
   rw [CH.length_eq,List.length_append,List.length_map,I.vm,List.map_cons,List.sum_cons];simp [QL,hr]
def k' (r:ft) (n:Int):Int × Bool:=match r.find? λp=>decide (p.At=n) with
 | some p=>(p.cc,true)
 | none=>(0,false)
theorem get_none {r:ft}{n:Int}(h:∀ p∈r,p.At≠n):k' r n=(0,false):=by
 unfold k';rw [List.find?_eq_none.2 λp aq=>by simpa using h p aq]
theorem get_some {r:ft}(hr:lN r) {p:cH}(aq:p∈r):k' r p.At=(p.cc,true):=by
 unfold k';cases h:r.find? λq=>decide (q.At=p.At) with
 | none=>exact absurd (List.find?_eq_none.1 h p aq) (by simp)
 | some q =>
  have h1:q.At=p.At:=by simpa using List.find?_some h
  have af:=List.mem_of_find?_eq_some h;obtain ⟨i,hi,ca⟩:=List.mem_iff_getElem.1 af;obtain ⟨j,ag,b6⟩:=List.mem_iff_getElem.1 aq;have:=(List.getElem_inj (h₀:=by simpa using hi) (h₁:=by simpa using ag) hr.nd).1 (by simp only [List.getElem_map]; rw [ca,b6]; exact h1);subst this;rw [ca] at b6;rw [b6]
theorem VD (r:ft) (n:Int) (ah:r.length<=100000):Ax r n=some (k' r n):=by
 suffices h:Tot (Ax r n) λx=>x=k' r n by
  obtain ⟨x,J,e⟩:=h; rw [J,e]
 unfold Ax;refine Tot.aA (Ξ:=h4 (λ_=>k' r n=(0,false)) (λx=>x=k' r n)) ?_ λx J=>?_
 ·refine Tot.count (λs=>s) r.length (λs=>∃ k:Nat,k<=r.length/\s=(k:Int)/\∀ p∈r.take k,p.At≠n) ⟨0,Nat.zero_le _,rfl,λ_ h=>absurd h (by simp)⟩ (by show (r.length:Int) - 0<_; omega) λs ax=>?_;obtain ⟨k,hk,rfl,aB⟩:=ax;refine Tot.bs (λh=>?_) (λh=>.al ?_)
  ·have aN:k<r.length:=by omega
   rw [tt aN];refine Tot.aT (Tot.bs (λe=>.al ?_) (λe=>.al ⟨⟨k+1,by omega,by rw [cC]; omega,λp aq=>?_⟩,by show (k:Int)<aG _; rw [cC]; omega,by show aG _<=_; rw [cC]; omega⟩))
   ·show ((r[k]).cc,true)=k' r n;unfold k';have aV:r.find? (λp=>decide (p.At=n))=some r[k]:=by
     rw [List.find?_eq_some_iff_getElem];refine ⟨by simpa using e,k,aN,rfl,λj ag=>?_⟩;have:=aB (r[j]'(by omega)) (List.mem_iff_getElem.2 ⟨j,by rw [List.length_take]; omega,by rw [List.getElem_take]⟩);simpa using this
    rw [aV]
   ·rw [LV aN] at aq;rcases List.mem_append.1 aq with aq | aq
    ·exact aB p aq
    ·rw [List.mem_singleton.1 aq]; exact e
  ·have:k=r.length:=by omega
   subst this;rw [List.take_length] at aB;exact get_none aB
 ·rcases x with x | x
  ·exact .al (Eq.symm J)
  ·exact .al J
def ri (rows:List ft) (a n:Int):Int × Bool:=match idx rows a with
 | some r=>k' r n
 | none=>(0,false)
theorem VE {rows:List ft}(c7:qf rows) {o:List Nat}(hO:s4 rows o) {c:h2}(fM:oo rows o.reverse c) (bf:Inv rows o.reverse c) (aa:c.b'.length<=900000) (a n:Int):rN c a n=some (ri rows a n):=by
 have hlen:=fM.len
 suffices h:Tot (rN c a n) λx=>x=ri rows a n by
  obtain ⟨x,J,e⟩:=h; rw [J,e]
 have P4:(∀ r,idx rows a=some r->∀ p∈r,p.At≠n)->ri rows a n=(0,false):=by
  intro h;unfold ri;cases hi:idx rows a with
  | none=>rfl
  | some r=>exact get_none (h r hi)
 have out:(a<0\/(c.cX.length:Int)<=a)->idx rows a=none:=by
  intro h;unfold idx;rcases h with h | h
  ·rw [if_neg (by omega)]
  ·split
   ·exact List.getElem?_eq_none (by omega)
   ·rfl
 -- where the pairs of a row stand
 have at_:∀ r,idx rows a=some r->∀ p∈r,0<=a/\∃ b:Nat,c.cX[a.toNat]?=some (b:Int)/\b+p.At.toNat<c.b'.length/\c.b'.getD (b+p.At.toNat) 0=(a.toNat:Int)+1/\c.cc.getD (b+p.At.toNat) 0=p.cc:=by
  intro r hr p aq;have aK:0<=a:=by
   by_cases aK:0<=a
   ·exact aK
   ·rw [idx,if_neg aK] at hr; cases hr
  have dI:rows[a.toNat]?=some r:=by rw [idx,if_pos aK] at hr; exact hr
  obtain ⟨c',b,h1,af,aF⟩:=bf.own a.toNat (List.mem_reverse.2 ((hO.mem _).2 ⟨r,dI,λe=>by rw [e] at aq; simp at aq⟩));rw [dI] at h1; cases h1;exact ⟨aK,b,af,aF p aq⟩
 have fN:∀ r,idx rows a=some r->∀ p∈r,0<=p.At/\p.At<=999:=by
  intro r hr p aq;have:r∈rows:=by
   unfold idx at hr
   split at hr
   ·exact List.mem_of_getElem? hr
   ·cases hr
  exact (c7.rows r this).oy p aq
 unfold rN;refine .aA (Ξ:=λx:Bool=>(x=true->(a<0\/(c.cX.length:Int)<=a)\/n<0\/(c.b'.length:Int)<=n)/\(x=false->0<=a/\a<c.cX.length/\0<=n/\n<c.b'.length)) ?_ λx J=>Tot.bN (λh=>?_) (λh=>?_)
 ·refine Tot.bs (λh=>.al ⟨λ_=>.inl (.inl h),λh=>(by cases h)⟩) (λh1=>Tot.bs (λh=>.al ⟨λ_=>.inl (.inr h),λh=>(by cases h)⟩) (λaf=>Tot.bs (λh=>.al ⟨λ_=>.inr (.inl h),λh=>(by cases h)⟩) (λaF=>.al ⟨λh=>.inr (.inr (of_decide_eq_true h)),λh=>?_⟩)));have:=of_decide_eq_false h;omega
 ·refine .al (Eq.symm (P4 λr hr p aq e=>?_));obtain ⟨aK,b,ar,h1,_⟩:=at_ r hr p aq;have af:=fN r hr p aq;rcases J.1 h with aI | aI | aI
  ·rw [out aI] at hr; cases hr
  ·omega
  ·omega
 ·obtain ⟨aK,h1,af,aF⟩:=J.2 h;have halt:a.toNat<rows.length:=by omega
  -- the base
  obtain ⟨b,ar,fm⟩:∃ b:Nat,c.cX[a.toNat]?=some (b:Int)/\b<=900000:=by
   by_cases hm:a.toNat∈o
   ·obtain ⟨c',b,g1,g2,g3⟩:=bf.own a.toNat (List.mem_reverse.2 hm);refine ⟨b,g2,?_⟩;obtain ⟨r,ca,b6⟩:=(hO.mem _).1 hm;rw [ca] at g1; cases g1;obtain ⟨p,aq⟩:=List.exists_mem_of_ne_nil _ b6;have:=(g3 p aq).1;omega
   ·exact ⟨0,fM.rest _ halt (by simpa using hm),by omega⟩
  have xm:idx c.cX a=some (b:Int):=by rw [idx,if_pos aK]; exact ar
  rw [xm];have hw:aG ((b:Int)+n)=((b+n.toNat:Nat):Int):=by rw [cC]; omega
  have Yg:aG (a+1)=a+1:=by rw [cC]; have:=c7.n; omega
  refine Tot.aT ?_;rw [hw,Yg];refine .aA (Ξ:=λx:Bool=>(x=true->∀ r,idx rows a=some r->∀ p∈r,p.At≠n)/\(x=false->b+n.toNat<c.b'.length/\c.b'.getD (b+n.toNat) 0=a+1)) (Tot.bs (λh=>.al ⟨λ_ r hr p aq e=>?_,λh=>(by cases h)⟩) (λh=>?_)) λx J=>Tot.bN (λh=>.al (Eq.symm (P4 (J.1 h)))) (λh=>?_)
  ·obtain ⟨_,dU,b4,g1,_⟩:=at_ r hr p aq;rw [ar] at b4;have:b=dU:=by injection b4 with b4; omega
   subst this;subst e;omega
  ·have ah:b+n.toNat<c.b'.length:=by omega
   rw [tt ah];have aQ:c.b'.getD (b+n.toNat) 0=c.b'[b+n.toNat]:=by rw [List.getD_eq_getElem?_getD,List.getElem?_eq_getElem ah]; rfl
   rw [<- aQ];refine Tot.aT (.al ⟨λh r hr p aq e=>?_,λh=>⟨ah,by simpa using h⟩⟩);obtain ⟨_,dU,b4,_,g2,_⟩:=at_ r hr p aq;rw [ar] at b4;have:b=dU:=by injection b4 with b4; omega
   subst this;subst e;rw [g2] at h;have:¬ ((a.toNat:Int)+1=a+1):=by simpa using h
   omega
  ·obtain ⟨ah,he⟩:=J.2 h;have pT:b+n.toNat<c.cc.length:=by omega
   rw [tt pT];refine Tot.aT (.al ?_);obtain ⟨i,hi,r,dU,ca,b6,p,aq,eI,k_⟩:=bf.L2 (b+n.toNat) (by rw [he]; omega);rw [he] at k_;have Xs:i=a.toNat:=by omega
   subst Xs;rw [ar] at b6;have:b=dU:=by injection b6 with b6; omega
   subst this;have vM:idx rows a=some r:=by rw [idx,if_pos aK]; exact ca
   have FL:=fN r vM p aq;have sr:p.At=n:=by omega
   obtain ⟨_,dU,b4,_,_,g3⟩:=at_ r vM p aq;rw [ar] at b4;have:b=dU:=by injection b4 with b4; omega
   subst this;unfold ri;rw [vM];show _=k' r n;have OE:=get_some (c7.rows r (List.mem_of_getElem? ca)) aq;rw [sr,<- g3,sr,List.getD_eq_getElem?_getD,List.getElem?_eq_getElem pT] at OE;exact OE.symm
structure kj (x:Sym):Prop where
 lit:x.Lit=true->x.Name.size=1/\0<lQ x.Name 0/\lQ x.Name 0<=255/\x.cf=0
 num:0<=x.cf/\x.cf<=50000
theorem Li (x:Sym) (a b:Bool):Par (uP x a b) λr=>r=true->kj x:=by
 unfold uP;refine Par.bN (λah=>?_) (λah=>?_)
 ·refine .aA (Ξ:=λc=>c=false->x.Name.size=1/\x.cf=0) ?_ λc aa=>Par.bN (λ_=>.al λh=>by cases h) (λaf=>?_)
  ·refine Par.bN (λ_=>.al λh=>by cases h) (λ_=>Par.pF (λ_=>.al λh=>by cases h) (λh1=>.al λaf=>⟨by omega,?_⟩));simpa using af
  ·obtain ⟨h1,aF⟩:=aa af;refine .aA (Ξ:=λc=>c=lQ x.Name 0) (λc aa=>?_) λc aa=>?_
   ·unfold kF at aa
    split at aa
    ·exact (Option.some.inj aa).symm
    ·cases aa
   ·subst aa;refine .aA (Ξ:=λr=>r.2=true->0<lQ x.Name 0/\lQ x.Name 0<=255) ?_ λr hr=>.al λh=>⟨λ_=>⟨h1,(hr h).1,(hr h).2,aF⟩,by omega⟩;unfold AI;refine Par.bs (λh=>.al λ_=>by omega) (λ_=>Par.bs (λh=>.al λ_=>by omega) (λ_=>Par.bs (λh=>.al λ_=>by omega) (λ_=>?_)));refine .aA (Ξ:=λc=>c=true->lQ x.Name 0=92\/lQ x.Name 0=39) (Par.bs (λh=>.al λ_=>.inl h) (λ_=>.al λh=>.inr (of_decide_eq_true h))) λc aa=>Par.bN (λh=>.al λ_=>by rcases aa h with h | h <;> omega) (λ_=>?_);refine .aA (Ξ:=λr:Int × Bool=>r.2=true->0<lQ x.Name 0/\lQ x.Name 0<=255) (Par.bs (λh=>.al λaI=>?_) (λ_=>.al λh=>by cases h)) λr hr=>.al hr;have:lQ x.Name 0<=126:=of_decide_eq_true aI;omega
 ·refine .aA (Ξ:=λc=>c=true->0<=x.cf/\x.cf<=50000) ?_ λc aa=>.al λh=>⟨λaI=>(by rw [ah] at aI; cases aI),aa h⟩;refine .aA (Ξ:=λ_=>True) (λ_ _=>trivial) λc _=>Par.bN (λ_=>Par.bs (λh=>.al λ_=>by omega) (λ_=>Par.bN (λ_=>Par.bs (λh=>.al λaI=>⟨by omega,of_decide_eq_true aI⟩) (λ_=>.al λh=>by cases h)) (λ_=>.al λh=>by cases h))) (λ_=>.al λh=>by cases h)
theorem Qr (x:Sym):Par (uQ x) λr=>r=true->kj x:=by
 unfold uQ;refine .aA (Ξ:=λr=>r=true->kj x) ?_ λr hr=>.al hr;refine Par.bN (λ_=>Par.bN (λh=>.al λaI=>?_) (λ_=>.al λh=>by cases h)) (λ_=>.al λh=>by cases h);have h1:x.Lit=false:=by simpa using h
 have af:x.cf=0:=of_decide_eq_true aI;exact ⟨λh=>(by rw [h1] at h; cases h),by omega⟩
theorem ZC (d:Decl) (aB:d.ff.length<=1000000):Par (yk d) λr=>r=true->∀ x∈d.ff,kj x:=by
 unfold yk;refine .aA (Ξ:=λ_=>True) (λ_ _=>trivial) λc _=>Par.bN (λ_=>.al λh=>by cases h) (λ_=>?_);refine .aA (Par.scan d.ff (by omega) (λx=>kj x) (λr=>r=false) (λs y aK h1 hi hm=>?_) (λs ax=>by simp [ax])) λx J=>?_
 ·refine Par.bs (λ_=>?_) (λh=>absurd h1 h);rw [hi];have hw:aG (s+1)=s+1:=by rw [cC]; omega
  rw [hw];exact .aA (Ξ:=λz=>z=y) (.al rfl) λz aX=>by
   subst aX;exact .aA (Li _ _ _) λc aa=>Par.bN (λ_=>.al rfl) (λaf=>.al ⟨rfl,aa (by simpa using af)⟩)
 ·rcases x with _ | r
  ·exact .al λ_=>J
  ·exact .al λh=>by have:r=false:=J; rw [this] at h; cases h
theorem ZD (a:Alt) (aB:a.Parts.length<=1000000):Par (yl a) λr=>r=true->(∀ p∈a.Parts,kj p.Sym)/\kj a.Prec:=by
 unfold yl;refine .aA (Par.scan a.Parts (by omega) (λp=>kj p.Sym) (λr=>r=false) (λs y aK h1 hi hm=>?_) (λs ax=>by simp [ax])) λx J=>?_
 ·refine Par.bs (λ_=>?_) (λh=>absurd h1 h);rw [hi];have hw:aG (s+1)=s+1:=by rw [cC]; omega
  rw [hw];refine .aA (Ξ:=λz=>z=y) (.al rfl) λz aX=>?_;subst aX;refine .aA (Ξ:=λc=>c=false->kj z.Sym) ?_ λc aa=>Par.bN (λ_=>.al rfl) (λaf=>.al ⟨rfl,aa af⟩);refine Par.bs (λhe=>?_) (λcQ=>?_)
  ·refine .aA (Li _ _ _) λc aa=>Par.bN (λ_=>.al λh=>by cases h) (λaf=>?_);have c7:=aa (by simpa using af);exact λ_ _ _=>c7
  ·refine Par.pF (λ_=>?_) (λh=>absurd h cQ);refine .aA (Qr _) λc aa=>Par.bN (λ_=>.al λh=>by cases h) (λaf=>?_);have c7:=aa (by simpa using af);exact λ_ _ _=>c7
 ·rcases x with _ | r
  ·have J:∀ p∈a.Parts,kj p.Sym:=J;refine .aA (Ξ:=λc=>c=true->kj a.Prec) ?_ λc aa=>.al λh=>⟨J,aa h⟩;refine .aA (Qr _) λc aa=>Par.bN (λaf=>.al λ_=>aa af) (λ_=>.aA (Li _ _ _) λc aa=>.al aa)
  ·exact .al λh=>by have:r=false:=J; rw [this] at h; cases h
structure Mx (s:Source):Prop where
 decls:∀ d∈s.Decls,∀ x∈d.ff,kj x
 rules:∀ r∈s.eP,∀ a∈r.gi,(∀ p∈a.Parts,kj p.Sym)/\kj a.Prec
theorem Zy (s:Source) (ar:ve s):Par (yh s) λr=>r=true->Mx s:=by
 unfold yh;refine .aA (Ξ:=h4 (λ_=>True) (λr=>r=false)) ?_ λx J=>?_
 ·refine Par.loop (λ_=>True) trivial λj _=>?_;refine Par.bs (λ_=>.aA (Ξ:=λ_=>True) (λ_ _=>trivial) λ_ _=>Par.bN (λ_=>.al rfl) (λ_=>.al trivial)) (λ_=>.al trivial)
 ·rcases x with _ | r
  ·refine .aA (Par.scan s.Decls (by have:=ar.qo; omega) (λd=>∀ x∈d.ff,kj x) (λr=>r=false) (λi y aK h1 hi hm=>?_) (λs ax=>by simp [ax])) λx J=>?_
   ·refine Par.bs (λ_=>?_) (λh=>absurd h1 h);rw [hi];have hw:aG (i+1)=i+1:=by have:=ar.qo; rw [cC]; omega
    rw [hw];refine .aA (Ξ:=λz=>z=y) (.al rfl) λz aX=>?_;subst aX;exact .aA (ZC z (by have:=(ar.decls z hm).n; omega)) λc aa=>Par.bN (λ_=>.al rfl) (λaf=>.al ⟨rfl,aa (by simpa using af)⟩)
   ·rcases x with _ | r
    ·have aR:∀ d∈s.Decls,∀ x∈d.ff,kj x:=J;refine .aA (Par.scan s.eP (by have:=ar.aD; omega) (λr=>∀ a∈r.gi,(∀ p∈a.Parts,kj p.Sym)/\kj a.Prec) (λr=>r=false) (λi y aK h1 hi hm=>?_) (λs ax=>by simp [ax])) λx J=>?_
     ·refine Par.bs (λ_=>?_) (λh=>absurd h1 h);rw [hi];have hw:aG (i+1)=i+1:=by have:=ar.aD; rw [cC]; omega
      rw [hw];refine .aA (Ξ:=λz=>z=y) (.al rfl) λz aX=>?_;subst aX;have oH:=(ar.rules z hm);refine .aA (Ξ:=λ_=>True) (λ_ _=>trivial) λc _=>Par.bN (λ_=>.al rfl) (λ_=>?_);refine .aA (Par.scan z.gi (by have:=oH.n; omega) (λa=>(∀ p∈a.Parts,kj p.Sym)/\kj a.Prec) (λr=>r=false) (λk y aK h1 hi hm=>?_) (λs ax=>by simp [ax])) λx J=>?_
      ·refine Par.bs (λ_=>?_) (λh=>absurd h1 h);rw [hi];have hw:aG (k+1)=k+1:=by have:=oH.n; rw [cC]; omega
       rw [hw];refine .aA (Ξ:=λz=>z=y) (.al rfl) λz aX=>?_;subst aX;exact .aA (ZD z (by have:=(oH.alts z hm).n; omega)) λc aa=>Par.bN (λ_=>.al rfl) (λaf=>.al ⟨rfl,aa (by simpa using af)⟩)
      ·rcases x with _ | r
       ·exact .al ⟨rfl,J⟩
       ·exact .al J
     ·rcases x with _ | r
      ·exact .al λ_=>⟨aR,J⟩
      ·exact .al λh=>by have:r=false:=J; rw [this] at h; cases h
    ·exact .al λh=>by have:r=false:=J; rw [this] at h; cases h
  ·exact .al λh=>by have:r=false:=J; rw [this] at h; cases h
structure zi (T:List b5) (G:List Bool):Prop where
 NZ:G.length=T.length
 lo:3<=T.length
 hi:T.length<=lim
 le:∀ t∈T,t.cf<=50000
structure tV (T:List b5) (G:List Bool):Prop where
 aR:∀ (i:Nat) (t:b5),i<3->T[i]?=some t->t.cf<=0
 un:∀ (i j:Nat) (s t:b5),T[i]?=some s->T[j]?=some t->0<s.cf->s.cf=t.cf->i=j
 gq:∀ (i:Nat) (t:b5),3<=i->T[i]?=some t->(G[i]?=some true->0<t.cf)/\(G[i]?=some false->t.cf=0)
structure e9 (m:fe):Prop where
 a:zi m.ba.br m.eb
 b:m.eK=0->tV m.ba.br m.eb
theorem vU {α:Type}{l:List α}{i:Int}{y:α}(h:idx l i=some y):0<=i/\i.toNat<l.length/\l[i.toNat]?=some y:=by
 unfold idx at h
 split at h
 ·rename_i aK;exact ⟨aK,(List.getElem?_eq_some_iff.1 h).1,h⟩
 ·cases h
theorem zi.set {T:List b5}{G:List Bool}(h:zi T G) {k:Nat}{t t':b5}(hk:T[k]?=some t) (hu:t'.cf<=50000) {Mm:List Bool}(df:Mm.length=G.length):zi (T.set k t') Mm:=by
 exact ⟨by rw [df,List.length_set]; exact h.NZ,by rw [List.length_set]; exact h.lo,by rw [List.length_set]; exact h.hi,λs ax=>(List.mem_or_eq_of_mem_set ax).elim (h.le s) λe=>e ▸ hu⟩
theorem tV.GZ {T:List b5}{G:List Bool}(h:tV T G) {k:Nat}{t t':b5}(hk:T[k]?=some t) (hu:t'.cf=t.cf):tV (T.set k t') G:=by
 have aN:=(List.getElem?_eq_some_iff.1 hk).1;have key:∀ (i:Nat) (s:b5),(T.set k t')[i]?=some s->∃ cz,T[i]?=some cz/\cz.cf=s.cf:=by
  intro i s ax;rw [p6 aN] at ax;by_cases e:i=k
  ·rw [if_pos e] at ax;cases ax;exact ⟨t,by rw [e]; exact hk,hu.symm⟩
  ·rw [if_neg e] at ax;exact ⟨s,ax,rfl⟩
 refine ⟨λi s hi ax=>?_,λi j s s2 ax ka aK he=>?_,λi s hi ax=>?_⟩
 ·obtain ⟨cz,h1,af⟩:=key i s ax;rw [<- af]; exact h.aR i cz hi h1
 ·obtain ⟨cz,h1,af⟩:=key i s ax;obtain ⟨aav,aF,bh⟩:=key j s2 ka;exact h.un i j cz aav h1 aF (by omega) (by omega)
 ·obtain ⟨cz,h1,af⟩:=key i s ax;rw [<- af]; exact h.gq i cz hi h1
theorem tV.aaH {T:List b5}{G:List Bool}(h:tV T G) {k:Nat}{t t':b5}(hk:T[k]?=some t) (aF:3<=k) (aQ:k<G.length) (aK:0<t'.cf) (aB:∀ (i:Nat) (s:b5),T[i]?=some s->s.cf≠t'.cf):tV (T.set k t') (G.set k true):=by
 have aN:=(List.getElem?_eq_some_iff.1 hk).1;refine ⟨λi s hi ax=>?_,λi j s s2 ax ka aq he=>?_,λi s hi ax=>?_⟩
 ·rw [p6 aN,if_neg (by omega)] at ax;exact h.aR i s hi ax
 ·rw [p6 aN] at ax ka;by_cases ca:i=k
  ·rw [if_pos ca] at ax; cases ax;by_cases b6:j=k
   ·omega
   ·rw [if_neg b6] at ka;exact absurd he.symm (aB j s2 ka)
  ·rw [if_neg ca] at ax;by_cases b6:j=k
   ·rw [if_pos b6] at ka; cases ka;exact absurd he (aB i s ax)
   ·rw [if_neg b6] at ka;exact h.un i j s s2 ax ka aq he
 ·rw [p6 aN] at ax;rw [p6 aQ];by_cases ca:i=k
  ·rw [if_pos ca] at ax ⊢;cases ax;exact ⟨λ_=>aK,λh=>by cases h⟩
  ·rw [if_neg ca] at ax ⊢;exact h.gq i s hi ax
theorem tz (m:fe) (a:Int) (n:ByteArray):Par (od m a n) λm'=>r7 m m'/\m'.eK≠0:=.of (t148 m a n)
theorem e9.fail {m m':fe}(h:e9 m) (ax:r7 m m'/\m'.eK≠0):e9 m':=⟨by rw [ax.1.g,ax.1.gq]; exact h.a,λe=>absurd e ax.2⟩
theorem ZA (m:fe) (x:Sym) (aF:3<=m.ba.br.length) (h:m.ba.br.length<=lim):Par (uO m x) λr=>r=-1\/(1<=r/\r≠2):=by
 have ah:lim=1000000000000\/lim<=1000000000000000:=by unfold lim; omega
 unfold uO;refine .aA (Ξ:=h4 (λ_=>True) (λr:Int=>1<=r/\r≠2)) ?_ λr hr=>?_
 ·refine Par.loop (λs=>1<=s/\s<=m.ba.br.length) ⟨by decide,by omega⟩ λs ax=>?_
  ·refine Par.bs (λaN=>?_) (λ_=>.al trivial);refine .aA (Ξ:=λc=>c=true->s≠2) ?_ λc aa=>Par.bN (λaI=>.al ⟨ax.1,aa aI⟩) (λ_=>.al ⟨by rw [cC]; omega,by rw [cC]; omega⟩);refine .go λy _=>Par.bN (λ_=>.go λz _=>Par.bN (λ_=>.al λaI=>by simpa using aI) (λ_=>.al λh=>by cases h)) (λ_=>.al λh=>by cases h)
 ·rcases r with _ | r
  ·exact .al (.inl rfl)
  ·exact .al (.inr hr)
theorem Qp (m:fe) (n:Int) (aF:3<=m.ba.br.length) (h:m.ba.br.length<=lim):Par (wg m n) λr=>r<0->∀ (i:Nat) (t:b5),3<=i->m.ba.br[i]?=some t->t.cf≠n:=by
 have ah:lim=1000000000000\/lim<=1000000000000000:=by unfold lim; omega
 unfold wg;refine .aA (Ξ:=h4 (λ_=>∀ (i:Nat) (t:b5),3<=i->m.ba.br[i]?=some t->t.cf≠n) (λr:Int=>0<=r)) ?_ λr hr=>?_
 ·refine Par.loop (λs=>3<=s/\s<=m.ba.br.length/\∀ (i:Nat) (t:b5),3<=i->(i:Int)<s->m.ba.br[i]?=some t->t.cf≠n) ⟨by decide,by omega,λi t h1 af=>by omega⟩ λs ax=>?_;obtain ⟨h1,af,ax⟩:=ax;refine Par.bs (λaN=>?_) (λdH=>.al λi t hi au=>ax i t hi ?_ au)
  ·refine .go λy ao=>?_;obtain ⟨_,_,ao⟩:=vU ao;have hw:aG (s+1)=s+1:=by rw [cC]; omega
   rw [hw];refine Par.bs (λe=>.al (show (0:Int)<=s by omega)) (λe=>.al ⟨by omega,by omega,λi t hi zT au=>?_⟩);by_cases b6:i=s.toNat
   ·subst b6;rw [ao] at au; cases au; exact e
   ·exact ax i t hi (by omega) au
  ·have:=(List.getElem?_eq_some_iff.1 au).1;omega
 ·rcases r with _ | r
  ·exact .al λ_=>hr
  ·exact .al λh=>by have:(0:Int)<=r:=hr; omega
theorem Ej {α:Type}{l:List α}{x:α}(i:Nat) {y:α}(h:(l++[x])[i]?=some y):(i<l.length/\l[i]?=some y)\/(i=l.length/\y=x):=by
 by_cases hi:i<l.length
 ·rw [List.getElem?_append_left hi] at h;exact .inl ⟨hi,h⟩
 ·rw [List.getElem?_append_right (by omega)] at h;by_cases e:i - l.length=0
  ·rw [e] at h;simp at h;exact .inr ⟨by omega,h.symm⟩
  ·have:([x]:List α)[i - l.length]?=none:=by rw [List.getElem?_eq_none]; simp; omega
   rw [this] at h; cases h
theorem Qo (m:fe) (x:Sym) (hm:e9 m) (J:kj x):Par (we m x) λr=>e9 r.2/\(r.1=1\/3<=r.1):=by
 unfold we;have ah:lim<=1000000000000000:=by unfold lim; omega
 refine .aA (ZA m x hm.a.lo hm.a.hi) λr hr=>Par.bs (λh=>.al ⟨hm,?_⟩) (λ_=>?_)
 ·show r=1\/3<=r;omega
 refine .aA (Ξ:=λj:fe × Int=>j.1.ba=m.ba/\j.1.eb=m.eb/\e9 j.1/\j.2<=50000/\(j.1.eK=0->(x.Lit=true->0<j.2/\∀ (i:Nat) (t:b5),m.ba.br[i]?=some t->t.cf≠j.2)/\(x.Lit=false->j.2=0))) ?_ λj ag=>?_
 ·refine Par.bN (λoE=>?_) (λoE=>.al ⟨rfl,rfl,hm,by show (0:Int)<=_; decide,λ_=>⟨λh=>(by rw [oE] at h; cases h),λ_=>rfl⟩⟩);obtain ⟨_,h1,af,_⟩:=J.lit oE;refine .aA (Ξ:=λc=>c=lQ x.Name 0) (λc aa=>?_) λc aa=>?_
  ·unfold kF at aa
   split at aa
   ·exact (Option.some.inj aa).symm
   ·cases aa
  subst aa;have hw:aG (lQ x.Name 0)=lQ x.Name 0:=by rw [cC]; omega
  rw [hw];refine .aA (Qp m (lQ x.Name 0) hm.a.lo hm.a.hi) λo aW=>?_;refine .aA (Ξ:=λj:fe=>j.ba=m.ba/\j.eb=m.eb/\e9 j/\(j.eK=0->m.eK=0/\o<0)) (Par.bs (λh=>.aA (tz m x.At x.Name) λm' aI=>.al ⟨aI.1.g,aI.1.gq,hm.fail aI,λe=>absurd e aI.2⟩) (λh=>.al ⟨rfl,rfl,hm,λe=>⟨e,by omega⟩⟩)) λj ag=>.al ⟨ag.1,ag.2.1,ag.2.2.1,by show lQ x.Name 0<=_; omega,λe=>⟨λ_=>⟨h1,λi t au=>?_⟩,λh=>(by rw [oE] at h; cases h)⟩⟩;obtain ⟨ca,b6⟩:=ag.2.2.2 e;by_cases aF:3<=i
  ·exact aW b6 i t aF au
  ·have:=(hm.b ca).aR i t (by omega) au;show t.cf≠lQ x.Name 0;omega
 ·obtain ⟨aQ,sm,cV,hle,he⟩:=ag;have Om:j.1.eK=0->tV m.ba.br m.eb:=λe=>by have:=cV.b e; rwa [aQ,sm] at this
  refine Par.ap λCx=>Par.ap λ_=>.al ?_;rw [aQ] at Cx;rw [aQ,sm];simp only [List.length_cons,List.length_nil] at Cx;have aF:=hm.a.lo;have JI:=hm.a.NZ;refine ⟨⟨⟨by simp [JI],by show 3<=(m.ba.br++[_]).length; simp; omega,by show (m.ba.br++[_]).length<=_; simp; omega,λt au=>?_⟩,λga=>?_⟩,?_⟩
  ·rcases List.mem_append.1 au with au | au
   ·exact hm.a.le t au
   ·rw [List.mem_singleton.1 au]; exact hle
  ·have Nq:j.1.eK=0:=ga;have ar:=Om Nq;obtain ⟨JB,Cr⟩:=he Nq;refine ⟨λi t hi au=>?_,λi k s t ax au aK heq=>?_,λi t hi au=>?_⟩
   ·rcases Ej i au with ⟨h1,af⟩ | ⟨h1,_⟩
    ·exact ar.aR i t hi af
    ·omega
   ·rcases Ej i ax with ⟨h1,af⟩ | ⟨h1,af⟩
    ·rcases Ej k au with ⟨bh,b7⟩ | ⟨bh,b7⟩
     ·exact ar.un i k s t af b7 aK heq
     ·subst b7;have heq:s.cf=j.2:=heq;cases oE:x.Lit with
      | true=>exact absurd heq ((JB oE).2 i s af)
      | false=>have:=Cr oE; omega
    ·subst af;rcases Ej k au with ⟨bh,b7⟩ | ⟨bh,b7⟩
     ·have heq:j.2=t.cf:=heq;have aK:0<j.2:=aK;cases oE:x.Lit with
      | true=>exact absurd heq.symm ((JB oE).2 k t b7)
      | false=>have:=Cr oE; omega
     ·omega
   ·have Wf:(m.eb++[x.Lit])[i]?=if i=m.ba.br.length then some x.Lit else m.eb[i]?:=by
     by_cases e:i=m.ba.br.length
     ·rw [if_pos e,e,<- JI,List.getElem?_append_right (Nat.le_refl _)]; simp
     ·have:=(List.getElem?_eq_some_iff.1 au).1;simp at this;rw [if_neg e,List.getElem?_append_left (by omega)]
    show ((m.eb++[x.Lit])[i]?=some true->0<t.cf)/\((m.eb++[x.Lit])[i]?=some false->t.cf=0);rw [Wf];rcases Ej i au with ⟨h1,af⟩ | ⟨h1,af⟩
    ·rw [if_neg (by omega)];exact ar.gq i t hi af
    ·rw [if_pos h1];subst af;exact ⟨λh=>(JB (Option.some.inj h)).1,λh=>Cr (Option.some.inj h)⟩
  ·right;show 3<=aG (((m.ba.br++[_]).length:Int) - 1);simp only [List.length_append,List.length_cons,List.length_nil];rw [cC]; omega
theorem C6 {α:Type}{l:List α}{i:Int}{y:α}(h:idx l i=some y):y∈l:=List.mem_of_getElem? (vU h).2.2
theorem e9.GZ {m:fe}(h:e9 m) {k:Nat}{t t':b5}(hk:m.ba.br[k]?=some t) (hu:t'.cf=t.cf):zi (m.ba.br.set k t') m.eb/\(m.eK=0->tV (m.ba.br.set k t') m.eb) :=
 ⟨h.a.set hk (by rw [hu]; exact h.a.le t (List.mem_of_getElem? hk)) rfl,λe=>(h.b e).GZ hk hu⟩
theorem e9.IQ {m m':fe}(h:e9 m) (ax:r7 m m'/\m'.eK≠0):e9 (⟨(⟨m.ba.br,m'.ba.dE,m'.ba.bu,m'.ba.hl,m'.ba.j7⟩:bD),m'.eb,m'.fx,m'.dw,m'.eK,m'.kn,m'.ko,m'.fg,m'.dc⟩:fe) :=
 ⟨by show zi m.ba.br m'.eb; rw [ax.1.gq]; exact h.a,λe=>absurd e ax.2⟩
theorem Zz (m:fe) (d:Decl) (x:Sym) (hm:e9 m) (J:kj x):Par (wa m d x) e9:=by
 unfold wa;refine Par.bN (λ_=>?_) (λ_=>?_)
 ·refine .aA (Ξ:=λ_=>True) (λ_ _=>trivial) λk _=>.aA (Ξ:=e9) ?_ λm' hm=>.al hm;refine Par.bs (λ_=>Par.ap λ_=>.al ⟨hm.a,hm.b⟩) (λ_=>?_);refine .go λy _=>.aA (Ξ:=e9) (Par.bN (λ_=>.aA (tz m _ _) λm' h=>.al (hm.fail h)) (λ_=>.al hm)) λm' hm=>.al hm
 ·refine .aA (Qo m x hm J) λr hr=>?_;obtain ⟨hr,i'⟩:=hr;refine .go λy ao=>?_;refine .aA (Ξ:=e9) ?_ λha pK=>?_
  ·refine Par.bN (λ_=>?_) (λ_=>.al hr);refine .aA (Ξ:=e9) (Par.bN (λ_=>.aA (tz r.2 _ _) λm' h=>.al (hr.IQ h)) (λ_=>.al hr)) λfX xc=>?_;refine .go λz aX=>?_;obtain ⟨_,_,aX⟩:=vU aX;rw [List.set_set];obtain ⟨h1,af⟩:=xc.GZ (t':=(⟨z.Name,z.Lit,z.cf,fX.fg,aG (d.Kind - 1),z.Tag⟩:b5)) aX rfl;exact .al ⟨h1,af⟩
  refine .go λy _=>?_;refine .aA (Ξ:=e9) ?_ λiM vt=>?_
  ·refine Par.bs (λpU=>?_) (λ_=>.al pK);refine .aA (Ξ:=λc:Bool=>c=false->r.1≠1/\∀ (i:Nat) (t:b5),3<=i->ha.ba.br[i]?=some t->t.cf≠x.cf) ?_ λc aa=>?_
   ·refine Par.bs (λ_=>.al λh=>by cases h) (λh1=>.go λgq _=>Par.bN (λ_=>.al λh=>by cases h) (λ_=>.aA (Qp ha x.cf pK.a.lo pK.a.hi) λo aW=>.al λh=>⟨h1,aW (by have:=of_decide_eq_false h; omega)⟩))
   refine .aA (Ξ:=λj=>e9 j/\(j.eK=0->r.1≠1/\∀ (i:Nat) (t:b5),3<=i->j.ba.br[i]?=some t->t.cf≠x.cf)) (Par.bN (λ_=>.aA (tz ha _ _) λm' h=>.al ⟨pK.IQ h,λe=>absurd e h.2⟩) (λh=>.al ⟨pK,λ_=>aa h⟩)) λhY vu=>?_;obtain ⟨vu,aB⟩:=vu;refine .go λz aX=>.go λgq sm=>.al ?_;obtain ⟨aK,aN,aX⟩:=vU aX;obtain ⟨_,XH,sm⟩:=vU sm;have hle:=J.num;refine ⟨vu.a.set (t':=(⟨z.Name,z.Lit,x.cf,z.Level,z.ji,z.Tag⟩:b5)) aX hle.2 (by simp),λe=>?_⟩;obtain ⟨aF,bh⟩:=aB e;have ar:=vu.b e;refine ar.aaH (t':=(⟨z.Name,z.Lit,x.cf,z.Level,z.ji,z.Tag⟩:b5)) aX (by omega) XH pU λi t au=>?_;by_cases aet:3<=i
   ·grind
   ·have:=ar.aR i t (by omega) au
    grind
  refine .go λy _=>.aA (Ξ:=e9) ?_ λj ag=>.al ag;refine Par.bN (λ_=>?_) (λ_=>.al vt);refine .aA (Ξ:=λ_=>True) (λ_ _=>trivial) λc _=>?_;refine .aA (Ξ:=e9) (Par.bN (λ_=>.aA (tz iM _ _) λm' h=>.al (vt.IQ h)) (λ_=>.al vt)) λnH Fq=>?_;refine .go λz aX=>?_;obtain ⟨_,_,aX⟩:=vU aX;obtain ⟨h1,af⟩:=Fq.GZ (t':=(⟨z.Name,z.Lit,z.cf,z.Level,z.ji,d.Tag⟩:b5)) aX rfl;exact .al ⟨h1,af⟩
theorem Qq (m:fe) (x:Sym) (hm:e9 m) (J:kj x):Par (tB m x) λr=>e9 r.2:=by
 unfold tB;refine Par.bN (λ_=>.aA (Qo m x hm J) λr hr=>.al hr.1) (λ_=>.aA (Ξ:=λ_=>True) (λ_ _=>trivial) λk _=>Par.bN (λ_=>.al hm) (λ_=>.aA (Ξ:=λ_=>True) (λ_ _=>trivial) λt _=>Par.bN (λ_=>.aA (tz m _ _) λm' h=>.al (hm.fail h)) (λ_=>.al hm)))
theorem ZB (m:fe) (left:ByteArray) (a:Alt) (hm:e9 m) (aJ:(∀ p∈a.Parts,kj p.Sym)/\kj a.Prec):Par (wb m left a) e9:=by
 unfold wb;refine .aA (Ξ:=λ_=>True) (λ_ _=>trivial) λaS _=>?_;refine .aA (Ξ:=λr:fe × List Int × ByteArray × Int=>e9 r.1) ?_ λa8 aF=>?_
 ·refine Par.loop (λs=>e9 s.1) hm λs ax=>?_;obtain ⟨m1,rt,bN,at_,i⟩:=s;simp only at ax ⊢;refine Par.bs (λaN=>?_) (λ_=>.al ax);refine .aA (Ξ:=λj:fe × List Int × ByteArray × Int=>e9 j.1) ?_ λj ag=>.al ag;refine .go λy ao=>.aA (Ξ:=λj:fe × List Int × ByteArray × Int=>e9 j.1) ?_ λj ag=>.al ag;have Kt:=(C6 ao);refine .aA (Ξ:=λj:fe × List Int × ByteArray × Int=>e9 j.1) ?_ λj ag=>.al ag;refine Par.bN (λ_=>?_) (λ_=>?_)
  ·exact .aA (Qq m1 y.Sym ax (aJ.1 y Kt)) λr hr=>Par.ap λ_=>.al hr
  ·exact .aA (Ξ:=λ_=>True) (λ_ _=>trivial) λj _=>.al ⟨ax.a,ax.b⟩
 ·refine .aA (Ξ:=λ_=>True) (λ_ _=>trivial) λgC _=>?_;refine .aA (Ξ:=λj:fe × Int=>e9 j.1) ?_ λj ag=>Par.ap λ_=>Par.ap λ_=>.al ⟨ag.a,ag.b⟩;refine Par.bN (λ_=>?_) (λ_=>.al aF);refine .aA (Ξ:=λ_=>True) (λ_ _=>trivial) λc _=>.aA (Ξ:=λj:fe × Int=>e9 j.1) ?_ λj ag=>.al ag;exact Par.bN (λ_=>.aA (Qq a8.1 a.Prec aF aJ.2) λr hr=>.al hr) (λ_=>.aA (tz a8.1 _ _) λm' h=>.al (aF.fail h))
structure vb (g:bD):Prop where
 aR:∀ (i:Nat) (t:b5),i<3->g.br[i]?=some t->t.cf<=0
 pos:∀ (i:Nat) (t:b5),3<=i->g.br[i]?=some t->0<t.cf/\t.cf<=100000
 un:∀ (i j:Nat) (s t:b5),g.br[i]?=some s->g.br[j]?=some t->0<s.cf->s.cf=t.cf->i=j
theorem Zx (s:Source) (ar:ve s):Par (v' s) λr=>r.2.1=0->vb r.1:=by
 have Xh:=ar.qo;have CL:=ar.aD;unfold v';refine .aA (Zy s ar) λc aa=>Par.bN (λ_=>.al λh=>absurd h (by decide)) (λkt=>?_);have ok:Mx s:=aa (by simpa using kt);refine .aA (Ξ:=λl=>l=List.replicate 3 false) (λa e=>by unfold oO at e; split at e <;> cases e; rfl) λa8 hg=>?_;subst hg
 -- declarations
 refine .aA (Ξ:=λr:fe × ByteArray=>e9 r.1) ?_ λbV b7=>?_
 ·refine Par.loop (λz=>e9 z.1) ⟨⟨rfl,Nat.le_refl 3,by show 3<=lim; unfold lim; omega,λt au=>?_⟩,λ_=>⟨λi t hi au=>?_,λi j a b aJ ar aK he=>?_,λi t hi au=>?_⟩⟩ λz aX=>?_
  ·have au:t∈[_,_,_]:=au;simp only [List.mem_cons,List.not_mem_nil,or_false] at au;rcases au with rfl | rfl | rfl <;> decide
  ·have au:t∈[_,_,_]:=List.mem_of_getElem? au;simp only [List.mem_cons,List.not_mem_nil,or_false] at au;rcases au with rfl | rfl | rfl <;> decide
  ·have aJ:a∈[_,_,_]:=List.mem_of_getElem? aJ;simp only [List.mem_cons,List.not_mem_nil,or_false] at aJ;rcases aJ with rfl | rfl | rfl <;> exact absurd aK (by decide)
  ·have:=(List.getElem?_eq_some_iff.1 au).1;have:i<3:=this;omega
  ·obtain ⟨m,st,i⟩:=z;have hm:=aX;simp only at hm ⊢;refine Par.bs (λaN=>?_) (λ_=>.al hm);refine .go λd aR=>?_;have lh:=C6 aR;refine .aA (Ξ:=λ_=>True) (λ_ _=>trivial) λ_ _=>.aA (Ξ:=λ_=>True) (λ_ _=>trivial) λjc _=>?_;refine .aA (Ξ:=λr:fe × ByteArray=>e9 r.1) ?_ λr hr=>.al hr;refine Par.loop (λz=>e9 z.1) ⟨hm.a,hm.b⟩ λz aX=>?_;obtain ⟨m,st,k⟩:=z;have hm:=aX;simp only at hm ⊢;have Cq:=(ar.decls d lh).n;refine Par.bs (λxx=>?_) (λ_=>.al hm);refine .aA (Ξ:=λr:fe × ByteArray=>e9 r.1) ?_ λr hr=>.al hr;refine Par.bN (λ_=>.go λx J=>?_) (λ_=>?_)
   ·have C3:=C6 J;exact .aA (Zz m d x hm (ok.decls d lh x C3)) λm' hW=>.al hW
   ·refine .aA (Ξ:=e9) (Par.bN (λ_=>.go λ_ _=>.go λ_ _=>.aA (tz m _ _) λm' h=>.al (hm.fail h)) (λ_=>.al hm)) λm' hW=>.go λ_ _=>.al hW
 -- what stands on the left
 refine .aA (Ξ:=e9) ?_ λgD I4=>?_
 ·refine Par.loop (λz=>e9 z.1) b7 λz aX=>?_;obtain ⟨m,i⟩:=z;have hm:=aX;simp only at hm ⊢;refine Par.bs (λaN=>?_) (λ_=>.al hm);refine .aA (Ξ:=e9) ?_ λr hr=>.al hr;refine .go λr hr=>.aA (Ξ:=λ_=>True) (λ_ _=>trivial) λ_ _=>?_;refine .aA (Ξ:=e9) (Par.bN (λ_=>.aA (tz m _ _) λm' h=>.al (hm.fail h)) (λ_=>.al hm)) λmZ rj=>?_;refine .aA (Ξ:=λ_=>True) (λ_ _=>trivial) λ_ _=>?_;exact .aA (Ξ:=λ_=>True) (λ_ _=>trivial) λl _=>.al ⟨rj.a,rj.b⟩
 -- types and starts
 refine .aA (Ξ:=e9) ?_ λhI vv=>?_
 ·refine Par.loop (λz=>e9 z.1) I4 λz hm=>?_;obtain ⟨m,i⟩:=z;simp only at hm ⊢;refine Par.bs (λaN=>?_) (λ_=>.al hm);refine .aA (Ξ:=e9) ?_ λr hr=>.al hr;refine Par.loop (λz=>e9 z.1) hm λz hm=>?_;obtain ⟨m,k⟩:=z;simp only at hm ⊢;refine .go λd _=>Par.bs (λaN=>?_) (λ_=>.al hm);refine .aA (Ξ:=e9) ?_ λr hr=>.al hr;refine .go λ_ _=>.go λ_ _=>.aA (Ξ:=λ_=>True) (λ_ _=>trivial) λ_ _=>?_;exact .aA (Ξ:=e9) (Par.bN (λ_=>.aA (tz m _ _) λm' h=>.al (hm.fail h)) (λ_=>.al hm)) λm' hW=>.al hW
 refine .aA (Ξ:=λ_=>True) (λ_ _=>trivial) λxW _=>.aA (Ξ:=λ_=>True) (λ_ _=>trivial) λmB _=>?_
 -- the alternatives
 refine .aA (Ξ:=e9) ?_ λcn pL=>?_
 ·refine Par.loop (λz=>e9 z.1) ⟨vv.a,vv.b⟩ λz aX=>?_;obtain ⟨m,i⟩:=z;have hm:=aX;simp only at hm ⊢;refine Par.bs (λaN=>?_) (λ_=>.al hm);refine .aA (Ξ:=e9) ?_ λr hr=>.al hr;refine Par.loop (λz=>e9 z.1) hm λz aX=>?_;obtain ⟨m,k⟩:=z;have hm:=aX;simp only at hm ⊢;refine .go λd aR=>Par.bs (λxx=>?_) (λ_=>.al hm);have lh:=C6 aR;refine .go λd1 FB=>.go λd2 zL=>.go λa aJ=>?_;rw [aR] at FB zL;cases FB; cases zL;have WG:=C6 aJ;exact .aA (ZB m d.Left a hm (ok.rules d lh a WG)) λm' hW=>.al hW
 refine Par.pF (λh=>.al λaI=>absurd aI h) (λhe=>?_);have Kc:=pL.b he;refine .aA (Ξ:=λ_=>True) (λ_ _=>trivial) λwF _=>.aA (Ξ:=λ_=>True) (λ_ _=>trivial) λlI _=>?_
 -- numbers
 have cV:=pL.a;have Cx:cn.ba.br.length<=1000000000000000:=by have:=cV.hi; unfold lim at this; omega
 refine .aA (Ξ:=λl:List b5=>∃ (i next:Int),l.length=cn.ba.br.length/\(l.length:Int)<=i/\(∀ (j:Nat) (t:b5),l[j]?=some t->∃ t0,cn.ba.br[j]?=some t0/\((t.cf=t0.cf/\(¬ (3<=j/\(j:Int)<i)\/cn.eb[j]?=some true))\/(57346<=t.cf/\t.cf<next/\3<=j/\(j:Int)<i)))/\(∀ (j k:Nat) (s t:b5),l[j]?=some s->l[k]?=some t->57346<=s.cf->s.cf=t.cf->j=k)/\57346<=next/\next<=57343+i/\i<=l.length) ?_ λmC N5=>?_
 ·refine Par.loop (λz=>z.1.length=cn.ba.br.length/\(∀ (j:Nat) (t:b5),z.1[j]?=some t->∃ t0,cn.ba.br[j]?=some t0/\((t.cf=t0.cf/\(¬ (3<=j/\(j:Int)<z.2.2)\/cn.eb[j]?=some true))\/(57346<=t.cf/\t.cf<z.2.1/\3<=j/\(j:Int)<z.2.2)))/\(∀ (j k:Nat) (s t:b5),z.1[j]?=some s->z.1[k]?=some t->57346<=s.cf->s.cf=t.cf->j=k)/\57346<=z.2.1/\z.2.1<=57343+z.2.2/\3<=z.2.2/\z.2.2<=z.1.length) ⟨rfl,λj t au=>⟨t,au,.inl ⟨rfl,.inl (by show ¬ (3<=j/\(j:Int)<3); omega)⟩⟩,λj k s t ax au aK he=>?_,by show (57346:Int)<=57346; decide,by show (57346:Int)<=57343+3; decide,Int.le_refl 3,by have:=cV.lo; show (3:Int)<=(cn.ba.br.length:Nat); omega⟩ λz aX=>?_
  ·have:=cV.le s (List.mem_of_getElem? ax); omega
  obtain ⟨l,next,i⟩:=z;obtain ⟨ah,eY,rk,mm,xz,Xr,uw⟩:=aX;simp only at ah eY rk mm xz Xr uw ⊢;have hw:aG (i+1)=i+1:=by rw [cC]; omega
  have Yj:aG (next+1)=next+1:=by rw [cC]; omega
  rw [hw,Yj];refine Par.bs (λaN=>?_) (λdH=>.al ⟨i,next,ah,by omega,eY,rk,mm,xz,uw⟩);have FC:i.toNat<l.length:=by omega
  refine .aA (Ξ:=λj:List b5 × Int=>j.1.length=cn.ba.br.length/\(∀ (k:Nat) (t:b5),j.1[k]?=some t->∃ t0,cn.ba.br[k]?=some t0/\((t.cf=t0.cf/\(¬ (3<=k/\(k:Int)<i+1)\/cn.eb[k]?=some true))\/(57346<=t.cf/\t.cf<j.2/\3<=k/\(k:Int)<i+1)))/\(∀ (a k:Nat) (s t:b5),j.1[a]?=some s->j.1[k]?=some t->57346<=s.cf->s.cf=t.cf->a=k)/\57346<=j.2/\j.2<=57343+(i+1)) ?_ λj ag=>.al ⟨ag.1,ag.2.1,ag.2.2.1,ag.2.2.2.1,ag.2.2.2.2,by show 3<=i+1; omega,by show i+1<=(j.1.length:Nat); rw [ag.1,<- ah]; omega⟩;refine .go λgq sm=>.aA (Ξ:=λj:List b5 × Int=>j.1.length=cn.ba.br.length/\(∀ (k:Nat) (t:b5),j.1[k]?=some t->∃ t0,cn.ba.br[k]?=some t0/\((t.cf=t0.cf/\(¬ (3<=k/\(k:Int)<i+1)\/cn.eb[k]?=some true))\/(57346<=t.cf/\t.cf<j.2/\3<=k/\(k:Int)<i+1)))/\(∀ (a k:Nat) (s t:b5),j.1[a]?=some s->j.1[k]?=some t->57346<=s.cf->s.cf=t.cf->a=k)/\57346<=j.2/\j.2<=57343+(i+1)) ?_ λj ag=>.al ag;obtain ⟨_,_,sm⟩:=vU sm;refine Par.bN (λaQ=>.go λy ao=>.al ?_) (λaQ=>.al ⟨ah,λk t au=>?_,rk,mm,by omega⟩)
  ·obtain ⟨_,_,ao⟩:=vU ao;obtain ⟨t0,ga,eI⟩:=eY _ y ao;have ae_:y.cf<next:=by
    rcases eI with ⟨eI,_⟩ | eI
    ·have:=cV.le t0 (List.mem_of_getElem? ga); omega
    ·exact eI.2.1
   have ml:∀ (k:Nat) (t:b5),l[k]?=some t->t.cf<next:=λk t au=>by
    obtain ⟨t1,f0,f3⟩:=eY k t au;rcases f3 with ⟨f3,_⟩ | f3
    ·have:=cV.le t1 (List.mem_of_getElem? f0); omega
    ·exact f3.2.1
   refine ⟨by show (l.set _ _).length=_; rw [List.length_set]; exact ah,λk t au=>?_,λa k s t ax au aK he=>?_,by show 57346<=next+1; omega,by show next+1<=_; omega⟩
   ·have au:(l.set i.toNat _)[k]?=some t:=au;rw [p6 FC] at au;by_cases e:k=i.toNat
    ·rw [if_pos e] at au;cases au;subst e;exact ⟨t0,ga,.inr ⟨mm,by show next<next+1; omega,by omega,by omega⟩⟩
    ·rw [if_neg e] at au;obtain ⟨t1,f0,f3⟩:=eY k t au;refine ⟨t1,f0,?_⟩;rcases f3 with ⟨f3,f4⟩ | f3
     ·exact .inl ⟨f3,f4.imp (λh=>by omega) id⟩
     ·exact .inr ⟨f3.1,by show t.cf<next+1; omega,f3.2.2.1,by omega⟩
   ·have ax:(l.set i.toNat _)[a]?=some s:=ax;have au:(l.set i.toNat _)[k]?=some t:=au;rw [p6 FC] at ax au;by_cases e:a=i.toNat
    ·rw [if_pos e] at ax;cases ax;by_cases b4:k=i.toNat
     ·omega
     ·rw [if_neg b4] at au;have h1:=ml k t au;have he:next=t.cf:=he;omega
    ·rw [if_neg e] at ax;by_cases b4:k=i.toNat
     ·rw [if_pos b4] at au;cases au;have h1:=ml a s ax;have he:s.cf=next:=he;omega
     ·rw [if_neg b4] at au;exact rk a k s t ax au aK he
  ·obtain ⟨t1,f0,f3⟩:=eY k t au;refine ⟨t1,f0,?_⟩;rcases f3 with ⟨f3,f4⟩ | f3
   ·by_cases e:k=i.toNat
    ·refine .inl ⟨f3,.inr ?_⟩;rw [e,sm];simpa using aQ
    ·exact .inl ⟨f3,f4.imp (λh=>by omega) id⟩
   ·exact .inr ⟨f3.1,f3.2.1,f3.2.2.1,by omega⟩
 -- limits
 refine .aA (Ξ:=λc=>c=false->mC.length<=40) ?_ λvl I1=>?_
 ·exact Par.bs (λ_=>.al λh=>by cases h) (λh1=>λ_ _ _=>by omega)
 refine .aA (Ξ:=λc=>c=false->vl=false) ?_ λA8 I2=>?_
 ·refine Par.loop (λz=>z.1=false->vl=false) id λz aX=>?_;refine Par.bN (λ_=>?_) (λ_=>.al aX);exact .aA (Ξ:=λc=>c=false->vl=false) (Par.bN (λ_=>.al λh=>by cases h) (λh=>.go λ_ _=>.al λ_=>aX h)) λc aa=>.al aa
 refine Par.bN (λ_=>.al λh=>absurd h (by decide)) (λaa=>.al λ_=>?_);have gK:=I1 (I2 aa);obtain ⟨i,next,ah,dH,eY,rk,mm,xz,uw⟩:=N5;refine ⟨λj t ag au=>?_,λj t ag au=>?_,λj k s t ax au aK Cr=>?_⟩
 ·obtain ⟨t0,ga,eI⟩:=eY j t au;rcases eI with ⟨eI,_⟩ | eI
  ·rw [eI]; exact Kc.aR j t0 ag ga
  ·omega
 ·have ez:j<mC.length:=(List.getElem?_eq_some_iff.1 au).1;obtain ⟨t0,ga,eI⟩:=eY j t au;rcases eI with ⟨eI,k_⟩ | eI
  ·rcases k_ with k_ | k_
   ·omega
   ·have h1:=(Kc.gq j t0 ag ga).1 k_;have af:=cV.le t0 (List.mem_of_getElem? ga);omega
  ·omega
 ·by_cases VU:57346<=s.cf
  ·exact rk j k s t ax au VU Cr
  ·obtain ⟨e6,ga,eI⟩:=eY j s ax;obtain ⟨t0,f0,f3⟩:=eY k t au;rcases eI with ⟨eI,_⟩ | eI
   ·rcases f3 with ⟨f3,_⟩ | f3
    ·exact Kc.un j k e6 t0 ga f0 (by omega) (by omega)
    ·omega
   ·omega
def sH (a b:cH):Bool:=decide (a.At<b.At)||(decide (a.At=b.At)&&decide (a.cc<b.cc))
theorem Gc {a b:cH}:sH a b=true↔(a.At<b.At\/(a.At=b.At/\a.cc<b.cc)):=by simp [sH]
theorem KY {a b:cH}:sH a b=false↔¬ (a.At<b.At\/(a.At=b.At/\a.cc<b.cc)):=by
 rw [<- Gc]; simp
theorem Qk:Ord sH where
 swo:=⟨λx=>by rw [KY]; omega,λx y z h1 af=>by rw [Gc] at *; omega,λx y z h1 af=>by rw [KY] at *; omega⟩
 jB x y h1 af:=by
  rw [KY] at h1 af;obtain ⟨aS,x2⟩:=x;obtain ⟨bz,y2⟩:=y;simp only at h1 af;have:aS=bz:=by omega
  have:x2=y2:=by omega
  subst_vars; rfl
theorem Td {α:Type} [DecidableEq α] {lt:α->α->Bool}(h:Ord lt) {l:List α}(aB:l.Nodup):fc lt (h_ lt l):=by
 have h1:=F1 h.swo l;have af:(h_ lt l).Nodup:=(tu lt l).nodup_iff.2 aB;refine List.Pairwise.imp (λ{a b} Cf=>?_) (h1.and af);cases bQ:lt a b with
 | true=>rfl
 | false=>exact absurd (h.jB _ _ bQ (by simpa using Cf.1)) Cf.2
def tQ (T:List b5) (p:cH):Prop:=∃ (k:Nat) (t:b5),T[k]?=some t/\0<t.cf/\p=⟨t.cf,(k:Int)⟩
theorem tQ.val {T:List b5}{p:cH}(h:tQ T p):∃ (k:Nat) (t:b5),T[k]?=some t/\p.cc=(k:Int)/\p.At=t.cf/\0<t.cf:=by
 obtain ⟨k,t,h1,af,rfl⟩:=h;exact ⟨k,t,h1,rfl,rfl,af⟩
theorem Ic (a b:Int):∃ v,tC a b=some v/\(v<0↔a<b)/\(v=0↔a=b):=by
 have e:∀ a,wk a=some false:=λa=>by simp [wk]
 unfold tC;simp only [e,Option.bind_some,cond_false];by_cases h1:a<b
 ·exact ⟨-1,by simp [h1],by omega,by omega⟩
 ·by_cases af:b<a
  ·exact ⟨1,by simp [h1,af],by omega,by omega⟩
  ·exact ⟨0,by simp [h1,af],by omega,by omega⟩
theorem BG (g:bD) (aQ:vb g) (ah:g.br.length<=1000):Tot (AK g) λl=>fc sH l/\l.length<=1000/\∀ p,p∈l↔tQ g.br p:=by
 unfold AK;refine .aA (Ξ:=λl:List cH=>(l.length<=1000/\∀ p,p∈l↔tQ g.br p)/\l.Pairwise λa b=>a.cc<b.cc) ?_ λl ah=>?_
 ·refine Tot.upto (λs=>s.2) g.br.length (λk s=>(s.1.length<=k/\∀ p,p∈s.1↔(tQ g.br p/\p.cc<(k:Int)))/\s.1.Pairwise λa b=>a.cc<b.cc) rfl (by omega) ⟨⟨Nat.le_refl 0,λp=>⟨λh=>(by cases h),λh=>by obtain ⟨k,t,_,e,_⟩:=h.1.val; omega⟩⟩,.nil⟩ λk s hk he bf=>?_;obtain ⟨l,i⟩:=s;obtain ⟨⟨h1,af⟩,b7⟩:=bf;simp only at he h1 af b7 ⊢;subst he;rw [et k (by omega)];refine Tot.bs (λaN=>?_) (λdH=>.al ⟨⟨by omega,λp=>(af p).trans ⟨λh=>h.1,λh=>⟨h,?_⟩⟩⟩,b7⟩)
  ·have aN:k<g.br.length:=by omega
   rw [dR aN];have mS:g.br[k]?=some g.br[k]:=List.getElem?_eq_getElem aN;refine .aA (Ξ:=λo:List cH=>(o.length<=k+1/\∀ p,p∈o↔(tQ g.br p/\p.cc<((k+1:Nat):Int)))/\o.Pairwise λa b=>a.cc<b.cc) ?_ λo aW=>.al ⟨aN,rfl,aW⟩;simp only [Option.bind_some];refine .aA (Ξ:=λo:List cH=>(o.length<=k+1/\∀ p,p∈o↔(tQ g.br p/\p.cc<((k+1:Nat):Int)))/\o.Pairwise λa b=>a.cc<b.cc) ?_ λo aW=>.al aW;refine Tot.bs (λaq=>.bK<|.al ⟨⟨by simp; omega,λp=>?_⟩,?_⟩) (λaq=>.al ⟨⟨by omega,λp=>?_⟩,b7⟩)
   ·rw [List.mem_append,List.mem_singleton,af];constructor
    ·rintro (h | rfl)
     ·exact ⟨h.1,by omega⟩
     ·exact ⟨⟨k,_,mS,aq,rfl⟩,by show (k:Int)<((k+1:Nat):Int); omega⟩
    ·rintro ⟨h,hv⟩;obtain ⟨j,t,aF,bh,rfl⟩:=h;simp only at hv;by_cases e:j=k
     ·subst e;rw [mS] at aF; cases aF;exact .inr rfl
     ·exact .inl ⟨⟨j,t,aF,bh,rfl⟩,by show (j:Int)<k; omega⟩
   ·refine List.pairwise_append.2 ⟨b7,List.pairwise_singleton ..,λa aJ b ar=>?_⟩;rw [List.mem_singleton.1 ar];exact ((af a).1 aJ).2
   ·rw [af];constructor
    ·rintro ⟨h,hv⟩;exact ⟨h,by omega⟩
    ·rintro ⟨h,hv⟩;obtain ⟨j,t,aF,bh,rfl⟩:=h;simp only at hv;refine ⟨⟨j,t,aF,bh,rfl⟩,?_⟩;show (j:Int)<k;by_cases e:j=k
     ·subst e;rw [mS] at aF; cases aF;exact absurd bh aq
     ·omega
  ·obtain ⟨j,t,aF,_,rfl⟩:=h;have:=(List.getElem?_eq_some_iff.1 aF).1;show (j:Int)<k;omega
 ·obtain ⟨ah,J9⟩:=ah;have ax:p7 (λa b=>DT a b) l=some (h_ sH l):=by
   refine aaY Qk (λa aJ b ar=>?_) (by omega);obtain ⟨v,hv,h1,af⟩:=Ic a.At b.At;refine ⟨v,by unfold DT; rw [hv]; rfl,h1.trans ?_⟩;rw [Gc];constructor
   ·exact .inl
   ·rintro (h | ⟨h,aI⟩)
    ·exact h
    ·exfalso;obtain ⟨i,s,ca,b6,rfl⟩:=(ah.2 a).1 aJ;obtain ⟨j,t,eI,k_,rfl⟩:=(ah.2 b).1 ar;simp only at h aI;have:=aQ.un i j s t ca eI b6 h;omega
  rw [ax];refine .al ⟨Td Qk (J9.imp λ{a b} h e=>by subst e; omega),by rw [(tu sH l).length_eq]; exact ah.1,λp=>((tu sH l).mem_iff).trans (ah.2 p)⟩
theorem abN:DZ=some true:=by kernel_rfl
end Go.Proofs
namespace Go.Proofs
open Go Go.Own Go.Sort
set_option maxRecDepth 100000
theorem QA {α:Type}(keep:α->Bool) (val:α->Int) {l:List α}(ah:l.length<=1000):lN (jZ keep val l):=by
 refine ⟨λp aq=>?_,?_⟩
 all_goals grind [K1,ZZ]
theorem zv (l:List Row) (ah:l.length<=200) (hr:∀ r∈l,lN r.hd/\r.hd.length<=1000):Tot (yq l) λr=>r.1=l.map (·.Def)/\∀ a n,rN r.2 a n=some (ri (l.map (·.hd)) a n):=by
 unfold yq;refine .aA (Ξ:=λs:List Int × List (List cH)=>s.1=l.map (·.Def)/\s.2=l.map (·.hd)) ?_ λs ax=>?_
 ·refine Tot.upto (λs=>s.2.2) l.length (λk s=>s.1=(l.take k).map (·.Def)/\s.2.1=(l.take k).map (·.hd)) rfl (by omega) ⟨rfl,rfl⟩ λk s hk he bf=>?_;obtain ⟨A,B,i⟩:=s;obtain ⟨h1,af⟩:=bf;simp only at he h1 af ⊢;subst he h1 af;rw [et k (by omega)];refine Tot.bs (λaN=>?_) (λdH=>.al ?_)
  ·have aN:k<l.length:=by omega
   rw [dR aN];refine Tot.aT (.bK<|.bK<|.al ⟨aN,rfl,?_,?_⟩)
   all_goals grind [l9]
  grind
 ·obtain ⟨h1,af⟩:=ax;rw [af];have c7:qf (l.map (·.hd)):=⟨by simp; omega,λr dI=>by
   grind⟩
  have eY:EU (l.map (·.hd)):=⟨by simp; omega,λr dI=>by
   grind⟩
  refine .aA (TY _ eY) λc aa=>.al ⟨h1,λa n=>?_⟩;obtain ⟨hN,o,hO,fM⟩:=aa.2 c7;exact VE c7 hO fM (fM.inv c7 (List.pairwise_reverse.2 hO.D5)) hN a n
structure wK (g:bD) (d:hc) (t:Tables):Prop where
 Np:t.Def=d.cA.map λr=>hx (red r)
 gd:t.jC=(List.range g.dE.length).map λa=>hx (pos (f' d a))
 ac:∀ a n,rN t.cA a n=some (ri (d.cA.map λr=>(sL r).hd) a n)
 go:∀ a n,rN t.ej a n=some (ri ((List.range g.dE.length).map λa=>(qQ (f' d a)).hd) a n)
 le:t.Left=g.bu.map (·.Left)
 jW:t.kD=g.bu.map λp=>(p.dF.length:Int)
 Zg:fc sH t.jl/\t.jl.length<=1000/\∀ p,p∈t.jl↔tQ g.br p
theorem qn (g:bD) (n:Nat) (d:hc) (aR:yZ g n d) (hk:vb g):Tot (ym g d) (wK g d):=by
 have aQ:=aR.pJ;have au:=aQ.lq;have rp:=aQ.eZ;have sr:=aQ.jA;have mm:=aR.gP;have vz:=aR.a;have CD:=aR.o;unfold ym;refine .aA (TS g n d aR) λaS h1=>?_;subst h1;refine .aA (zv _ (by simp; omega) λr hr=>?_) λx2 af=>.aA (TT g n d aR) λa8 aF=>?_
 ·obtain ⟨q,a_,rfl⟩:=List.mem_map.1 hr;have ah:=(aR.k6 q a_).1;have:=A0 (oM (hx (red q))) o3 q;exact ⟨QA _ _ (by omega),by show (jZ _ _ q).length<=_; omega⟩
 subst aF;refine .aA (zv _ (by simp; omega) λr hr=>?_) λbk bh=>?_
 ·obtain ⟨a,_,rfl⟩:=List.mem_map.1 hr;have ah:=BL d a;have:=A0 (pe (hx (pos (f' d a)))) id (f' d a);exact ⟨QA _ _ (by omega),by show (jZ _ _ (f' d a)).length<=_; omega⟩
 refine .aA (Ξ:=λs:List Int × List Int=>s.1=g.bu.map (·.Left)/\s.2=g.bu.map λp=>(p.dF.length:Int)) ?_ λbA dp=>.aA (BG g hk (by omega)) λdL pK=>.al ?_
 ·refine Tot.upto (λs=>s.2.2) g.bu.length (λk s=>s.1=(g.bu.take k).map (·.Left)/\s.2.1=(g.bu.take k).map λp=>(p.dF.length:Int)) rfl (by omega) ⟨rfl,rfl⟩ λk s JS he bf=>?_;obtain ⟨A,B,i⟩:=s;obtain ⟨h1,af⟩:=bf;simp only at he h1 af ⊢;subst he h1 af;rw [et k (by omega)];refine Tot.bs (λaN=>?_) (λdH=>.al ?_)
  ·have aN:k<g.bu.length:=by omega
   rw [dR aN];refine Tot.aT (.bK<|.bK<|.al ⟨aN,rfl,?_,?_⟩)
   all_goals grind [l9]
  grind
 ·refine ⟨?_,?_,λa m=>?_,λa m=>?_,dp.1,dp.2,pK⟩
  ·show x2.1=_;rw [af.1,List.map_map];rfl
  ·show bk.1=_;rw [bh.1,List.map_map];rfl
  ·show rN x2.2 a m=_;rw [af.2,List.map_map];rfl
  ·show rN bk.2 a m=_;rw [bh.2,List.map_map];rfl
theorem get_at {α:Type}{keep:α->Bool}{val:α->Int}{l:List α}{k:Nat}{x:α}(ah:l.length<=1000) (hk:l[k]?=some x):k' (jZ keep val l) (k:Int)=if keep x=true then (val x,true) else (0,false):=by
 have h1:=VG (keep:=keep) (val:=val) (by omega) hk
 grind [VD,A0]
theorem VF {α:Type}{keep:α->Bool}{val:α->Int}{l:List α}{i:Int}(h:i<0\/(l.length:Int)<=i):k' (jZ keep val l) i=(0,false):=by
 grind [get_none,K1]
def D8 (r:List Act) (k:Int):Option Act:=if (k' (sL r).hd k).2=true then yg (k' (sL r).hd k).1 else some (if hx (red r)<0 then ⟨0,0⟩ else ⟨2,hx (red r)⟩)
theorem Vd {g:bD}{d:hc}{t:Tables}(h:wK g d t) (s k:Int):wm t s k=match idx d.cA s with | some r=>D8 r k | none=>some ⟨0,0⟩:=by
 unfold wm;rw [h.ac,Option.bind_some];have Ow:t.Def.length=d.cA.length:=by rw [h.Np]; simp
 cases ax:idx d.cA s with
 | none =>
  grind [idx,ri]
 | some r =>
  have ar:=kM ax;have a1:idx (d.cA.map λr=>(sL r).hd) s=some (sL r).hd:=by
   grind [idx]
  have aeH:idx t.Def s=some (hx (red r)):=by
   rw [h.Np]
   grind [idx]
  grind [ri,D8]
theorem Z_ {g:bD}{n:Nat}(aQ:fZ g) (aB:n<=150) {r:List Act}(ah:r.length<=1000) {k:Nat}{x:Act}(hk:r[k]?=some x) (J:oU g n x):D8 r (k:Int)=some (if oM (hx (red r)) x=true then x else if hx (red r)<0 then ⟨0,0⟩ else ⟨2,hx (red r)⟩):=by
 unfold D8;have e:k' (sL r).hd (k:Int)=if oM (hx (red r)) x=true then (o3 x,true) else (0,false):=get_at ah hk
 grind [oM,Ud]
def D9 (c:List Int) (s:Int):Int:=if (k' (qQ c).hd s).2=true then (k' (qQ c).hd s).1 else hx (pos c)
theorem U5 {g:bD}{d:hc}{t:Tables}(h:wK g d t) (s a:Int):Aw t s a=some (if 0<=a/\a<g.dE.length then D9 (f' d a.toNat) s else -1):=by
 unfold Aw;rw [h.go,Option.bind_some];have JI:t.jC.length=g.dE.length:=by rw [h.gd]; simp
 by_cases aJ:0<=a/\a<(g.dE.length:Int)
 ·obtain ⟨k,rfl⟩:∃ k:Nat,a=(k:Int):=⟨a.toNat,by omega⟩;have hk:k<g.dE.length:=by omega
  have a1:idx ((List.range g.dE.length).map λa=>(qQ (f' d a)).hd) (k:Int)=some (qQ (f' d k)).hd:=by
   unfold idx;rw [if_pos (by omega),Int.toNat_natCast,List.getElem?_map,List.getElem?_range hk]; rfl
  have h7:idx t.jC (k:Int)=some (hx (pos (f' d k))):=by
   rw [h.gd];unfold idx;rw [if_pos (by omega),Int.toNat_natCast,List.getElem?_map,List.getElem?_range hk]; rfl
  rw [if_pos aJ,Int.toNat_natCast];unfold ri D9;rw [a1];simp only;by_cases af:(k' (qQ (f' d k)).hd s).2=true
  ·simp [af]
  ·have af:(k' (qQ (f' d k)).hd s).2=false:=by simpa using af
   have d1:decide ((k:Int)<0)=false:=decide_eq_false (by omega);have d2:decide ((t.jC.length:Int)<=(k:Int))=false:=decide_eq_false (by omega);rw [af,d1,d2,h7];simp
 ·have a1:idx ((List.range g.dE.length).map λa=>(qQ (f' d a)).hd) a=none:=by
   unfold idx;split
   ·rw [List.getElem?_eq_none];simp; omega
   ·rfl
  rw [if_neg aJ];unfold ri;rw [a1];simp only [cond_false];by_cases aK:a<0
  ·simp [aK]
  ·have h1:(t.jC.length:Int)<=a:=by omega
   simp [aK,h1]
theorem Z' {c:List Int}(ah:c.length<=1000) {q:Nat}{v:Int}(a_:c[q]?=some v):D9 c (q:Int)=if pe (hx (pos c)) v=true then v else hx (pos c):=by
 unfold D9;have e:k' (qQ c).hd (q:Int)=if pe (hx (pos c)) v=true then (v,true) else (0,false):=get_at ah a_
 rw [e];by_cases h:pe (hx (pos c)) v=true
 ·rw [if_pos h,if_pos rfl,if_pos h]
 ·rw [if_neg h,if_neg (by simp),if_neg h]
theorem Zn {g:bD}{n:Nat}(aQ:fZ g) {r:List Act}(ah:r.length=g.br.length) (h:∀ a∈r,oU g n a):oW (red r) (hx (red r)):=(Lb (QH aQ ah h)).2.2
theorem Y8 {r:List Act}{v:Int}(h:v∈red r):∃ a∈r,a.Kind=2/\a.N=v:=by
 unfold red at h;obtain ⟨a,aJ,rfl⟩:=List.mem_map.1 h;rw [List.mem_filter] at aJ;exact ⟨a,aJ.1,of_decide_eq_true aJ.2,rfl⟩
theorem Qd {g:bD}{n:Nat}(aQ:fZ g) {r:List Act}(ah:r.length=g.br.length) (h:∀ a∈r,oU g n a):hx (red r)=-1\/(0<=hx (red r)/\∃ a∈r,a.Kind=2/\a.N=hx (red r)):=by
 rcases Zn aQ ah h with ⟨_,e⟩ | ⟨hm,_⟩
 ·exact .inl e
 ·obtain ⟨a,aJ,hk,e⟩:=Y8 hm;have:=((h a aJ).oa hk).1;exact .inr ⟨by omega,a,aJ,hk,e⟩
theorem SK {g:bD}{n:Nat}{x:Act}(J:oU g n x) {D:Int}(h7:D=-1\/0<=D):(if oM D x=true then x else if D<0 then ⟨0,0⟩ else ⟨2,D⟩)=(if x.Kind=0/\D≠-1 then ⟨2,D⟩ else x):=by
 obtain ⟨k,m⟩:=x;have aK:=J.gP;simp only at aK;unfold oM;by_cases ga:k=0
 ·subst ga;have:=aK rfl;subst this;rcases h7 with rfl | h7
  ·simp
  ·have h1:¬ D<0:=by omega
   have af:D≠-1:=by omega
   simp [h1,af]
 ·by_cases b6:k=2
  ·subst b6;by_cases Nv:m=D
   ·subst Nv;have af:=(J.oa rfl).1;have af:0<m:=af;have h1:¬ m<0:=by omega
    simp [h1]
   ·simp [Nv]
  ·simp [ga,b6]
open Go Go.Own
structure pC where
 act:Int->Int->Act
 go:Int->Int->Int
 left:Int->Int
 len:Int->Nat
structure hJ where
 st:List Int
 nd:List Node
 hM:Int
 p:eH
 pop:Bool
inductive Mr where
 | fin (p:eH)
 | go (p:eH) (afr:Int) (r:hJ)
def fV (st:List Int) (nd:List Node):Int:=st.getD nd.length 0
def iB (tk:List Int) (a:Int):Int:=if (tk.length:Int)<=a then 0 else tk.getD a.toNat 0
def qP (c:hJ) (n:Nat) (s:Int) (x:Node):hJ:=⟨c.st.take (c.nd.length+1 - n)++[s],c.nd.take (c.nd.length - n)++[x],c.hM,{ c.p with Steps:=c.p.Steps+1,Deep:=max c.p.Deep ((c.nd.length:Int)+1 - n) },false⟩
def sG (c:hJ) (k:Int):Node:=⟨k,-1,c.p.At,nf dn []⟩
def pk (B:pC) (c:hJ):Mr :=
 if (B.act (fV c.st c.nd) 1).Kind=1 then .go c.p ((c.nd.length:Int)+1) (qP c 0 (B.act (fV c.st c.nd) 1).N (sG c 1))
 else if c.nd.length=0 then .fin { c.p with Kind:=2 }
 else .go c.p ((c.nd.length:Int) - 1) ⟨c.st.take c.nd.length,c.nd.take (c.nd.length - 1),c.hM,{ c.p with Steps:=c.p.Steps+1 },true⟩
def r1 (c:hJ):hJ:=⟨c.st,c.nd,3,{ c.p with eo:=c.p.eo++[⟨c.p.At,decide (c.hM=0)⟩] },true⟩
def Ee (c:hJ) (s k:Int):hJ:={ qP c 0 s (sG c k) with hM:=max (c.hM - 1) 0,p:={ (qP c 0 s (sG c k)).p with At:=c.p.At+1 } }
def GI (B:pC) (c:hJ) (p:Int):hJ:={ qP c (B.len p) (B.go (c.st.getD (c.nd.length - B.len p) 0) (B.left p)) ⟨1000+B.left p,p,-1,nf dn (c.nd.drop (c.nd.length - B.len p))⟩ with p:={ (qP c (B.len p) 0 default).p with bu:=c.p.bu++[p] } }
def iP (B:pC) (tk:List Int) (c:hJ):Mr :=
 if c.pop=true then pk B c
 else if (B.act (fV c.st c.nd) (iB tk c.p.At)).Kind=1 then .go c.p ((c.nd.length:Int)+1) (Ee c (B.act (fV c.st c.nd) (iB tk c.p.At)).N (iB tk c.p.At))
 else if (B.act (fV c.st c.nd) (iB tk c.p.At)).Kind=2 then .go c.p ((c.nd.length:Int)+1 - B.len (B.act (fV c.st c.nd) (iB tk c.p.At)).N) (GI B c (B.act (fV c.st c.nd) (iB tk c.p.At)).N)
 else if (B.act (fV c.st c.nd) (iB tk c.p.At)).Kind=3 then .fin { c.p with Kind:=1,Tree:=c.nd.getD (c.nd.length - 1) default }
 else if c.hM=3 then (if iB tk c.p.At=0 then .fin { c.p with Kind:=2 } else .go c.p c.nd.length { c with p:={ c.p with Steps:=c.p.Steps+1,e2:=c.p.e2++[c.p.At],At:=c.p.At+1 } })
 else pk B (r1 c)
inductive gp (B:pC) (tk:List Int) (D S:Int):hJ->eH->Prop
 | fin {c:hJ}{p:eH}(h:iP B tk c=.fin p):gp B tk D S c p
 | lim {c r:hJ}{p:eH}{n:Int}(h:iP B tk c=.go p n r) (ah:p.Steps=S\/D<n):gp B tk D S c { p with Kind:=3 }
 | go {c r:hJ}{p P:eH}{n:Int}(h:iP B tk c=.go p n r) (ah:¬ (p.Steps=S\/D<n)) (hr:gp B tk D S r P):gp B tk D S c P
inductive pB:Nat->Node->Prop
 | mk {n:Nat}{s p a:Int}{L:List Node}(ah:L.length<=100000) (h:∀ x∈L,pB n x):pB (n+1) ⟨s,p,a,nf dn L⟩
theorem pB.up {n:Nat}{x:Node}(h:pB n x):∀ {m:Nat},n<=m->pB m x:=by
 induction h with
 | mk ah _ aM =>
  intro m hm;obtain ⟨m,rfl⟩:∃ k,m=k+1:=⟨m - 1,by omega⟩;exact .mk ah λx J=>aM x J (by omega)
theorem pB.leaf {n:Nat}(h:1<=n) (k a b:Int):pB n ⟨k,a,b,nf dn []⟩:=by
 obtain ⟨n,rfl⟩:∃ m,n=m+1:=⟨n - 1,by omega⟩;exact .mk (by simp) (by simp)
structure nQ (B:pC) (V:Int->Prop) (Q:List Int->List Node->Prop):Prop where
 len:∀ {st:List Int}{nd:List Node},Q st nd->st.length=nd.length+1
 v:∀ {st:List Int}{nd:List Node},Q st nd->∀ q∈st,V q
 dS:∀ {st:List Int}{nd:List Node}{k:Int}{x:Node},Q st nd->(B.act (fV st nd) k).Kind=1->x.Sym=k->Q (st++[(B.act (fV st nd) k).N]) (nd++[x])
 p5:∀ {st:List Int}{nd:List Node}{k:Int},Q st nd->(B.act (fV st nd) k).Kind=2->B.len (B.act (fV st nd) k).N<=nd.length
 rd:∀ {st:List Int}{nd:List Node}{k p:Int}{x:Node},Q st nd->B.act (fV st nd) k=⟨2,p⟩->x.Sym=1000+B.left p->Q (st.take (nd.length+1 - B.len p)++[B.go (st.getD (nd.length - B.len p) 0) (B.left p)]) (nd.take (nd.length - B.len p)++[x])
 pop:∀ {st:List Int}{nd:List Node},Q st nd->nd.length≠0->Q (st.take nd.length) (nd.take (nd.length - 1))
 ac:∀ {st:List Int}{nd:List Node}{k:Int},Q st nd->(B.act (fV st nd) k).Kind=3->nd.length≠0
theorem nQ.top {B:pC}{V:Int->Prop}{Q:List Int->List Node->Prop}(h:nQ B V Q) {st:List Int}{nd:List Node}(a_:Q st nd):idx st (nd.length:Int)=some (fV st nd)/\V (fV st nd):=by
 have ah:=h.len a_;have h1:nd.length<st.length:=by omega
 have:fV st nd=st[nd.length]:=by simp [fV,List.getD_eq_getElem?_getD,h1]
 exact ⟨by rw [this]; simp [idx,h1],h.v a_ _ (by rw [this]; exact List.getElem_mem h1)⟩
structure hU (Q:List Int->List Node->Prop) (tk:List Int) (D S:Int) (c:hJ):Prop where
 q:Q c.st c.nd
 nd:(c.nd.length:Int)<=D
 Iz:D<=100000
 aT:S<=1000000
 LW:tk.length<=1000000000000
 k0:c.p.Kind=0
 e6:0<=c.p.Steps
 Ha:c.p.Steps<=S
 a0:0<=c.p.At
 dz:c.p.At<=tk.length+c.p.Steps
 f0:0<=c.hM
 f3:c.hM<=3
 pl:c.p.bu.length<=c.p.Steps
 PK:c.p.e2.length<=c.p.Steps
 ul:c.p.eo.length<=c.p.Steps+1
 yL:c.hM≠3->c.p.eo.length<=c.p.Steps
 c3:∀ x∈c.nd,pB c.p.Steps.toNat x
 rM:c.pop=true->c.hM=3
 d0:(c.nd.length:Int)<=c.p.Deep
 Ix:c.p.Deep<=D
theorem hU.put {B:pC}{V:Int->Prop}{Q:List Int->List Node->Prop}{tk:List Int}{D S:Int}{c:hJ}(h:hU Q tk D S c) {n:Nat}{s:Int}{x:Node}(aB:n<=c.nd.length) (a_:Q (c.st.take (c.nd.length+1 - n)++[s]) (c.nd.take (c.nd.length - n)++[x])) (J:pB (c.p.Steps.toNat+1) x) (ah:¬ (c.p.Steps=S\/D<(c.nd.length:Int)+1 - n)):hU Q tk D S (qP c n s x):=by
 have ⟨_,_,_,_,_,_,_,_,_,_,_,_,_,_,_,_,_,_,_,_⟩:=h;have e:(c.nd.take (c.nd.length - n)++[x]).length=c.nd.length - n+1:=by simp
 refine ⟨a_,?_,by assumption,by assumption,by assumption,by assumption,?_,?_,by assumption,?_,by assumption,by assumption,?_,?_,?_,λaV=>?_,λy ao=>?_,λh=>(by cases h),?_,?_⟩
 all_goals simp only [qP]
 ·rw [e]; omega
 ·omega
 ·omega
 ·omega
 ·omega
 ·omega
 ·omega
 ·have:=h.yL aV; omega
 ·have b6:(c.p.Steps+1).toNat=c.p.Steps.toNat+1:=by omega
  rw [b6];rcases List.mem_append.1 ao with ao | ao
  ·exact (h.c3 y (List.mem_of_mem_take ao)).up (by omega)
  ·rw [List.mem_singleton.1 ao]; exact J
 ·rw [e]; omega
 ·omega
theorem hU.up {Q:List Int->List Node->Prop}{tk:List Int}{D S:Int}{c:hJ}(h:hU Q tk D S c) (aV:c.hM≠3):hU Q tk D S (r1 c):=by
 have ⟨_,_,_,_,_,_,_,_,_,_,_,_,_,_,_,_,_,_,_,_⟩:=h;refine ⟨by assumption,by assumption,by assumption,by assumption,by assumption,by assumption,by assumption,by assumption,by assumption,by assumption,?_,?_,by assumption,by assumption,?_,λaI=>?_,by assumption,λ_=>rfl,by assumption,by assumption⟩
 ·show (0:Int)<=3; decide
 ·show (3:Int)<=3; decide
 ·have:=h.yL aV;simp only [r1,List.length_append,List.length_singleton]; omega
 ·exact absurd rfl aI
variable {B:pC}{V:Int->Prop}{Q:List Int->List Node->Prop}{tk:List Int}{D S:Int}{c:hJ}
theorem Qz (bI:nQ B V Q) (h:hU Q tk D S c) (aV:c.hM=3) {p:eH}{n:Int}{r:hJ}(e:pk B c=.go p n r) (ah:¬ (p.Steps=S\/D<n)):p=c.p/\hU Q tk D S r/\r.p.Steps=c.p.Steps+1:=by
 have ⟨_,_,_,_,_,_,_,_,_,_,_,_,_,_,_,_,_,_,_,_⟩:=h;have fM:=bI.len h.q;unfold pk at e
 split at e
 ·rename_i hk;cases e;have a_:=bI.dS (x:=sG c 1) h.q hk rfl;refine ⟨rfl,h.put (B:=B) (V:=V) (Nat.zero_le _) ?_ (.leaf (by omega) ..) (by simpa using ah),rfl⟩;rw [Nat.sub_zero,Nat.sub_zero,List.take_length,<- fM,List.take_length];exact a_
 ·split at e
  ·cases e
  ·rename_i aK;cases e;have ca:(c.nd.take (c.nd.length - 1)).length=c.nd.length - 1:=by simp
   refine ⟨rfl,⟨bI.pop h.q aK,?_,by assumption,by assumption,by assumption,by assumption,?_,?_,by assumption,?_,by assumption,by assumption,?_,?_,?_,λaI=>absurd aV aI,λy ao=>?_,λ_=>aV,?_,by assumption⟩,rfl⟩
   all_goals simp only
   ·rw [ca]; omega
   ·omega
   ·omega
   ·omega
   ·omega
   ·omega
   ·omega
   ·exact (h.c3 y (List.mem_of_mem_take ao)).up (by omega)
   ·rw [ca]; omega
theorem rH (bI:nQ B V Q) (h:hU Q tk D S c) {p:eH}{n:Int}{r:hJ}(e:iP B tk c=.go p n r) (ah:¬ (p.Steps=S\/D<n)):hU Q tk D S r/\r.p.Steps=c.p.Steps+1:=by
 have ⟨_,_,_,_,_,_,_,_,_,_,_,_,_,_,_,_,_,_,_,_⟩:=h;have fM:=bI.len h.q;unfold iP at e
 split at e
 ·rename_i aq;exact (Qz bI h (h.rM aq) e ah).2
 ·split at e
  ·rename_i hk;cases e;have a_:=bI.dS (x:=sG c (iB tk c.p.At)) h.q hk rfl;have:=h.put (B:=B) (V:=V) (n:=0) (s:=(B.act (fV c.st c.nd) (iB tk c.p.At)).N) (x:=sG c (iB tk c.p.At)) (Nat.zero_le _) (by rw [Nat.sub_zero,Nat.sub_zero,List.take_length,<- fM,List.take_length]; exact a_) (.leaf (by omega) ..) (by simpa using ah);refine ⟨⟨this.q,this.nd,this.Iz,this.aT,this.LW,this.k0,this.e6,this.Ha,?_,?_,?_,?_,this.pl,this.PK,this.ul,λ_=>?_,this.c3,λh=>(by cases h),this.d0,this.Ix⟩,rfl⟩
   all_goals simp only [Ee,qP]
   all_goals omega
  ·split at e
   ·rename_i hk;have hle:=bI.p5 h.q hk;cases e;generalize aq:(B.act (fV c.st c.nd) (iB tk c.p.At)).N=a at *;have a_:=bI.rd (x:=⟨1000+B.left a,a,-1,nf dn (c.nd.drop (c.nd.length - B.len a))⟩) h.q (show B.act (fV c.st c.nd) (iB tk c.p.At)=⟨2,a⟩ by rw [<- aq,<- hk]) rfl;have:=h.put (B:=B) (V:=V) hle a_ (.mk (by simp; omega) λx J=>h.c3 x (List.mem_of_mem_drop J)) ah;have ⟨_,_,_,_,_,_,_,_,_,_,_,_,_,_,_,_,_,_,_,_⟩:=this;refine ⟨⟨this.q,this.nd,this.Iz,this.aT,this.LW,this.k0,this.e6,this.Ha,this.a0,this.dz,this.f0,this.f3,?_,this.PK,this.ul,this.yL,this.c3,this.rM,this.d0,this.Ix⟩,rfl⟩;simp only [GI,qP,List.length_append,List.length_singleton];omega
   ·split at e
    ·cases e
    ·split at e
     ·rename_i aV
      split at e
      ·cases e
      ·rename_i aK;cases e;refine ⟨⟨h.q,h.nd,h.Iz,h.aT,h.LW,h.k0,?_,?_,?_,?_,h.f0,h.f3,?_,?_,?_,λaI=>absurd aV aI,λx J=>(h.c3 x J).up ?_,λaI=>aV,h.d0,h.Ix⟩,rfl⟩
       all_goals simp only [List.length_append,List.length_singleton]
       all_goals omega
     ·rename_i aV;obtain ⟨h1,af,aF⟩:=Qz bI (h.up aV) rfl e ah;exact ⟨af,aF⟩
theorem Qy {p:eH}(e:pk B c=.fin p):p.Kind=2:=by
 unfold pk at e
 split at e
 ·cases e
 ·split at e
  ·cases e; rfl
  ·cases e
theorem PU {p:eH}(e:iP B tk c=.fin p):p.Kind=1\/p.Kind=2:=by
 unfold iP at e
 split at e
 ·exact .inr (Qy e)
 ·split at e
  ·cases e
  ·split at e
   ·cases e
   ·split at e
    ·cases e; exact .inl rfl
    ·split at e
     ·split at e
      ·cases e; exact .inr rfl
      ·cases e
     ·exact .inr (Qy e)
theorem gp.kind {P:eH}(h:gp B tk D S c P):P.Kind=1\/P.Kind=2\/P.Kind=3:=by
 induction h with
 | fin h=>exact (PU h).imp id .inl
 | lim=>exact .inr (.inr rfl)
 | go _ _ _ aM=>exact aM
def gX (t:Tables) (tk:List Int) (D S:Int) (c:hJ):dA:=⟨t,tk,D,S,c.st,c.nd,c.hM,c.p⟩
structure zj (t:Tables) (B:pC) (V:Int->Prop):Prop where
 act:∀ {q:Int}(k:Int),V q->wm t q k=some (B.act q k)
 go:∀ {q k p s:Int},V q->B.act q k=⟨2,p⟩->V s->Aw t s (B.left p)=some (B.go s (B.left p))
 red:∀ {q k p:Int},V q->B.act q k=⟨2,p⟩->idx t.kD p=some (B.len p:Int)/\idx t.Left p=some (B.left p)/\0<=B.left p/\B.left p<=1000000
variable {t:Tables}{B:pC}{V:Int->Prop}{Q:List Int->List Node->Prop}{tk:List Int}{D S:Int}{c:hJ}
theorem Bu {α:Type}{l m:List α}(h:l.length+m.length<=2000000):c8 l m=some (l++m):=by
 unfold c8 lim; rw [if_pos (by omega)]
theorem Tot.eq {α β:Type}{x:Option β}{f:β->Option α}{Φ:α->Prop}{a:β}(h:x=some a) (hk:Tot (f a) Φ):Tot (x.bind f) Φ:=by rw [h]; exact hk
theorem IC (h:hU Q tk D S c) (n:Int):yb (gX t tk D S c) n=some (if c.p.Steps=S\/D<n then (false,gX t tk D S { c with p:={ c.p with Kind:=3 } }) else (true,gX t tk D S { c with p:={ c.p with Steps:=c.p.Steps+1 } })):=by
 have ⟨_,_,_,_,_,_,_,_,_,_,_,_,_,_,_,_,_,_,_,_⟩:=h;unfold yb;simp only [gX];rw [kA (n:=c.p.Steps+1) (by omega) (by omega)];by_cases h:c.p.Steps=S
 ·simp [h]
 ·by_cases aI:D<n
  ·simp [h,aI]
  ·simp [h,aI]
theorem IG (bI:nQ B V Q) (h:hU Q tk D S c) {m:Nat}(hm:m<=c.nd.length) (s:Int) (x:Node):uR (gX t tk D S c) s m x=some (if c.p.Steps=S\/D<(c.nd.length:Int)+1 - m then (false,gX t tk D S { c with p:={ c.p with Kind:=3 } }) else (true,gX t tk D S (qP c m s x))):=by
 have ⟨_,_,_,_,_,_,_,_,_,_,_,_,_,_,_,_,_,_,_,_⟩:=h;have fM:=bI.len h.q;unfold uR;rw [IC h];have hw:aG (((gX t tk D S c).dt.length:Int) - m)=((c.nd.length+1 - m:Nat):Int):=by
  show aG ((c.st.length:Int) - m)=_;rw [kA (by omega) (by omega)]; omega
 rw [hw];have ga:((c.nd.length+1 - m:Nat):Int)=(c.nd.length:Int)+1 - m:=by omega
 by_cases ah:c.p.Steps=S\/D<(c.nd.length:Int)+1 - m
 ·rw [if_pos ah,if_pos (by rw [ga]; exact ah)];simp
 ·rw [if_neg ah,if_neg (by rw [ga]; exact ah)];have ca:aG (((gX t tk D S { c with p:={ c.p with Steps:=c.p.Steps+1 } }).dt.length:Int) - m)=((c.nd.length+1 - m:Nat):Int):=hw;have b6:aG (((gX t tk D S { c with p:={ c.p with Steps:=c.p.Steps+1 } }).fh.length:Int) - m)=((c.nd.length - m:Nat):Int):=by
   show aG ((c.nd.length:Int) - m)=_;rw [kA (by omega) (by omega)]; omega
  have i1:l4 c.st ((c.nd.length+1 - m:Nat):Int)=some ():=by simp [l4]; omega
  have i2:l4 c.nd ((c.nd.length - m:Nat):Int)=some ():=by simp [l4]
  have aw:c8 (c.st.take (c.nd.length+1 - m)) [s]=some (c.st.take (c.nd.length+1 - m)++[s]):=Bu (by simp; omega);have a2:c8 (c.nd.take (c.nd.length - m)) [x]=some (c.nd.take (c.nd.length - m)++[x]):=Bu (by simp; omega);simp only [Option.bind_some,Bool.not_true,cond_false,ca,b6,Int.toNat_natCast];simp only [gX,i1,aw,i2,a2,Option.bind_some];have eI:aG (((c.st.take (c.nd.length+1 - m)++[s]).length:Int) - 1)=(c.nd.length:Int)+1 - m:=by
   simp only [List.length_append,List.length_take,List.length_cons,List.length_nil,fM];rw [kA (by omega) (by omega)]; omega
  rw [eI];rfl
theorem Nu (h:hU Q tk D S c):yu (gX t tk D S c)=some (iB tk c.p.At):=by
 have ⟨_,_,_,_,_,_,_,_,_,_,_,_,_,_,_,_,_,_,_,_⟩:=h;unfold yu iB;simp only [gX];by_cases aN:(tk.length:Int)<=c.p.At
 ·simp [aN]
 ·have:c.p.At.toNat<tk.length:=by omega
  have hi:idx tk c.p.At=some (tk.getD c.p.At.toNat 0):=by
   unfold idx;rw [if_pos h.a0,List.getD_eq_getElem?_getD,List.getElem?_eq_getElem this]; rfl
  simp [aN,hi]
theorem IF (bI:nQ B V Q) (cV:zj t B V) (h:hU Q tk D S c) (k:Int):yt (gX t tk D S c) k=some (B.act (fV c.st c.nd) k):=by
 have ⟨_,_,_,_,_,_,_,_,_,_,_,_,_,_,_,_,_,_,_,_⟩:=h;have fM:=bI.len h.q;obtain ⟨h1,af⟩:=bI.top h.q;unfold yt;have e:aG (((gX t tk D S c).dt.length:Int) - 1)=(c.nd.length:Int):=by
  show aG ((c.st.length:Int) - 1)=_;rw [kA (by omega) (by omega)]; omega
 rw [e];show (idx c.st (c.nd.length:Int)).bind _=_;rw [h1,Option.bind_some];show (wm t (fV c.st c.nd) k).bind _=_;rw [cV.act k af]; rfl
def vc (B:pC) (t:Tables) (Q:List Int->List Node->Prop) (tk:List Int) (D S:Int) (c:hJ) (d:dA):Prop :=
 gp B tk D S c d.bb\/∃ cj,d=gX t tk D S cj/\hU Q tk D S cj/\cj.pop=false/\c.p.Steps<cj.p.Steps/\∀ P,gp B tk D S cj P->gp B tk D S c P
theorem TA (bI:nQ B V Q) (h:hU Q tk D S c) (aq:c.pop=false) (aV:c.hM=3) (h1:(B.act (fV c.st c.nd) (iB tk c.p.At)).Kind≠1) (af:(B.act (fV c.st c.nd) (iB tk c.p.At)).Kind≠2) (aF:(B.act (fV c.st c.nd) (iB tk c.p.At)).Kind≠3):Tot (Dv (gX t tk D S c)) (vc B t Q tk D S c):=by
 have ⟨_,_,_,_,_,_,_,_,_,_,_,_,_,_,_,_,_,_,_,_⟩:=h;have fM:=bI.len h.q;unfold Dv;rw [Nu h,Option.bind_some];by_cases aK:iB tk c.p.At=0
 ·have hm:iP B tk c=.fin { c.p with Kind:=2 }:=by unfold iP; rw [if_neg (by simp [aq]),if_neg h1,if_neg af,if_neg aF,if_pos aV,if_pos aK]
  simp only [aK,decide_true,cond_true,Option.bind_some];exact .al (.inl (.fin hm))
 ·have hm:iP B tk c=.go c.p c.nd.length { c with p:={ c.p with Steps:=c.p.Steps+1,e2:=c.p.e2++[c.p.At],At:=c.p.At+1 } }:=by unfold iP; rw [if_neg (by simp [aq]),if_neg h1,if_neg af,if_neg aF,if_pos aV,if_neg aK]
  simp only [aK,decide_false,cond_false];have e:aG (((gX t tk D S c).dt.length:Int) - 1)=(c.nd.length:Int):=by
   show aG ((c.st.length:Int) - 1)=_;rw [kA (by omega) (by omega)]; omega
  rw [e,IC h];by_cases ah:c.p.Steps=S\/D<(c.nd.length:Int)
  ·rw [if_pos ah];simp only [Option.bind_some,cond_false];exact .al (.inl (show gp B tk D S c { c.p with Kind:=3 } from .lim hm ah))
  ·rw [if_neg ah];simp only [Option.bind_some,cond_true,gX];rw [Bu (by simp; omega),Option.bind_some,Option.bind_some,Option.bind_some,kA (n:=c.p.At+1) (by omega) (by omega)];obtain ⟨aW,he⟩:=rH bI h hm ah;exact .al (.inr ⟨_,rfl,aW,aq,by rw [he]; omega,λP hr=>.go hm ah hr⟩)
theorem TW (bI:nQ B V Q) (cV:zj t B V) (h:hU Q tk D S c) (aq:c.pop=false) {a:Int}(aJ:B.act (fV c.st c.nd) (iB tk c.p.At)=⟨2,a⟩):Tot (AT (gX t tk D S c) a) (vc B t Q tk D S c):=by
 have ⟨_,_,_,_,_,_,_,_,_,_,_,_,_,_,_,_,_,_,_,_⟩:=h;have fM:=bI.len h.q;obtain ⟨hi,hv⟩:=bI.top h.q;have hle:B.len a<=c.nd.length:=by
  have:=bI.p5 (k:=iB tk c.p.At) h.q (by rw [aJ]);rw [aJ] at this; exact this
 obtain ⟨g1,g2,g3,g4⟩:=cV.red hv aJ;have hm:iP B tk c=.go c.p ((c.nd.length:Int)+1 - B.len a) (GI B c a):=by unfold iP; rw [if_neg (by simp [aq]),if_neg (by rw [aJ]; simp),if_pos (by rw [aJ]),aJ]
 have h9:c.nd.length - B.len a<c.st.length:=by omega
 have Kb:idx c.st ((c.nd.length:Int) - B.len a)=some (c.st.getD (c.nd.length - B.len a) 0):=by
  have e:(c.nd.length:Int) - B.len a=((c.nd.length - B.len a:Nat):Int):=by omega
  rw [e];simp [idx,List.getD_eq_getElem?_getD,h9]
 have rv:V (c.st.getD (c.nd.length - B.len a) 0):=by
  rw [List.getD_eq_getElem?_getD,List.getElem?_eq_getElem h9];exact bI.v h.q _ (List.getElem_mem h9)
 unfold AT;simp only [gX];have ij:aG ((c.nd.length:Int) - (B.len a:Int))=((c.nd.length - B.len a:Nat):Int):=by rw [kA (by omega) (by omega)]; omega
 have hz:aG (aG ((c.st.length:Int) - 1) - (B.len a:Int))=(c.nd.length:Int) - B.len a:=by rw [kA (n:=(c.st.length:Int) - 1) (by omega) (by omega),kA (by omega) (by omega)]; omega
 have i2:l4 c.nd ((c.nd.length - B.len a:Nat):Int)=some ():=by simp [l4]
 have c1:Ll (c.nd.drop (c.nd.length - B.len a))=some (c.nd.drop (c.nd.length - B.len a)):=by simp [Ll,Fb]; omega
 simp only [g1,g2,Option.bind_some,ij,hz,i2,Int.toNat_natCast,c1,Kb];rw [cV.go hv aJ rv,Option.bind_some,kA (n:=1000+B.left a) (by omega) (by omega)];have:=IG (t:=t) bI h hle (B.go (c.st.getD (c.nd.length - B.len a) 0) (B.left a)) ⟨1000+B.left a,a,-1,nf dn (c.nd.drop (c.nd.length - B.len a))⟩;simp only [gX] at this;rw [this,Option.bind_some];by_cases ah:c.p.Steps=S\/D<(c.nd.length:Int)+1 - B.len a
 ·rw [if_pos ah];simp only [cond_false,Option.bind_some];exact .al (.inl (show gp B tk D S c { c.p with Kind:=3 } from .lim hm ah))
 ·rw [if_neg ah];simp only [cond_true,qP];rw [Bu (by simp; omega),Option.bind_some,Option.bind_some];obtain ⟨aW,he⟩:=rH bI h hm ah;exact .al (.inr ⟨GI B c a,rfl,aW,rfl,by rw [he]; omega,λP hr=>.go hm ah hr⟩)
theorem TX (bI:nQ B V Q) (cV:zj t B V) (h:hU Q tk D S c) (aq:c.pop=false) (h1:(B.act (fV c.st c.nd) (iB tk c.p.At)).Kind≠1) (af:(B.act (fV c.st c.nd) (iB tk c.p.At)).Kind≠2) (aF:(B.act (fV c.st c.nd) (iB tk c.p.At)).Kind≠3):Tot (AU (gX t tk D S c)) (vc B t Q tk D S c):=by
 have ⟨_,_,_,_,_,_,_,_,_,_,_,_,_,_,_,_,_,_,_,_⟩:=h;unfold AU;refine Tot.bs (λaV=>.aA (TA bI h aq aV h1 af aF) λd aR=>.al aR) (λaV=>?_);have aV:c.hM≠3:=aV;have hu:=h.up aV;have yL:=h.yL aV;have J1:iP B tk c=iP B tk (r1 c):=by
  have:iP B tk (r1 c)=pk B (r1 c):=by unfold iP; exact if_pos rfl
  rw [this];unfold iP;rw [if_neg (by simp [aq]),if_neg h1,if_neg af,if_neg aF,if_neg aV]
 have XW:∀ {P:eH},gp B tk D S (r1 c) P->gp B tk D S c P:=λ{P} hr=>by
  cases hr with
  | fin h=>exact .fin (J1.trans h)
  | lim h ah=>exact .lim (J1.trans h) ah
  | go h ah hr=>exact .go (J1.trans h) ah hr
 refine Tot.eq (a:=(r1 c).p.eo) (Bu (by simp [gX]; omega)) (Tot.eq (IF (t:=t) bI cV hu 1) ?_);refine .aA (Ξ:=h4 (λx:dA × Int × Int=>∃ cj,x.1=gX t tk D S cj/\hU Q tk D S cj/\cj.pop=true/\c.p.Steps<=cj.p.Steps/\B.act (fV cj.st cj.nd) 1=⟨1,x.2.2⟩/\∀ P,gp B tk D S cj P->gp B tk D S c P) (λd:dA=>gp B tk D S c d.bb)) ?_ λx J=>?_
 ·refine Tot.loop (λs=>∃ cj,s.1=gX t tk D S cj/\hU Q tk D S cj/\cj.pop=true/\c.p.Steps<=cj.p.Steps/\B.act (fV cj.st cj.nd) 1=⟨s.2.1,s.2.2⟩/\∀ P,gp B tk D S cj P->gp B tk D S c P) (λs=>s.1.fh.length) ⟨r1 c,rfl,hu,rfl,Int.le_refl _,rfl,λP=>XW⟩ ?_ λs ax=>?_
  ·show c.nd.length<1000000000000000000;omega
  obtain ⟨s,YZ,Gf⟩:=s;obtain ⟨cj,rfl,aa,pQ,eV,xh,hr⟩:=ax;have ⟨_,_,_,_,_,_,_,_,_,_,_,_,_,_,_,_,_,_,_,_⟩:=aa;have fM:=bI.len aa.q;have vI:iP B tk cj=pk B cj:=by unfold iP; exact if_pos pQ
  simp only at xh ⊢;refine Tot.pF (λhk=>?_) (λhk=>.al ⟨cj,rfl,aa,pQ,eV,by rw [xh]; simp only [Act.mk.injEq,and_true]; exact hk,hr⟩);have ij:aG (((gX t tk D S cj).dt.length:Int) - 1)=(cj.nd.length:Int):=by
   show aG ((cj.st.length:Int) - 1)=_;rw [kA (by omega) (by omega)]; omega
  rw [ij];refine Tot.bs (λaK=>.al ?_) (λaK=>?_)
  ·refine hr _ (.fin ?_);rw [vI]; unfold pk;rw [if_neg (by rw [xh]; exact hk),if_pos (by omega)]; rfl
  ·have hz:aG ((cj.nd.length:Int) - 1)=((cj.nd.length - 1:Nat):Int):=by rw [kA (by omega) (by omega)]; omega
   have JZ:iP B tk cj=.go cj.p ((cj.nd.length:Int) - 1) ⟨cj.st.take cj.nd.length,cj.nd.take (cj.nd.length - 1),cj.hM,{ cj.p with Steps:=cj.p.Steps+1 },true⟩:=by
    rw [vI]; unfold pk;rw [if_neg (by rw [xh]; exact hk),if_neg (by omega)]
   have ca:((cj.nd.length - 1:Nat):Int)=(cj.nd.length:Int) - 1:=by omega
   rw [hz,IC aa,Option.bind_some];by_cases ah:cj.p.Steps=S\/D<(cj.nd.length:Int) - 1
   ·rw [if_pos (by rw [ca]; exact ah)];exact .al (hr _ (show gp B tk D S cj { cj.p with Kind:=3 } from .lim JZ ah))
   ·rw [if_neg (by rw [ca]; exact ah)];obtain ⟨aW,he⟩:=rH bI aa JZ ah;have i1:l4 cj.st (cj.nd.length:Int)=some ():=by simp [l4]; omega
    have i2:l4 cj.nd ((cj.nd.length - 1:Nat):Int)=some ():=by simp [l4]
    have b6:=IF (t:=t) bI cV aW 1;simp only [gX] at b6;simp only [gX,Bool.not_true,cond_false,i1,i2,Option.bind_some,Int.toNat_natCast,b6];refine .al ⟨⟨_,rfl,aW,rfl,by rw [he]; omega,rfl,λP a_=>hr _ (.go JZ ah a_)⟩,?_⟩;show (cj.nd.take (cj.nd.length - 1)).length<cj.nd.length;simp; omega
 ·rcases x with ⟨s,YZ,Gf⟩ | d
  ·obtain ⟨cj,rfl,aa,pQ,eV,xh,hr⟩:=J;have vI:iP B tk cj=.go cj.p ((cj.nd.length:Int)+1) (qP cj 0 Gf (sG cj 1)):=by
    unfold iP; rw [if_pos pQ]; unfold pk;rw [if_pos (by rw [xh]),xh]
   have:=IG (t:=t) bI aa (Nat.zero_le _) Gf (sG cj 1);simp only [Int.natCast_zero,Int.sub_zero] at this;show Tot ((uS (gX t tk D S cj) 1).bind λdr=>(uR (gX t tk D S cj) Gf 0 dr).bind λcY=>some cY.2) _;have IH:uS (gX t tk D S cj) 1=some (sG cj 1):=rfl;rw [IH,Option.bind_some,this,Option.bind_some];by_cases ah:cj.p.Steps=S\/D<(cj.nd.length:Int)+1
   ·rw [if_pos ah];exact .al (.inl (hr _ (show gp B tk D S cj { cj.p with Kind:=3 } from .lim vI ah)))
   ·rw [if_neg ah];obtain ⟨aW,he⟩:=rH bI aa vI ah;exact .al (.inr ⟨_,rfl,aW,rfl,by rw [he]; omega,λP a_=>hr _ (.go vI ah a_)⟩)
  ·exact .al (.inl J)
theorem TR (bI:nQ B V Q) (cV:zj t B V) (h:hU Q tk D S c) (aq:c.pop=false):Tot (yp (gX t tk D S c)) (vc B t Q tk D S c):=by
 have ⟨_,_,_,_,_,_,_,_,_,_,_,_,_,_,_,_,_,_,_,_⟩:=h;have fM:=bI.len h.q;unfold yp;rw [Nu h,Option.bind_some,IF bI cV h,Option.bind_some];generalize aJ:B.act (fV c.st c.nd) (iB tk c.p.At)=a;refine .aA (Ξ:=vc B t Q tk D S c) (.aA (Ξ:=vc B t Q tk D S c) ?_ λd aR=>.al aR) λd aR=>.al aR;refine Tot.bs (λh1=>?_) (λh1=>?_)
 ·have hm:iP B tk c=.go c.p ((c.nd.length:Int)+1) (Ee c a.N (iB tk c.p.At)):=by unfold iP; rw [if_neg (by simp [aq]),aJ,if_pos h1]
  have IH:uS (gX t tk D S c) (iB tk c.p.At)=some (sG c (iB tk c.p.At)):=rfl;rw [Option.bind_some,IH,Option.bind_some];have:=IG (t:=t) bI h (Nat.zero_le _) a.N (sG c (iB tk c.p.At));simp only [Int.natCast_zero,Int.sub_zero] at this;rw [this,Option.bind_some];by_cases ah:c.p.Steps=S\/D<(c.nd.length:Int)+1
  ·rw [if_pos ah];simp only [cond_false,Option.bind_some];exact .al (.inl (show gp B tk D S c { c.p with Kind:=3 } from .lim hm ah))
  ·rw [if_neg ah];simp only [cond_true,Option.bind_some];obtain ⟨aW,he⟩:=rH bI h hm ah;refine .al (.inr ⟨Ee c a.N (iB tk c.p.At),?_,aW,rfl,by rw [he]; omega,λP a_=>.go hm ah a_⟩);simp only [gX,Ee,qP];rw [kA (n:=c.hM - 1) (by omega) (by omega),kA (n:=c.p.At+1) (by omega) (by omega)]
 ·refine .aA (Ξ:=vc B t Q tk D S c) ?_ λd aR=>.al aR;refine Tot.bs (λaf=>?_) (λaf=>.aA (Ξ:=vc B t Q tk D S c) (Tot.bs (λaF=>?_) (λaF=>?_)) λd aR=>.al aR)
  ·exact .aA (TW bI cV h aq (a:=a.N) (by rw [aJ,<- af])) λd aR=>.al aR
  ·have aB:=bI.ac (k:=iB tk c.p.At) h.q (by rw [aJ]; exact aF);have ij:aG (((gX t tk D S c).fh.length:Int) - 1)=((c.nd.length - 1:Nat):Int):=by
    show aG ((c.nd.length:Int) - 1)=_;rw [kA (by omega) (by omega)]; omega
   have aN:c.nd.length - 1<c.nd.length:=by omega
   have hi:idx c.nd ((c.nd.length - 1:Nat):Int)=some (c.nd.getD (c.nd.length - 1) default):=by
    simp [idx,List.getD_eq_getElem?_getD,aN]
   rw [ij];simp only [gX,hi,Option.bind_some];refine .al (.inl (.fin ?_));unfold iP; rw [if_neg (by simp [aq]),aJ,if_neg h1,if_neg af,if_pos aF]
  ·exact .aA (TX bI cV h aq (by rw [aJ]; exact h1) (by rw [aJ]; exact af) (by rw [aJ]; exact aF)) λd aR=>.al aR
theorem Y5 (bI:nQ B V Q) (cV:zj t B V) (h:hU Q tk D S c) (aq:c.pop=false):Tot (cg (R:=dA) (λ(eX:dA) =>
  (bif decide (eX.bb.Kind=0) then
  (yp eX).bind λeF =>
  some (.inl eF)
  else
  some (.inr eX))) (gX t tk D S c)) λd=>gp B tk D S c d.bb:=by
 refine Tot.loop (λd=>(d.bb.Kind≠0/\gp B tk D S c d.bb)\/∃ cj,d=gX t tk D S cj/\hU Q tk D S cj/\cj.pop=false/\∀ P,gp B tk D S cj P->gp B tk D S c P) (λd=>if d.bb.Kind=0 then (S - d.bb.Steps).toNat+1 else 0) (.inr ⟨c,rfl,h,aq,λ_ h=>h⟩) ?_ λd aR=>?_
 ·have ⟨_,_,_,_,_,_,_,_,_,_,_,_,_,_,_,_,_,_,_,_⟩:=h;show (if c.p.Kind=0 then (S - c.p.Steps).toNat+1 else 0)<1000000000000000000
  split <;> omega
 ·rcases aR with ⟨aK,aR⟩ | ⟨cj,rfl,aa,pQ,hr⟩
  ·exact Tot.bs (λh=>absurd h aK) (λ_=>.al aR)
  ·refine Tot.bs (λaK=>.aA (TR bI cV aa pQ) λd aR=>.al ?_) (λh=>absurd aa.k0 h);have ⟨_,_,_,_,_,_,_,_,_,_,_,_,_,_,_,_,_,_,_,_⟩:=aa;rcases aR with aR | ⟨c2,rfl,qy,Xc,ka,hC⟩
   ·have hk:=aR.kind;refine ⟨.inl ⟨by omega,hr _ aR⟩,?_⟩;show (if d.bb.Kind=0 then _ else 0)<(if cj.p.Kind=0 then _ else 0);rw [if_neg (by omega),if_pos aa.k0]; omega
   ·have:=qy.Ha;refine ⟨.inr ⟨c2,rfl,qy,Xc,λP h=>hr _ (hC P h)⟩,?_⟩;show (if c2.p.Kind=0 then (S - c2.p.Steps).toNat+1 else 0)<(if cj.p.Kind=0 then (S - cj.p.Steps).toNat+1 else 0)
    rw [if_pos qy.k0,if_pos aa.k0]; omega
structure nP (g:bD) (m:List State) (cs:List Cell) (d:hc):Prop where
 dz:ED g m cs
 D5:j6 g m m.length 0
 rf:∀ c∈cs,tL g m c
 qo:EH g m cs d
 tk:vb g
theorem NS (g:bD):∀ (l:List Cell) (R:List Act) {k:Nat}{x:Act},(l.foldl (λrow c=>row.set c.b5.toNat (qj g c)) R)[k]?=some x->R[k]?=some x\/∃ c∈l,c.b5.toNat=k/\x=qj g c
 | [],R,k,x,h=>.inl h
 | c::l,R,k,x,h=>by
  rcases NS g l _ h with aI | ⟨cj,aa,h1⟩
  ·rw [List.getElem?_set] at aI
   split at aI
   ·rename_i e
    split at aI
    ·cases aI; exact .inr ⟨c,by simp,e,rfl⟩
    ·cases aI
   ·exact .inl aI
  ·exact .inr ⟨cj,by simp [aa],h1⟩
theorem YK {α β:Type}{f:α->β}{l:List α}{i:Int}{y:β}(h:idx (l.map f) i=some y):∃ x,idx l i=some x/\y=f x:=by
 unfold idx at h ⊢
 split at h
 ·rename_i aK;rw [List.getElem?_map] at h;obtain ⟨x,h1,af⟩:=Option.map_eq_some_iff.1 h;exact ⟨x,by rw [if_pos aK]; exact h1,af.symm⟩
 ·cases h
theorem YM {n:Nat}{i:Int}{k:Nat}(h:idx (List.range n) i=some k):i=(k:Int)/\k<n:=by
 obtain ⟨aK,h1,af⟩:=mq h;obtain ⟨aF,bh⟩:=List.getElem?_eq_some_iff.1 af;rw [List.getElem_range] at bh;simp only [List.length_range] at h1;omega
theorem nP.act {g:bD}{m:List State}{cs:List Cell}{d:hc}(eU:nP g m cs d) {q k:Int}{r:List Act}{x:Act}(a_:idx d.cA q=some r) (hk:idx r k=some x):(x.Kind=1->oj m q k x.N)/\(x.Kind=2->oi g m q x.N)/\(x.Kind=3->r5 g m q ⟨0,1⟩):=by
 rw [eU.qo.a] at a_;obtain ⟨n,aB,rfl⟩:=YK a_;obtain ⟨rfl,aN⟩:=YM aB;obtain ⟨nB,_,fz⟩:=mq hk;unfold rowOf at fz;rcases NS g _ _ fz with h | ⟨c,aa,aeU,rfl⟩
 ·have:=List.mem_of_getElem? h;rw [List.mem_replicate] at this;rw [this.2];exact ⟨λh=>by simp at h,λh=>by simp at h,λh=>by simp at h⟩
 ·obtain ⟨sj,eV⟩:=List.mem_filter.1 aa;have eV:c.State=(n:Int):=of_decide_eq_true eV;have aW:=eU.dz.ce.ok c sj;have J:=eU.rf c sj;have au:c.b5=k:=by have:=aW.t.1; omega
  subst au;rw [<- eV];have CO:0<=c.k3->oj m c.State c.b5 c.k3:=λaK=>by
   rcases J.dS with ⟨e,_⟩ | ⟨st,v,h1,af,aF,bh⟩
   ·omega
   ·exact ⟨st,v,h1,af,aF,bh.symm⟩
  have Fz:c.nN=true->r5 g m c.State ⟨0,1⟩:=λh=>by
   obtain ⟨st,h1,af⟩:=J.ac h;exact ⟨st,h1,.base af ((eU.dz.Ge.pZ st (List.mem_of_getElem? (mq h1).2.2)).i _ af)⟩
  have sv:=aW.Rw;unfold qj;unfold oh at sv;cases bI:c.bu with
  | nil =>
   rw [bI] at sv;simp only;split
   ·rename_i aJ;exact ⟨λh=>by simp at h,λh=>by simp at h,λ_=>Fz aJ⟩
   ·rename_i aJ;refine ⟨λ_=>CO ?_,λh=>by simp at h,λh=>by simp at h⟩;rw [if_neg aJ] at sv;simp only [List.length_nil] at sv
    split at sv
    ·assumption
    ·omega
  | cons p r =>
   have Oq:oi g m c.State p:=J.T_ p (by rw [bI]; simp);simp only;split
   ·rename_i aJ;exact ⟨λh=>by simp at h,λh=>by simp at h,λ_=>Fz aJ⟩
   ·split
    ·exact ⟨λh=>by simp at h,λ_=>Oq,λh=>by simp at h⟩
    ·split
     ·exact ⟨λh=>by simp at h,λ_=>Oq,λh=>by simp at h⟩
     ·split
      ·exact ⟨λh=>by simp at h,λh=>by simp at h,λh=>by simp at h⟩
      ·exact ⟨λ_=>CO (by omega),λh=>by simp at h,λh=>by simp at h⟩
def ox (d:hc) (q k:Int):Act:=match idx d.cA q with
 | none=>⟨0,0⟩
 | some r=>if ((idx r k).getD ⟨0,0⟩).Kind=0/\hx (red r)≠-1 then ⟨2,hx (red r)⟩ else (idx r k).getD ⟨0,0⟩
def I0 (g:bD) (d:hc) (s a:Int):Int:=if 0<=a/\a<g.dE.length then D9 (f' d a.toNat) s else -1
def tI (g:bD) (d:hc):pC:=⟨ox d,I0 g d,λp=>((idx g.bu p).map (·.Left)).getD 0,λp=>((idx g.bu p).map (·.dF.length)).getD 0⟩
variable {g:bD}{m:List State}{cs:List Cell}{d:hc}{t:Tables}
theorem nP.do (eU:nP g m cs d):yZ g m.length d:=eU.qo.aU eU.dz
theorem Ve (eU:nP g m cs d) (bI:wK g d t) (s k:Int):wm t s k=some (ox d s k):=by
 have h7:=eU.do
 rw [Vd bI];unfold ox;cases ax:idx d.cA s with
 | none=>rfl
 | some r =>
  simp only;have hr:=h7.k6 r (kM ax).2.2;have ah:r.length<=1000:=by have:=h7.pJ.lq; omega
  have CB:=Qd h7.pJ hr.1 hr.2;cases hk:idx r k with
  | some x =>
   obtain ⟨aK,h1,af⟩:=mq hk;have:=Z_ h7.pJ h7.gP.2 ah af (hr.2 x (List.mem_of_getElem? af));rw [show ((k.toNat:Nat):Int)=k by omega,SK (hr.2 x (List.mem_of_getElem? af)) (CB.imp id λh=>h.1)] at this;rw [this]; rfl
  | none =>
   have o_:k<0\/(r.length:Int)<=k:=by
    unfold idx at hk
    split at hk
    ·have:=List.getElem?_eq_none_iff.1 hk;exact .inr (by omega)
    ·exact .inl (by omega)
   unfold D8;rw [show k' (sL r).hd k=(0,false) from VF o_]
   simp only [Bool.false_eq_true,if_false,Option.getD_none,true_and];rcases CB with e | ⟨aK,_⟩
   ·rw [e]; simp
   ·rw [if_neg (by omega),if_pos (by omega)]
theorem nP.ap (eU:nP g m cs d) (q k:Int):((ox d q k).Kind=1->oj m q k (ox d q k).N)/\((ox d q k).Kind=2->oi g m q (ox d q k).N/\oX g (ox d q k).N)/\((ox d q k).Kind=3->r5 g m q ⟨0,1⟩):=by
 have h7:=eU.do
 unfold ox;cases ax:idx d.cA q with
 | none=>exact ⟨λh=>by simp at h,λh=>by simp at h,λh=>by simp at h⟩
 | some r =>
  have hr:=h7.k6 r (kM ax).2.2;simp only;split
  ·rename_i aa;refine ⟨λh=>by simp at h,λ_=>?_,λh=>by simp at h⟩;rcases Qd h7.pJ hr.1 hr.2 with e | ⟨_,a,aJ,hk,e⟩
   ·exact absurd e aa.2
   ·obtain ⟨i,hi⟩:=List.getElem?_of_mem aJ;have h1:=(eU.act ax (Pl hi)).2.1 hk;have af:=(hr.2 a aJ).oa hk;rw [e] at h1 af; exact ⟨h1,af⟩
  ·cases hk:idx r k with
   | none=>exact ⟨λh=>by simp at h,λh=>by simp at h,λh=>by simp at h⟩
   | some x =>
    have:=eU.act ax hk;exact ⟨this.1,λh=>⟨this.2.1 h,(hr.2 x (kM hk).2.2).oa h⟩,this.2.2⟩
theorem nP.VI (eU:nP g m cs d) {s a cz:Int}(h:oj m s (1000+a) cz) (aK:0<=a):I0 g d s a=cz/\a<g.dE.length:=by
 have h7:=eU.do
 have hm:=eU.dz.Ge;obtain ⟨st,v,h1,af,aF,bh⟩:=h;have bU:=(kM h1).2.2;obtain ⟨_,_,ar⟩:=hm.sym eU.dz.pJ bU af;have aJ:a<g.dE.length:=by have:=ar (by omega); omega
 refine ⟨?_,aJ⟩;obtain ⟨n,rfl,aB⟩:=Kz h1;have J4:=(List.getElem?_eq_some_iff.1 aB).1;obtain ⟨k,rfl⟩:∃ k:Nat,a=(k:Int):=⟨a.toNat,by omega⟩;have hk:k<g.dE.length:=by omega
 have Cs:go m n (1000+(k:Int))=cz:=by
  rcases (go_eq hm n (1000+(k:Int))).2 with ⟨_,h⟩ | ⟨yI,dK,g1,g2,g3,g4⟩
  ·exact absurd aF (h st h1 v af)
  ·rw [g4];rw [h1] at g1; cases g1;have eA:=hm.nd st bU;have:v=dK:=by
    obtain ⟨i,hi,ca⟩:=List.mem_iff_getElem.1 af;obtain ⟨j,ag,b6⟩:=List.mem_iff_getElem.1 g2;have e:i=j:=by
     have aq:=List.pairwise_iff_getElem.1 eA;rcases Nat.lt_trichotomy i j with h | h | h
     ·exact (aq i j (by simpa using hi) (by simpa using ag) h (by simp [ca,b6,aF,g3])).elim
     ·exact h
     ·exact (aq j i (by simpa using ag) (by simpa using hi) h (by simp [ca,b6,aF,g3])).elim
    subst e;exact ca.symm.trans b6
   rw [<- this]; exact bh
 have Xb:(f' d k)[n]?=some cz:=by
  unfold f';rw [List.getElem?_map,eU.qo.o,List.getElem?_map,List.getElem?_range J4];simp only [Option.map_some];unfold vr;rw [List.getD_eq_getElem?_getD,List.getElem?_map,List.getElem?_range hk];simp [Cs]
 have X1:0<=cz:=by rw [<- bh]; exact (hm.aO st bU v af).t0
 unfold I0;rw [if_pos ⟨by omega,aJ⟩,Int.toNat_natCast,Z' (by have:=BL d k; have:=h7.o; have:=h7.gP; omega) Xb];unfold pe;by_cases e:cz=hx (pos (f' d k))
 ·simp [<- e]
 ·simp [e,X1]
theorem oj.st {q x s:Int}(eU:nP g m cs d) (h:oj m q x s):0<=s/\s<m.length:=by
 obtain ⟨st,v,h1,af,aF,bh⟩:=h;have:=eU.dz.Ge.aO st (kM h1).2.2 v af;rw [<- bh]; exact ⟨this.t0,this.t1⟩
def tS (m:List State) (st:List Int) (nd:List Node):Prop:=mI m st (nd.map (·.Sym))
theorem nP.path (eU:nP g m cs d):nQ (tI g d) (λq=>0<=q/\q<m.length) (tS m):=by
 have aQ:=eU.dz.pJ;have hm:=eU.dz.Ge;have top:∀ {st:List Int}{nd:List Node},tS m st nd->st[nd.length]?=some (fV st nd):=λ{st nd} h=>by
  have ah:=h.len;rw [List.length_map] at ah;have:nd.length<st.length:=by omega
  simp [fV,List.getD_eq_getElem?_getD,this]
 have red:∀ {st:List Int}{nd:List Node}{k p:Int},tS m st nd->ox d (fV st nd) k=⟨2,p⟩->∃ r cz,idx g.bu p=some r/\r.dF.length<=nd.length/\st[nd.length - r.dF.length]?=some (st.getD (nd.length - r.dF.length) 0)/\oj m (st.getD (nd.length - r.dF.length) 0) (1000+r.Left) cz:=λ{st nd k p} h aJ=>by
  obtain ⟨⟨S,bg,r,hr,aa⟩,sr⟩:oi g m (fV st nd) p/\oX g p:=by have:=(eU.ap (fV st nd) k).2.1; rw [aJ] at this; exact this rfl
  have ar:=h.back eU.D5 r.dF.length (top h) ⟨S,bg,aa⟩;obtain ⟨b,h1,af,_⟩:=ar.2 r.dF.length (Nat.le_refl _);rw [Int.sub_self] at af;have he:st.getD (nd.length - r.dF.length) 0=b:=by rw [List.getD_eq_getElem?_getD,h1]; rfl
  have fN:p≠0:=by have:=sr.1; omega
  obtain ⟨cz,X0⟩:=af.VH aQ eU.D5 (h.from h1) fN hr;exact ⟨r,cz,hr,ar.1,by rw [he]; exact h1,by rw [he]; exact X0⟩
 refine ⟨λ{st nd} h=>by have:=h.len; rwa [List.length_map] at this,λ{st nd} h q a_=>?_,λ{st nd k x} h hk J=>?_,λ{st nd k} h hk=>?_,λ{st nd k p x} h aJ J=>?_,λ{st nd} h aK=>?_,λ{st nd k} h hk=>?_⟩
 ·obtain ⟨i,hi⟩:=List.getElem?_of_mem a_;rcases h.from hi with rfl | ⟨b,x,he⟩
  ·have:=hm.gP; omega
  ·exact he.st eU
 ·have:=(eU.ap (fV st nd) k).1 hk;have:=mI.push h (by rw [List.length_map]; exact top h) this;unfold tS;rw [List.map_append,List.map_singleton,J];exact this
 ·obtain ⟨r,cz,hr,hle,_⟩:=red (k:=k) (p:=(ox d (fV st nd) k).N) h (by show ox d (fV st nd) k=_; rw [<- show (ox d (fV st nd) k).Kind=2 from hk])
  show ((idx g.bu (ox d (fV st nd) k).N).map (·.dF.length)).getD 0<=_;rw [hr]; exact hle
 ·obtain ⟨r,cz,hr,hle,bU,he⟩:=red (k:=k) (p:=p) h aJ;have hlen:(tI g d).len p=r.dF.length:=by show ((idx g.bu p).map (·.dF.length)).getD 0=_; rw [hr]; rfl
  have OL:(tI g d).left p=r.Left:=by show ((idx g.bu p).map (·.Left)).getD 0=_; rw [hr]; rfl
  have ux:0<=r.Left:=(aQ.gC r (kM hr).2.2).left.1;rw [hlen,OL];rw [OL] at J;have Cs:(tI g d).go (st.getD (nd.length - r.dF.length) 0) r.Left=cz:=(eU.VI he ux).1;rw [Cs];have au:=mI.take h (n:=nd.length - r.dF.length) (by rw [List.length_map]; omega);have C2:((nd.map (·.Sym)).take (nd.length - r.dF.length)).length=nd.length - r.dF.length:=by simp
  have:=mI.push au (a:=st.getD (nd.length - r.dF.length) 0) (x:=1000+r.Left) (b:=cz) (by rw [C2,List.getElem?_take,if_pos (by omega)]; exact bU) he;unfold tS;rw [List.map_append,List.map_singleton,J,List.map_take];rw [show nd.length+1 - r.dF.length=nd.length - r.dF.length+1 by omega];exact this
 ·have:=mI.take h (n:=nd.length - 1) (by rw [List.length_map]; omega);unfold tS;rw [List.map_take];rw [show nd.length - 1+1=nd.length by omega] at this;exact this
 ·have:=(h.back eU.D5 1 (top h) ((eU.ap (fV st nd) k).2.2 hk)).1;omega
def MB (T:List b5) (n v:Int):Prop:=(n<=0/\v=0)\/(0<n/\((∃ (k:Nat) (t:b5),T[k]?=some t/\t.cf=n/\v=(k:Int))\/((∀ (k:Nat) (t:b5),T[k]?=some t->t.cf≠n)/\v=2)))
theorem half {x:Int}(aK:0<=x) (h1:x<=1000000):aG (yE .u64 (IntKind.u64.wrap (aG x)) 1)=x / 2:=by
 have ca:aG x=x:=by rw [cC]; omega
 have b6:IntKind.u64.wrap x=x:=by rw [IntKind.wrap_u64]; omega
 rw [ca,b6];have eI:yE .u64 x 1=x / 2:=by
  show x.fdiv (2 ^ 1)=x / 2;rw [Int.fdiv_eq_ediv_of_nonneg _ (by decide)];rfl
 rw [eI,cC]; omega
theorem TV (l:List cH) (n:Int) (aJ:fc sH l) (ah:l.length<=1000):Tot (DU l n) λr=>(r.2=true->∃ p,idx l r.1=some p/\p∈l/\p.At=n)/\(r.2=false->∀ p∈l,p.At≠n):=by
 have HX:∀ {i j:Nat}(hi:i<l.length) (ag:j<l.length),i<=j->l[i].At<=l[j].At:=λ{i j} hi ag h=>by
  by_cases e:i=j
  ·subst e; omega
  ·have:=Gc.1 (List.pairwise_iff_getElem.1 aJ i j hi ag (by omega));omega
 unfold DU;refine .aA (Ξ:=λr:Int=>∃ k:Nat,r=(k:Int)/\k<=l.length/\(∀ (i:Nat) (h:i<l.length),i<k->l[i].At<n)/\∀ (i:Nat) (h:i<l.length),k<=i->n<=l[i].At) ?_ λr hr=>?_
 ·refine Tot.count (λs=>s.1 - s.2) 1 (λs=>∃ lo hi:Nat,s=((lo:Int),(hi:Int))/\lo<=hi/\hi<=l.length/\(∀ (i:Nat) (h:i<l.length),i<lo->l[i].At<n)/\∀ (i:Nat) (h:i<l.length),hi<=i->n<=l[i].At) ⟨0,l.length,rfl,Nat.zero_le _,Nat.le_refl _,λi h aI=>by omega,λi h aI=>by omega⟩ (by show 1 - (0 - (l.length:Int))<_; omega) λs ax=>?_;obtain ⟨lo,hi,rfl,h1,af,aF,bh⟩:=ax;simp only;refine Tot.bs (λaN=>?_) (λdH=>.al ⟨lo,rfl,by omega,aF,λi h aI=>bh i h (by omega)⟩);rw [half (by omega) (by omega)];have hm:∃ m:Nat,((lo:Int)+(hi:Int)) / 2=(m:Int)/\lo<=m/\m<hi:=⟨(lo+hi) / 2,by omega,by omega,by omega⟩;obtain ⟨m,hm,vH,JX⟩:=hm;rw [hm,et m (by omega),dR (by omega:m<l.length)];obtain ⟨v,hv,qC,tm⟩:=Ic (l[m]'(by omega)).At n;simp only [Option.bind_some,AR,hv];refine .aA (Ξ:=λj:Int × Int=>(∃ x1 qz:Nat,j=((x1:Int),(qz:Int))/\x1<=qz/\qz<=l.length/\(∀ (i:Nat) (h:i<l.length),i<x1->l[i].At<n)/\∀ (i:Nat) (h:i<l.length),qz<=i->n<=l[i].At)/\(lo:Int) - (hi:Int)<j.1 - j.2/\j.1 - j.2<=1) ?_ λj ag=>.al ag;refine .aA (Ξ:=λj:Int × Int=>(∃ x1 qz:Nat,j=((x1:Int),(qz:Int))/\x1<=qz/\qz<=l.length/\(∀ (i:Nat) (h:i<l.length),i<x1->l[i].At<n)/\∀ (i:Nat) (h:i<l.length),qz<=i->n<=l[i].At)/\(lo:Int) - (hi:Int)<j.1 - j.2/\j.1 - j.2<=1) ?_ λj ag=>.al ag;refine Tot.bs (λCB=>.al ⟨⟨m+1,hi,rfl,by omega,af,λi h aI=>?_,bh⟩,by show (lo:Int) - hi<((m+1:Nat):Int) - hi; omega,by show ((m+1:Nat):Int) - hi<=1; omega⟩) (λpU=>.al ⟨⟨lo,m,rfl,vH,by omega,aF,λi h aI=>?_⟩,by show (lo:Int) - hi<lo - m; omega,by show (lo:Int) - m<=1; omega⟩)
  ·have:=HX h (by omega:m<l.length) (by omega);have:=qC.1 CB;omega
  ·have:=HX (by omega:m<l.length) h aI;have:¬ (l[m]'(by omega)).At<n:=λh=>pU (qC.2 h);omega
 ·obtain ⟨k,rfl,hk,h1,af⟩:=hr;refine .aA (Ξ:=λc:Int × Bool=>(c.2=true->∃ p,idx l c.1=some p/\p∈l/\p.At=n)/\(c.2=false->∀ p∈l,p.At≠n)) ?_ λc aa=>.al aa;refine Tot.bs (λaN=>?_) (λdH=>.al ⟨λh=>(by cases h),λ_ p aq=>?_⟩)
  ·have aN:k<l.length:=by omega
   rw [dR aN];obtain ⟨v,hv,qC,tm⟩:=Ic l[k].At n;simp only [Option.bind_some,AR,hv];refine .al ⟨λh=>⟨_,dR aN,List.getElem_mem aN,tm.1 (of_decide_eq_true h)⟩,λh p aq=>?_⟩;obtain ⟨i,hi,rfl⟩:=List.mem_iff_getElem.1 aq;have cQ:l[k].At≠n:=λe=>of_decide_eq_false h (tm.2 e);by_cases vG:i<k
   ·have:=h1 i hi vG; omega
   ·have aw:=HX aN hi (by omega);have a2:=af k aN (Nat.le_refl _);omega
  ·obtain ⟨i,hi,rfl⟩:=List.mem_iff_getElem.1 aq;have:=h1 i hi (by omega);omega
theorem ua (g:bD) (aQ:vb g) (l:List cH) (n:Int) (aJ:fc sH l) (ah:l.length<=1000) (hm:∀ p,p∈l↔tQ g.br p):Tot (wh l n) (MB g.br n):=by
 unfold wh;refine Tot.bs (λh=>.al (.inl ⟨h,rfl⟩)) (λh=>?_);refine .aA (TV l n aJ ah) λr hr=>Tot.bN (λaV=>.al (.inr ⟨by omega,.inr ⟨λk t au e=>?_,rfl⟩⟩)) (λau=>?_)
 ·exact hr.2 (by simpa using aV) ⟨t.cf,(k:Int)⟩ ((hm _).2 ⟨k,t,au,by omega,rfl⟩) e
 ·obtain ⟨p,aq,J8,e⟩:=hr.1 (by simpa using au);rw [aq];obtain ⟨k,t,h1,af,rfl⟩:=(hm p).1 J8;exact .al (.inr ⟨by omega,.inl ⟨k,t,h1,e,rfl⟩⟩)
variable {g:bD}{m:List State}{cs:List Cell}{d:hc}{t:Tables}
theorem nP.hR (eU:nP g m cs d) (bI:wK g d t):zj t (tI g d) (λq=>0<=q/\q<m.length):=by
 refine ⟨λ{q} k _=>Ve eU bI q k,λ{q k p s} _ _ _=>?_,λ{q k p} _ aJ=>?_⟩
 ·rw [U5 bI]; rfl
 ·obtain ⟨⟨_,_,r,hr,_⟩,_⟩:oi g m q p/\oX g p:=by have:=(eU.ap q k).2.1; rw [show ox d q k=⟨2,p⟩ from aJ] at this; exact this rfl
  obtain ⟨aK,h1,af⟩:=mq hr;have ah:=(eU.dz.pJ.gC r (kM hr).2.2).left;have aB:=eU.dz.pJ.eZ;have ca:(tI g d).len p=r.dF.length:=by show ((idx g.bu p).map (·.dF.length)).getD 0=_; rw [hr]; rfl
  have b6:(tI g d).left p=r.Left:=by show ((idx g.bu p).map (·.Left)).getD 0=_; rw [hr]; rfl
  rw [ca,b6,bI.jW,bI.le];unfold idx;rw [if_pos aK,if_pos aK,List.getElem?_map,List.getElem?_map,af];exact ⟨rfl,rfl,ah.1,by omega⟩
theorem lr (s:Source) (ar:ve s):Tot (AN s) λr=>r.2.2.2=true->ED r.1 r.2.1 r.2.2.1/\j6 r.1 r.2.1 r.2.1.length 0/\(∀ c∈r.2.2.1,tL r.1 r.2.1 c)/\vb r.1:=by
 have z93:Par (yv s) λr=>r.2=true->vb r.1:=by
  unfold yv;exact λr hr h=>by
   obtain ⟨x,h1,af⟩:=Option.bind_eq_some_iff.1 hr;cases af;have h:x.2.1=0:=of_decide_eq_true h;exact Zx s ar x h1 h
 unfold AN Gy;refine .aA (Ξ:=λr=>r.2.2=true->fZ r.1/\vb r.1/\nq r.1 r.2.1/\j6 r.1 r.2.1 r.2.1.length 0) ?_ λr hr=>Tot.bN (λ_=>.al λh=>by cases h) (λh=>?_)
 ·refine .aA (Par.jB (t93 s ar) z93) λr hr=>Tot.bN (λ_=>.al λh=>by cases h) (λh=>?_);have h:r.2=true:=by simpa using h
  refine .aA (ZG r.1 (hr.1 h)) λx J=>.al λaf=>⟨hr.1 h,hr.2 h,?_⟩;have af:x.2=0:=of_decide_eq_true af;rcases J with J | J
  ·exact J.2
  ·omega
 ·obtain ⟨aQ,hk,hm,hw⟩:=hr (by simpa using h);exact .aA (ZF r.1 aQ hm) λrG ON=>.aA (ZE r.1 aQ hm rG ON.1 ON.2) λcs eV=>.al λ_=>⟨⟨aQ,hm,eV.1⟩,hw,eV.2,hk⟩
theorem aY (s:Source) (ar:ve s):Tot (yc s) λr=>r.2.2.2=true->∃ m cs,nP r.1 m cs r.2.1:=by
 unfold yc;refine .aA (lr s ar) λr hr=>Tot.bN (λ_=>.al λh=>by cases h) (λh=>?_);obtain ⟨dC,hw,aa,hk⟩:=hr (by simpa using h);exact .aA (ub r.1 r.2.1 r.2.2.1 dC) λx J=>.aA (TQ dC.pJ dC.ce) λn _=>.al λ_=>⟨_,_,dC,hw,aa,J.1,hk⟩
def En (t:Tables) (n:Int):Int:=(wh t.jl n).getD 0
def r0 (t:Tables) (l:List Int):List Int:=(l.takeWhile λn=>decide (0<n)).map (En t)
theorem U8 (eU:nP g m cs d) (bI:wK g d t) (n:Int):wh t.jl n=some (En t n)/\MB g.br n (En t n):=by
 obtain ⟨h1,af,aF⟩:=bI.Zg;obtain ⟨v,hv,hi⟩:=ua g eU.tk t.jl n h1 af aF;unfold En;rw [hv]; exact ⟨rfl,hi⟩
def start:hJ:=⟨[0],[],0,⟨0,0,0,0,[],[],[],⟨0,0,0,GR⟩⟩,false⟩
theorem hU.start {Q:List Int->List Node->Prop}(a_:Q [0] []) {tk:List Int}(au:tk.length<=1000000000000) {D S:Int}(h7:0<=D/\D<=100000) (bg:0<=S/\S<=1000000):hU Q tk D S start:=by
 refine ⟨a_,?_,h7.2,bg.2,au,rfl,?_,?_,?_,?_,?_,?_,?_,?_,?_,λ_=>?_,λx J=>(by cases J),λh=>(by cases h),?_,?_⟩
 all_goals simp only [Go.Proofs.start,List.length_nil]
 all_goals omega
theorem Rt {α:Type}(p:α->Bool):∀ (l:List α) {k:Nat}(hk:k<l.length),(∀ i (hi:i<k),p (l[i]'(by omega))=true)->p l[k]=false->l.takeWhile p=l.take k
 | [],k,hk,_,_=>by simp at hk
 | a::l,0,hk,_,h=>by
  have h:p a=false:=h;simp [h]
 | a::l,k+1,hk,h1,af=>by
  have aJ:p a=true:=h1 0 (by omega);rw [List.takeWhile_cons,if_pos aJ,List.take_succ_cons,Rt p l (k:=k) (by simpa using hk) (λi hi=>h1 (i+1) (by omega)) af]
theorem abd {α:Type}(p:α->Bool) {l:List α}(h:∀ x∈l,p x=true):l.takeWhile p=l:=by
 induction l with
 | nil=>rfl
 | cons a l aM=>rw [List.takeWhile_cons,if_pos (h a (by simp)),aM λx J=>h x (by simp [J])]
theorem TP (eU:nP g m cs d) (bI:wK g d t) (l:List Int) (ah:l.length<=1000000) (D S:Int):Tot (pj t l D S) λP=>gp (tI g d) (r0 t l) (min (max D 0) 100000) (min (max S 0) 1000000) start P:=by
 unfold pj;refine .aA (Ξ:=λr=>r=r0 t l) (.aA (Ξ:=λr=>r=r0 t l) ?_ λr hr=>.al hr) λr hr=>?_
 ·refine Tot.upto (λs=>s.2) l.length (λk s=>s.1=(l.take k).map (En t)/\∀ i (hi:i<k) (ah:i<l.length),0<l[i]) rfl (by omega) ⟨rfl,λi hi=>by omega⟩ λk s hk he bf=>?_;obtain ⟨A,i⟩:=s;obtain ⟨h1,af⟩:=bf;simp only at he h1 af ⊢;subst he h1;rw [et k (by omega)];refine Tot.bs (λaN=>?_) (λdH=>.al ?_)
  ·have aN:k<l.length:=by omega
   rw [dR aN];refine Tot.aT (Tot.bs (λaK=>.al ?_) (λaK=>?_))
   ·unfold r0;rw [Rt _ l aN (λi hi=>decide_eq_true (af i hi (by omega))) (decide_eq_false (by omega))];exact rfl
   ·rw [(U8 eU bI _).1];refine Tot.aT (.bK<|.al ⟨aN,rfl,?_,λi hi hP=>?_⟩)
    ·show _=(l.take (k+1)).map _;rw [l9 aN,List.map_append]; rfl
    ·by_cases e:i=k
     ·subst e; omega
     ·exact af i (by omega) hP
  ·unfold r0;have e:l.take k=l:=List.take_of_length_le (by omega);have J:∀ x∈l,decide (0<x)=true:=λx J=>by
    obtain ⟨i,hi,rfl⟩:=List.mem_iff_getElem.1 J;exact decide_eq_true (af i (by omega) hi)
   rw [e,abd _ J];exact rfl
 ·subst hr;have au:(r0 t l).length<=1000000000000:=by
   have:=(List.takeWhile_sublist (λn:Int=>decide (0<n)) (l:=l)).length_le;unfold r0;rw [List.length_map]; omega
  have a_:tS m [0] []:=mI.start;exact .aA (Y5 eU.path (eU.hR bI) (hU.start (D:=min (max D 0) 100000) (S:=min (max S 0) 1000000) a_ au (by omega) (by omega)) rfl) λx J=>.al J
structure q2 (a b:eH):Prop where
 s:a.Steps<=b.Steps
 d:a.Deep<=b.Deep
 p:a.bu <+: b.bu
 u:a.eo <+: b.eo
 l:a.e2 <+: b.e2
theorem q2.refl (a:eH):q2 a a:=⟨Int.le_refl _,Int.le_refl _,List.prefix_refl _,List.prefix_refl _,List.prefix_refl _⟩
theorem q2.trans {a b c:eH}(h:q2 a b) (aI:q2 b c):q2 a c:=⟨Int.le_trans h.s aI.s,Int.le_trans h.d aI.d,h.p.trans aI.p,h.u.trans aI.u,h.l.trans aI.l⟩
structure yR (c:hJ) (p:eH):Prop where
 e:q2 c.p p
 s:p.Steps=c.p.Steps
 d:p.Deep=c.p.Deep
 a:p.At=c.p.At
 t:p.Tree=c.p.Tree
 q:p.bu=c.p.bu
 l:p.e2=c.p.e2
 u:p.eo.length<=c.p.eo.length+1/\(c.hM=3->p.eo=c.p.eo)
variable {B:pC}{V:Int->Prop}{Q:List Int->List Node->Prop}{tk:List Int}{D S:Int}{c:hJ}
theorem yR.refl:yR c c.p:=⟨.refl _,rfl,rfl,rfl,rfl,rfl,rfl,by omega,λ_=>rfl⟩
theorem yR.up (aV:c.hM≠3):yR c (r1 c).p:=⟨⟨Int.le_refl _,Int.le_refl _,List.prefix_refl _,⟨_,rfl⟩,List.prefix_refl _⟩,rfl,rfl,rfl,rfl,rfl,rfl,by simp [r1],λh=>absurd h aV⟩
structure Mg (c:hJ) (p:eH) (n:Int) (r:hJ):Prop where
 e:q2 p r.p
 s:r.p.Steps=p.Steps+1
 t:r.p.Tree=p.Tree
 n:(c.nd.length:Int)<=c.p.Deep->n<=r.p.Deep
 o:c.nd.length=0->c.hM≠3->1<=r.p.Deep
theorem Qx {c0:hJ}(aR:c0.p.Deep=c.p.Deep) (aB:c0.nd=c.nd) {p:eH}{n:Int}{r:hJ}(e:pk B c0=.go p n r):p=c0.p/\Mg c p n r:=by
 unfold pk at e
 split at e
 ·cases e;refine ⟨rfl,⟨by show c0.p.Steps<=c0.p.Steps+1; omega,by show c0.p.Deep<=max _ _; omega,List.prefix_refl _,List.prefix_refl _,List.prefix_refl _⟩,rfl,rfl,λ_=>?_,λ_ _=>?_⟩
  ·show _<=max c0.p.Deep ((c0.nd.length:Int)+1 - (0:Nat)); omega
  ·show 1<=max c0.p.Deep ((c0.nd.length:Int)+1 - (0:Nat)); omega
 ·split at e
  ·cases e
  ·rename_i aK;cases e;refine ⟨rfl,⟨by show c0.p.Steps<=c0.p.Steps+1; omega,Int.le_refl _,List.prefix_refl _,List.prefix_refl _,List.prefix_refl _⟩,rfl,rfl,λh=>?_,λh=>?_⟩
   ·show _<=c0.p.Deep; rw [aR,aB]; omega
   ·rw [aB] at aK; exact absurd h aK
theorem Fg {a b:eH}(h1:a.Steps=b.Steps) (af:a.Deep=b.Deep) (aF:a.bu=b.bu) (bh:a.eo=b.eo) (b7:a.e2=b.e2):q2 a b:=⟨by omega,by omega,aF ▸ List.prefix_refl _,bh ▸ List.prefix_refl _,b7 ▸ List.prefix_refl _⟩
theorem vY {p:eH}{n:Int}{r:hJ}(aF:c.pop=true->c.hM=3) (e:iP B tk c=.go p n r) (ah:∀ k,(B.act (fV c.st c.nd) k).Kind=2->B.len (B.act (fV c.st c.nd) k).N<=c.nd.length):yR c p/\Mg c p n r:=by
 unfold iP at e
 split at e
 ·obtain ⟨rfl,h⟩:=Qx (c:=c) rfl rfl e;exact ⟨.refl,h⟩
 ·split at e
  ·cases e;refine ⟨.refl,⟨by show c.p.Steps<=c.p.Steps+1; omega,by show c.p.Deep<=max _ _; omega,List.prefix_refl _,List.prefix_refl _,List.prefix_refl _⟩,rfl,rfl,λ_=>?_,λ_ _=>?_⟩
   ·show _<=max c.p.Deep ((c.nd.length:Int)+1 - (0:Nat)); omega
   ·show 1<=max c.p.Deep ((c.nd.length:Int)+1 - (0:Nat)); omega
  ·split at e
   ·rename_i hk;have:=ah _ hk;cases e;refine ⟨.refl,⟨by show c.p.Steps<=c.p.Steps+1; omega,by show c.p.Deep<=max _ _; omega,⟨_,rfl⟩,List.prefix_refl _,List.prefix_refl _⟩,rfl,rfl,λ_=>?_,λh _=>?_⟩
    ·show _<=max c.p.Deep ((c.nd.length:Int)+1 - (B.len _:Nat)); omega
    ·show 1<=max c.p.Deep ((c.nd.length:Int)+1 - (B.len _:Nat)); omega
   ·split at e
    ·cases e
    ·split at e
     ·rename_i aV
      split at e
      ·cases e
      ·cases e;exact ⟨.refl,⟨by show c.p.Steps<=c.p.Steps+1; omega,Int.le_refl _,List.prefix_refl _,List.prefix_refl _,⟨_,rfl⟩⟩,rfl,rfl,λh=>h,λ_ h=>absurd aV h⟩
     ·rename_i aV;obtain ⟨rfl,h⟩:=Qx (c0:=r1 c) (c:=c) rfl rfl e;exact ⟨.up aV,h⟩
theorem K3 {p:eH}(e:iP B tk c=.fin p):q2 c.p p/\p.Steps=c.p.Steps/\p.Deep=c.p.Deep/\p.At=c.p.At/\p.bu=c.p.bu/\p.e2=c.p.e2/\(p.eo.length<=c.p.eo.length+1/\(c.hM=3->p.eo=c.p.eo))/\(p.Tree=c.p.Tree\/(p.Tree=c.nd.getD (c.nd.length - 1) default/\∃ k,(B.act (fV c.st c.nd) k).Kind=3)):=by
 have Qu:∀ {c0:hJ}{p:eH},pk B c0=.fin p->p={ c0.p with Kind:=2 }:=λ{c0 p} e=>by
  unfold pk at e
  split at e
  ·cases e
  ·split at e
   ·cases e; rfl
   ·cases e
 unfold iP at e
 split at e
 ·rw [Qu e]; exact ⟨Fg rfl rfl rfl rfl rfl,rfl,rfl,rfl,rfl,rfl,⟨by simp,λ_=>rfl⟩,.inl rfl⟩
 ·split at e
  ·cases e
  ·split at e
   ·cases e
   ·split at e
    ·rename_i hk;cases e; exact ⟨Fg rfl rfl rfl rfl rfl,rfl,rfl,rfl,rfl,rfl,⟨by simp,λ_=>rfl⟩,.inr ⟨rfl,_,hk⟩⟩
    ·split at e
     ·split at e
      ·cases e; exact ⟨Fg rfl rfl rfl rfl rfl,rfl,rfl,rfl,rfl,rfl,⟨by simp,λ_=>rfl⟩,.inl rfl⟩
      ·cases e
     ·rename_i aV;have a:=yR.up aV;rw [Qu e]; exact ⟨⟨a.e.s,a.e.d,a.e.p,a.e.u,a.e.l⟩,rfl,rfl,rfl,rfl,rfl,a.u,.inl rfl⟩
theorem gp.ex (bI:nQ B V Q) {P:eH}(h:gp B tk D S c P):hU Q tk D S c->q2 c.p P:=by
 induction h with
 | fin h=>exact λ_=>(K3 h).1
 | lim h ah =>
  intro aa;have:=(vY aa.rM h λk hk=>bI.p5 aa.q hk).1.e;exact ⟨this.s,this.d,this.p,this.u,this.l⟩
 | go h ah _ aM =>
  intro aa;obtain ⟨h1,af⟩:=vY aa.rM h λk hk=>bI.p5 aa.q hk;exact (h1.e.trans af.e).trans (aM (rH bI aa h ah).1)
structure Mu (tk:List Int) (D S:Int) (P:eH):Prop where
 e6:0<=P.Steps
 s:P.Steps<=S
 d0:0<=P.Deep
 d:P.Deep<=D
 p:P.bu.length<=1000000
 l:P.e2.length<=1000000
 u:P.eo.length<=1000001
 t:pB 1000001 P.Tree
theorem gp.v8 (bI:nQ B V Q) {P:eH}(h:gp B tk D S c P):hU Q tk D S c->pB 1000001 c.p.Tree->Mu tk D S P:=by
 induction h with
 | @fin c p h =>
  intro aa au;obtain ⟨_,ca,b6,eI,k_,s_,⟨Va,IE⟩,II⟩:=K3 h;have ⟨_,_,_,_,_,_,_,_,_,_,_,_,_,_,_,_,_,_,_,_⟩:=aa;refine ⟨by omega,by omega,by omega,by omega,by rw [k_]; omega,by rw [s_]; omega,?_,?_⟩
  ·by_cases aV:c.hM=3
   ·rw [IE aV]; omega
   ·have:=aa.yL aV; omega
  ·rcases II with e | ⟨e,k,hk⟩
   ·rw [e]; exact au
   ·rw [e];have:=bI.ac aa.q hk;have aN:c.nd.length - 1<c.nd.length:=by omega
    rw [List.getD_eq_getElem?_getD,List.getElem?_eq_getElem aN];exact (aa.c3 _ (List.getElem_mem aN)).up (by omega)
 | @lim c r p n h ah =>
  intro aa au;obtain ⟨h1,_⟩:=vY aa.rM h λk hk=>bI.p5 aa.q hk;have ⟨_,ca,b6,eI,II,k_,s_,Va,IE⟩:=h1;have ⟨_,_,_,_,_,_,_,_,_,_,_,_,_,_,_,_,_,_,_,_⟩:=aa;refine ⟨by simp only; omega,by simp only; omega,by simp only; omega,by simp only; omega,by simp only; rw [k_]; omega,by simp only; rw [s_]; omega,?_,by simp only; rw [II]; exact au⟩;simp only;by_cases aV:c.hM=3
  ·rw [IE aV]; omega
  ·have:=aa.yL aV; omega
 | go h ah _ aM =>
  intro aa au;obtain ⟨h1,af⟩:=vY aa.rM h λk hk=>bI.p5 aa.q hk;exact aM (rH bI aa h ah).1 (by rw [af.t,h1.t]; exact au)
theorem gp.U2 {P Mt:eH}(h:gp B tk D S c P):gp B tk D S c Mt->P=Mt:=by
 induction h with
 | fin h =>
  intro aI;cases aI with
  | fin g=>rw [h] at g; cases g; rfl
  | lim g _=>rw [h] at g; cases g
  | go g _ _=>rw [h] at g; cases g
 | lim h ah =>
  intro aI;cases aI with
  | fin g=>rw [h] at g; cases g
  | lim g _=>rw [h] at g; cases g; rfl
  | go g aB _=>rw [h] at g; cases g; exact absurd ah aB
 | go h ah _ aM =>
  intro aI;cases aI with
  | fin g=>rw [h] at g; cases g
  | lim g aB=>rw [h] at g; cases g; exact absurd aB ah
  | go g _ hr=>rw [h] at g; cases g; exact aM hr
theorem Hg {α:Type}{x:Option α}{a:α}(h:Tot x λr=>r=a):x=some a:=by
 obtain ⟨_,h,rfl⟩:=h;exact h
theorem U_:∀ {n:Nat}{x:Node},pB n x->yo n x x=some true:=by
 intro n x h
 induction h with
 | @mk n s p a L ah h aM =>
  suffices cV:Tot (yo (n+1) ⟨s,p,a,nf dn L⟩ ⟨s,p,a,nf dn L⟩) λr=>r=true by
   obtain ⟨r,hr,e⟩:=cV; rw [hr,e]
  unfold yo;have aB:(nf dn L).n=L.length:=rfl;simp only [decide_true,Bool.not_true,cond_false,Option.bind_some,aB,U1];refine .aA (Ξ:=h4 (λ_:Unit=>True) (λ_:Bool=>False)) ?_ λx J=>?_
  ·refine Tot.upto (λs=>s) L.length (λ_ _=>True) rfl (by omega) trivial λk s hk he _=>?_;subst he;rw [et k (by omega)];refine Tot.bs (λaN=>?_) (λ_=>.al trivial);have aN:k<L.length:=by omega
   rw [dR aN];simp only [Option.bind_some,aM _ (List.getElem_mem aN),Bool.not_true,cond_false];exact .al ⟨aN,rfl,trivial⟩
  ·rcases x with x | x
   ·exact .al rfl
   ·exact J.elim
theorem U9 (l:List qi) (h:l.length<=1000000000):Tot (AQ l l) λc=>c=true:=by
 unfold AQ;simp only [decide_true,Bool.not_true,cond_false];refine .aA (Ξ:=h4 (λ_:Unit=>True) (λ_:Bool=>False)) ?_ λx J=>?_
 ·refine Tot.upto (λs=>s) l.length (λ_ _=>True) rfl (by omega) trivial λk s hk he _=>?_;subst he;rw [et k (by omega)];refine Tot.bs (λaN=>?_) (λ_=>.al trivial);have aN:k<l.length:=by omega
  rw [dR aN];simp only [Option.bind_some,decide_true,BEq.rfl,Bool.and_self,Bool.not_true,cond_false];exact .al ⟨aN,rfl,trivial⟩
 ·rcases x with x | x
  ·exact .al rfl
  ·exact J.elim
theorem Nr {P:eH}(h:Mu tk D S P):yi P P=some true:=by
 have h1:rP P.bu P.bu=some true:=Hg (wX _ (by have:=h.p; omega));have af:rP P.e2 P.e2=some true:=Hg (wX _ (by have:=h.l; omega));have aF:AQ P.eo P.eo=some true:=Hg (U9 _ (by have:=h.u; omega));have bh:Gx P.Tree P.Tree=some true:=U_ (h.t.up (by unfold fuel; omega));unfold yi;simp only [decide_true,cond_true,h1,af,aF,bh,Option.bind_some]
theorem Hc:pB 1000001 start.p.Tree:=pB.leaf (by omega) 0 0 0
theorem iU (g:bD) (aQ:fZ g) (l:List Int) (n:Int) (aK:0<=n) (aB:n<=1000):Tot (DB g l n) λr=>r.length<=n:=by
 have au:=aQ.lq;unfold DB;refine .aA (Ξ:=λr=>(r.length:Int)<=n) ?_ λr hr=>.al hr;refine Tot.count (λs=>s.2) n (λs=>0<=s.2/\s.2<=n/\(s.1.length:Int)=s.2) ⟨Int.le_refl _,aK,rfl⟩ (by show n - 0<_; omega) λs ax=>?_;obtain ⟨A,i⟩:=s;obtain ⟨h1,af,aF⟩:=ax;simp only at h1 af aF ⊢;refine .aA (Ξ:=λb:Bool=>b=true->i<l.length/\i<n) (Tot.bs (λh=>.al λaI=>⟨h,of_decide_eq_true aI⟩) (λ_=>.al λh=>by cases h)) λb ar=>?_;refine Tot.bN (λW8=>?_) (λ_=>.al (by show (A.length:Int)<=n; omega));obtain ⟨bh,b7⟩:=ar W8;obtain ⟨y,ao,_⟩:=nG h1 bh;rw [ao];refine .aA (Ξ:=λL:List Int=>L.length=A.length+1) ?_ λL fM=>.al ⟨⟨?_,?_,?_⟩,?_,?_⟩
 ·refine Tot.aT (.aA (t19 y (aG ((g.br.length:Int) - 2)) (by rw [kA (by omega) (by omega)]; omega) (by rw [kA (by omega) (by omega)]; omega)) λk hk=>?_);rw [kA (by omega) (by omega)] at hk;refine .aA (Ξ:=λL:List Int=>L.length=A.length+1) (Tot.bs (λh=>?_) (λh=>.bK<|.al (by simp))) λL fM=>.al fM;obtain ⟨t,ry,_⟩:=nG (l:=g.br) (i:=k+2) (by omega) (by omega);rw [kA (n:=k+2) (by omega) (by omega),ry];exact Tot.aT (.bK<|.al (by simp))
 all_goals simp only
 all_goals rw [kA (n:=i+1) (by omega) (by omega)]
 all_goals omega
variable {B:pC}{V:Int->Prop}{Q:List Int->List Node->Prop}{tk:List Int}{D S:Int}{c:hJ}
theorem gp.more (bI:nQ B V Q) {Hy HK:Int}(h7:D<=Hy) (bg:S<=HK) {a b:eH}(h:gp B tk D S c a):hU Q tk D S c->hU Q tk Hy HK c->gp B tk Hy HK c b->(a.Kind=3/\q2 a b)\/(a.Kind≠3/\a=b):=by
 induction h with
 | fin h =>
  intro aa dQ aI;have hk:=PU h;cases aI with
  | fin g=>rw [h] at g; cases g; exact .inr ⟨by omega,rfl⟩
  | lim g _=>rw [h] at g; cases g
  | go g _ _=>rw [h] at g; cases g
 | lim h ah =>
  intro aa dQ aI;obtain ⟨h1,af⟩:=vY aa.rM h λk hk=>bI.p5 aa.q hk;refine .inl ⟨rfl,?_⟩;cases aI with
  | fin g=>rw [h] at g; cases g
  | lim g _=>rw [h] at g; cases g; exact Fg rfl rfl rfl rfl rfl
  | go g aB hr =>
   rw [h] at g; cases g;have:=af.e.trans (hr.ex bI (rH bI dQ h aB).1);exact ⟨this.s,this.d,this.p,this.u,this.l⟩
 | go h ah _ aM =>
  intro aa dQ aI;obtain ⟨h1,af⟩:=vY aa.rM h λk hk=>bI.p5 aa.q hk;have:=aa.Ha;have:=h1.s;cases aI with
  | fin g=>rw [h] at g; cases g
  | lim g aB=>rw [h] at g; cases g; exfalso; omega
  | go g aB hr =>
   rw [h] at g; cases g;exact aM (rH bI aa h ah).1 (rH bI dQ h aB).1 hr
theorem gp.exact (bI:nQ B V Q) {a:eH}(h:gp B tk D S c a):hU Q tk D S c->a.Kind≠3->∀ {Hz HL:Int},a.Deep<=Hz->a.Steps<=HL->gp B tk Hz HL c a:=by
 induction h with
 | fin h=>exact λ_ _ _ _ _ _=>.fin h
 | lim h ah=>exact λ_ h=>absurd rfl h
 | go h ah hr aM =>
  intro aa hk Hz HL h1 af;obtain ⟨aF,bh⟩:=vY aa.rM h λk hk=>bI.p5 aa.q hk;have dQ:=(rH bI aa h ah).1;have b7:=hr.ex bI dQ;have:=bh.n aa.d0;have:=bh.s;have:=b7.s;have:=b7.d;exact .go h (by omega) (aM dQ hk h1 af)
theorem gp.deep (bI:nQ B V Q) {a:eH}(h:gp B tk D S start a) (aa:hU Q tk D S start) (hk:a.Kind≠3) (aK:a.Steps≠0):1<=a.Deep:=by
 cases h with
 | fin h =>
  have:=(K3 h).2.1;exact absurd this aK
 | lim h ah=>exact absurd rfl hk
 | go h ah hr =>
  obtain ⟨aF,bh⟩:=vY aa.rM h λk hk=>bI.p5 aa.q hk;have:=(hr.ex bI (rH bI aa h ah).1).d;have:=bh.o rfl (by decide);omega
theorem t4 (x:qZ) (w:List Int) (IB st K5:Int):AP x w IB st K5=some true:=by
 suffices h:Tot (AP x w IB st K5) λr=>r=true by
  obtain ⟨r,hr,e⟩:=h; rw [hr,e]
 unfold AP;rw [abN];refine Tot.aT (.aA (t10 x) λy ar=>.aA (aY y ar) λD aR=>Tot.bN (λ_=>.al rfl) (λh=>?_));obtain ⟨m,cs,eU⟩:=aR (by simpa using h);generalize D.1=g at *;generalize D.2.1=d at *;refine .aA (qn g m.length d eU.do eU.tk) λt bI=>.aA (iU g eU.dz.pJ w 30 (by decide) (by decide)) λl ah=>.aA (t19 IB 60 (by decide) (by decide)) λD h7=>.aA (t19 st 200 (by decide) (by decide)) λS bg=>.aA (t19 K5 500 (by decide) (by decide)) λM zG=>?_;have uk:=eU.path;have a_:tS m [0] []:=mI.start;have CR:(r0 t l).length<=1000000000000:=by
  have:=(List.takeWhile_sublist (λn:Int=>decide (0<n)) (l:=l)).length_le;unfold r0;rw [List.length_map]; omega
 have ci:∀ {D S:Int},0<=D/\D<=100000->0<=S/\S<=1000000->hU (tS m) (r0 t l) D S start:=λh7 bg=>hU.start a_ CR h7 bg;have run:∀ D S:Int,D<=100000->0<=S/\S<=1000000->Tot (pj t l D S) λP=>gp (tI g d) (r0 t l) (max D 0) S start P:=λD S h7 bg=>(TP eU bI l (by omega) D S).use λP h=>by
  rw [show min (max D 0) 100000=max D 0 by omega,show min (max S 0) 1000000=S by omega] at h;exact h
 rw [kA (n:=D+M) (by omega) (by omega),kA (n:=S+M) (by omega) (by omega)];refine .aA (run D S (by omega) (by omega)) λa aJ=>.aA (run (D+M) (S+M) (by omega) (by omega)) λb ar=>?_;rw [show max D 0=D by omega] at aJ;rw [show max (D+M) 0=D+M by omega] at ar;have je:=aJ.v8 uk (ci (by omega) (by omega)) Hc;have v8:=ar.v8 uk (ci (by omega) (by omega)) Hc;have zK:=aJ.more uk (by omega) (by omega) (ci (by omega) (by omega)) (ci (by omega) (by omega)) ar;have:=je.s;have:=je.d;have:=je.e6;have:=je.d0;refine Tot.bs (λhk=>?_) (λhk=>?_)
 ·obtain ⟨_,e⟩:=zK.resolve_right λh=>h.1 hk;have ca:=e.s;have eI:=e.p.length_le;have k_:=e.u.length_le;have s_:=e.l.length_le;have afg:=je.p;have ax:og b.bu 0 (a.bu.length:Int)=some a.bu:=by
   have:=List.prefix_iff_eq_take.1 e.p;unfold og;rw [if_pos (by omega),Int.sub_zero,Int.toNat_natCast];show some ((b.bu.drop 0).take _)=_;rw [List.drop_zero,<- this]
  have VL:rP a.bu a.bu=some true:=Hg (wX _ (by omega));refine .aA (Ξ:=λb=>b=true) (Tot.bs (λ_=>Tot.bs (λ_=>Tot.bs (λ_=>Tot.bs (λ_=>?_) (λh=>absurd (by omega) h)) (λh=>absurd (by omega) h)) (λh=>absurd (by omega) h)) (λh=>absurd ca h)) λb ar=>.al ar;rw [ax];refine Tot.aT ?_;rw [VL];exact Tot.aT (Tot.bs (λ_=>.al (decide_eq_true (by omega))) (λh=>absurd (by omega) h))
 ·obtain ⟨_,rfl⟩:=zK.resolve_left λh=>hk h.1;have dC:gp (tI g d) (r0 t l) a.Deep a.Steps start a:=aJ.exact uk (ci (by omega) (by omega)) hk (Int.le_refl _) (Int.le_refl _);refine .aA (Ξ:=λb=>b=false) ?_ λb ar=>?_
  ·rw [Nr je];refine Tot.aT ?_;show Tot ((pj t l a.Deep a.Steps).bind _) _;refine .aA (run a.Deep a.Steps (by omega) (by omega)) λP B8=>?_;rw [show max a.Deep 0=a.Deep by omega] at B8;obtain rfl:=dC.U2 B8;rw [Nr je];exact .al rfl
  ·subst ar;refine .aA (Ξ:=λb=>b=true) (Tot.bs (λ_=>.al rfl) (λaK=>?_)) λb ar=>.al ar;rw [kA (n:=a.Steps - 1) (by omega) (by omega),kA (n:=a.Deep - 1) (by omega) (by omega)];have h1:=aJ.deep uk (ci (by omega) (by omega)) hk aK;refine .aA (run a.Deep (a.Steps - 1) (by omega) (by omega)) λP af=>?_;rw [show max a.Deep 0=a.Deep by omega] at af;have tv:P.Kind=3:=by
    rcases af.more uk (Int.le_refl _) (by omega) (ci (by omega) (by omega)) (ci (by omega) (by omega)) dC with h | ⟨_,rfl⟩
    ·exact h.1
    ·have:=(af.v8 uk (ci (by omega) (by omega)) Hc).s;omega
   refine Tot.bs (λ_=>?_) (λh=>absurd tv h);refine .aA (run (a.Deep - 1) a.Steps (by omega) (by omega)) λP aF=>?_;rw [show max (a.Deep - 1) 0=a.Deep - 1 by omega] at aF;have rF:P.Kind=3:=by
    rcases aF.more uk (by omega) (Int.le_refl _) (ci (by omega) (by omega)) (ci (by omega) (by omega)) dC with h | ⟨_,rfl⟩
    ·exact h.1
    ·have:=(aF.v8 uk (ci (by omega) (by omega)) Hc).d;omega
   exact .al (decide_eq_true rF)
end Go.Proofs
namespace Go.Own
open Go Go.ChangeShapes Go.WideShapes Go.ChangeAt Go.RowKit
variable {H:Type}{enc:TypeId × Value->H}{P:Program}
theorem ZX {f:Func}{s:ChangeSpec}{apart fresh handsOn again:Bool}{W wP:World}{args:Array Value}{v:Value}{jL gs:List (DataW H)}{before je pv:List MemPlace}
  (jN:DataW.Whole enc P f.params.toList s.vars apart W args.toList jL gs before) (hk:Mo W wP) (qA:before=je++pv)
  (zY:∀ (b:Nat) (sp:Nat->Bool) (aR:Bool),DataW.TrodAll enc P wP b sp aR f.resultTypes.toList (v.resultList f.resultTypes.size) (s.fn H (jL++gs)).results [])
  (qu:∀ sp:Nat->Bool,(∀ p∈before,sp p.block=true)->DataW.TrodAll enc P wP 0 sp true f.params.toList args.toList (s.fn H (jL++gs)).args je)
  (Pa:∀ sp:Nat->Bool,(∀ p∈before,sp p.block=true)->DataW.TrodVars enc P wP sp s.vars (s.fn H (jL++gs)).vars pv)
  (c7:∀ (j:Nat) (t:TypeId) (r:Value),f.resultTypes[j]?=some t->(v.resultList f.resultTypes.size)[j]?=some r->Value.okWide P wP .any 0 t r) :
  s.post enc P f apart fresh handsOn again W args v wP:=by
 subst qA;have aN:∀ p∈je++pv,p.block<W.heap.size:=λp aq=>jN.lt p aq;have ja:∀ p∈je++pv,(λb=>decide (b<W.heap.size)) p.block=true:=λp aq=>decide_eq_true (aN p aq);have WD:=jN;obtain ⟨_,_,_,_,_,aX,aB⟩:=WD;have au:=trodAll_append (qu (λ_=>true) (λ_ _=>rfl)) (zY 0 (λ_=>true) true);refine ⟨jL,gs,je++pv,[],je,pv,jN,zY _ _ _,qu _ ja,Pa _ ja,hk.kept _,λ_=>⟨c7,_,_,je++pv,⟨_,pv,au,Pa _ (λ_ _=>rfl),rfl,λb off aq=>?_,aB⟩,λp aq _=>aq⟩⟩;rw [hk.dP _ (aN _ aq)];exact aX b off aq
end Go.Own
namespace Go.Proofs
open Go Go.Own
set_option maxRecDepth 100000
theorem Hh:Tryz.prog.underlying 3=some (.int .i64):=by kernel_rfl
theorem abn:Tryz.prog.underlying 4=some .bool:=by kernel_rfl
def x_ (n:Int):Prop:=(Lit.int .i64 n).wf=true
def okB (_:Bool):Prop:=True
def ya {α:Type}(p:α->Prop) (l:List α):Prop:=l.length<=maxLen/\∀ x∈l,p x
def Zo (x:qZ):Prop:=x_ x.dE/\ya (ya x_) x.eP/\ya x_ x.wJ/\ya x_ x.q6/\okB x.Bd/\True
theorem Bt:kZ Tryz.prog ai 3 x_:=.int Hh (by kernel_rfl) λ_=>rfl
theorem SD:kZ Tryz.prog e3 4 okB:=.bool abn (by kernel_rfl) λ_=>rfl
theorem RD:Tryz.prog.underlying 27=some (.slice 3):=by kernel_rfl
theorem EX:kZ Tryz.prog (bE ai) 27 (ya x_):=Bt.slice (t:=27) RD (by kernel_rfl) (by decide)
theorem SG:kZ Tryz.prog (bE (bE ai)) 26 (ya (ya x_)):=EX.slice (t:=26) (by kernel_rfl) (by kernel_rfl) (by decide)
def Vf:bO qZ:=⟨5,λx=>[ae x.dE,ak (bE ai) x.eP,ak ai x.wJ,ak ai x.q6,bd x.Bd],λ_=>rfl,λ_=>dm.bq⟩
theorem QX:Em Tryz.prog 29 [3,26,27,27,4]=true:=by kernel_rfl
theorem SF:kZ Tryz.prog Vf 29 Zo:=.struct (t:=29) (.cons Bt (.cons SG (.cons EX (.cons EX (.cons SD .nil))))) (λb=>(⟨b.1,b.2.1,b.2.2.1,b.2.2.2.1,b.2.2.2.2.1⟩:qZ)) (λx=>(x.dE,x.eP,x.wJ,x.q6,x.Bd,())) (λ_=>rfl) (λ_=>rfl) QX (by kernel_rfl)
theorem ZJ:laidOutB Tryz.prog=true:=by kernel_rfl
theorem ZK:mapsRowed Tryz.prog=true:=by kernel_rfl
theorem ZI:((List.range Tryz.prog.types.size).all λt=>match Tryz.prog.underlying t with | some (.slice e)=>decide (0<Tryz.prog.cellsOf e) | _=>true)=true:=by kernel_rfl
end Go.Proofs
