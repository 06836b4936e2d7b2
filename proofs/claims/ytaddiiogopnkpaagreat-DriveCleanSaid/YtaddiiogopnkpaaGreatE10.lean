/- Parts of the proof that the last text states. -/
import Derived.KernelRfl
import Derived.ProofKit
import Derived.RowKit3
import Derived.Test.YtaddiiogopnkpaaGreatE9
set_option linter.unusedVariables false
namespace Go.Proofs
open Go Go.Own
def g_ (t:Tables) (tk:List Int) (D S:Int) (c:iD):dC:=⟨t,tk,D,S,c.st,c.nd,c.iK,c.p⟩
structure zf (t:Tables) (B:o0) (V:Int->Prop):Prop where
 act:∀ {q:Int}(k:Int),V q->wi t q k=some (B.act q k)
 go:∀ {q k p s:Int},V q->B.act q k=⟨2,p⟩->V s->Aq t s (B.left p)=some (B.go s (B.left p))
 red:∀ {q k p:Int},V q->B.act q k=⟨2,p⟩->idx t.kH p=some (B.len p:Int)/\idx t.Left p=some (B.left p)/\0<=B.left p/\B.left p<=1000000
variable {t:Tables}{B:o0}{V:Int->Prop}{Q:List Int->List Node->Prop}{tk:List Int}{D S:Int}{c:iD}
theorem Bs {α:Type}{l m:List α}(h:l.length+m.length<=2000000):c8 l m=some (l++m):=by
 unfold c8 lim; rw [if_pos (by omega)]
theorem Tot.eq {α β:Type}{x:Option β}{f:β->Option α}{Φ:α->Prop}{a:β}(h:x=some a) (hk:Tot (f a) Φ):Tot (x.bind f) Φ:=by rw [h]; exact hk
theorem ID (h:jX Q tk D S c) (n:Int):x7 (g_ t tk D S c) n=some (if c.p.Steps=S\/D<n then (false,g_ t tk D S { c with p:={ c.p with Kind:=3 } }) else (true,g_ t tk D S { c with p:={ c.p with Steps:=c.p.Steps+1 } })):=by
 have ⟨_,_,_,_,_,_,_,_,_,_,_,_,_,_,_,_,_,_,_,_⟩:=h;unfold x7;simp only [g_];rw [l9 (n:=c.p.Steps+1) (by omega) (by omega)];by_cases h:c.p.Steps=S
 ·simp [h]
 ·by_cases aI:D<n
  ·simp [h,aI]
  ·simp [h,aI]
theorem IG (bT:q3 B V Q) (h:jX Q tk D S c) {m:Nat}(hm:m<=c.nd.length) (s:Int) (x:Node):uL (g_ t tk D S c) s m x=some (if c.p.Steps=S\/D<(c.nd.length:Int)+1 - m then (false,g_ t tk D S { c with p:={ c.p with Kind:=3 } }) else (true,g_ t tk D S (qK c m s x))):=by
 have ⟨_,_,_,_,_,_,_,_,_,_,_,_,_,_,_,_,_,_,_,_⟩:=h;have fN:=bT.len h.q;unfold uL;rw [ID h];have hw:aG (((g_ t tk D S c).du.length:Int) - m)=((c.nd.length+1 - m:Nat):Int):=by
  show aG ((c.st.length:Int) - m)=_;rw [l9 (by omega) (by omega)]; omega
 rw [hw];have fU:((c.nd.length+1 - m:Nat):Int)=(c.nd.length:Int)+1 - m:=by omega
 by_cases ah:c.p.Steps=S\/D<(c.nd.length:Int)+1 - m
 ·rw [if_pos ah,if_pos (by rw [fU]; exact ah)];simp
 ·rw [if_neg ah,if_neg (by rw [fU]; exact ah)];have b9:aG (((g_ t tk D S { c with p:={ c.p with Steps:=c.p.Steps+1 } }).du.length:Int) - m)=((c.nd.length+1 - m:Nat):Int):=hw;have b3:aG (((g_ t tk D S { c with p:={ c.p with Steps:=c.p.Steps+1 } }).fk.length:Int) - m)=((c.nd.length - m:Nat):Int):=by
   show aG ((c.nd.length:Int) - m)=_;rw [l9 (by omega) (by omega)]; omega
  have i1:l2 c.st ((c.nd.length+1 - m:Nat):Int)=some ():=by simp [l2]; omega
  have i2:l2 c.nd ((c.nd.length - m:Nat):Int)=some ():=by simp [l2]
  have aw:c8 (c.st.take (c.nd.length+1 - m)) [s]=some (c.st.take (c.nd.length+1 - m)++[s]):=Bs (by simp; omega);have a2:c8 (c.nd.take (c.nd.length - m)) [x]=some (c.nd.take (c.nd.length - m)++[x]):=Bs (by simp; omega);simp only [Option.bind_some,Bool.not_true,cond_false,b9,b3,Int.toNat_natCast];simp only [g_,i1,aw,i2,a2,Option.bind_some];have e7:aG (((c.st.take (c.nd.length+1 - m)++[s]).length:Int) - 1)=(c.nd.length:Int)+1 - m:=by
   simp only [List.length_append,List.length_take,List.length_cons,List.length_nil,fN];rw [l9 (by omega) (by omega)]; omega
  rw [e7];rfl
theorem Nq (h:jX Q tk D S c):yn (g_ t tk D S c)=some (iB tk c.p.At):=by
 have ⟨_,_,_,_,_,_,_,_,_,_,_,_,_,_,_,_,_,_,_,_⟩:=h;unfold yn iB;simp only [g_];by_cases aP:(tk.length:Int)<=c.p.At
 ·simp [aP]
 ·have:c.p.At.toNat<tk.length:=by omega
  have hi:idx tk c.p.At=some (tk.getD c.p.At.toNat 0):=by
   unfold idx;rw [if_pos h.a0,List.getD_eq_getElem?_getD,List.getElem?_eq_getElem this]; rfl
  simp [aP,hi]
theorem IF (bT:q3 B V Q) (cX:zf t B V) (h:jX Q tk D S c) (k:Int):ym (g_ t tk D S c) k=some (B.act (gp c.st c.nd) k):=by
 have ⟨_,_,_,_,_,_,_,_,_,_,_,_,_,_,_,_,_,_,_,_⟩:=h;have fN:=bT.len h.q;obtain ⟨h1,af⟩:=bT.top h.q;unfold ym;have e:aG (((g_ t tk D S c).du.length:Int) - 1)=(c.nd.length:Int):=by
  show aG ((c.st.length:Int) - 1)=_;rw [l9 (by omega) (by omega)]; omega
 rw [e];show (idx c.st (c.nd.length:Int)).bind _=_;rw [h1,Option.bind_some];show (wi t (gp c.st c.nd) k).bind _=_;rw [cX.act k af]; rfl
def u9 (B:o0) (t:Tables) (Q:List Int->List Node->Prop) (tk:List Int) (D S:Int) (c:iD) (d:dC):Prop :=
 jj B tk D S c d.bb\/∃ cc,d=g_ t tk D S cc/\jX Q tk D S cc/\cc.pop=false/\c.p.Steps<cc.p.Steps/\∀ P,jj B tk D S cc P->jj B tk D S c P
theorem Ts (bT:q3 B V Q) (h:jX Q tk D S c) (aq:c.pop=false) (aU:c.iK=3) (h1:(B.act (gp c.st c.nd) (iB tk c.p.At)).Kind≠1) (af:(B.act (gp c.st c.nd) (iB tk c.p.At)).Kind≠2) (aE:(B.act (gp c.st c.nd) (iB tk c.p.At)).Kind≠3):Tot (Dq (g_ t tk D S c)) (u9 B t Q tk D S c):=by
 have ⟨_,_,_,_,_,_,_,_,_,_,_,_,_,_,_,_,_,_,_,_⟩:=h;have fN:=bT.len h.q;unfold Dq;rw [Nq h,Option.bind_some];by_cases aK:iB tk c.p.At=0
 ·have hm:iQ B tk c=.fin { c.p with Kind:=2 }:=by unfold iQ; rw [if_neg (by simp [aq]),if_neg h1,if_neg af,if_neg aE,if_pos aU,if_pos aK]
  simp only [aK,decide_true,cond_true,Option.bind_some];exact .aj (.inl (.fin hm))
 ·have hm:iQ B tk c=.go c.p c.nd.length { c with p:={ c.p with Steps:=c.p.Steps+1,gP:=c.p.gP++[c.p.At],At:=c.p.At+1 } }:=by unfold iQ; rw [if_neg (by simp [aq]),if_neg h1,if_neg af,if_neg aE,if_pos aU,if_neg aK]
  simp only [aK,decide_false,cond_false];have e:aG (((g_ t tk D S c).du.length:Int) - 1)=(c.nd.length:Int):=by
   show aG ((c.st.length:Int) - 1)=_;rw [l9 (by omega) (by omega)]; omega
  rw [e,ID h];by_cases ah:c.p.Steps=S\/D<(c.nd.length:Int)
  ·rw [if_pos ah];simp only [Option.bind_some,cond_false];exact .aj (.inl (show jj B tk D S c { c.p with Kind:=3 } from .lim hm ah))
  ·rw [if_neg ah];simp only [Option.bind_some,cond_true,g_];rw [Bs (by simp; omega),Option.bind_some,Option.bind_some,Option.bind_some,l9 (n:=c.p.At+1) (by omega) (by omega)];obtain ⟨aX,he⟩:=Dc bT h hm ah;exact .aj (.inr ⟨_,rfl,aX,aq,by rw [he]; omega,λP hr=>.go hm ah hr⟩)
theorem TP (bT:q3 B V Q) (cX:zf t B V) (h:jX Q tk D S c) (aq:c.pop=false) {a:Int}(aJ:B.act (gp c.st c.nd) (iB tk c.p.At)=⟨2,a⟩):Tot (AM (g_ t tk D S c) a) (u9 B t Q tk D S c):=by
 have ⟨_,_,_,_,_,_,_,_,_,_,_,_,_,_,_,_,_,_,_,_⟩:=h;have fN:=bT.len h.q;obtain ⟨hi,hv⟩:=bT.top h.q;have hle:B.len a<=c.nd.length:=by
  have:=bT.A0 (k:=iB tk c.p.At) h.q (by rw [aJ]);rw [aJ] at this; exact this
 obtain ⟨g1,g2,g3,g4⟩:=cX.red hv aJ;have hm:iQ B tk c=.go c.p ((c.nd.length:Int)+1 - B.len a) (GG B c a):=by unfold iQ; rw [if_neg (by simp [aq]),if_neg (by rw [aJ]; simp),if_pos (by rw [aJ]),aJ]
 have h':c.nd.length - B.len a<c.st.length:=by omega
 have Kc:idx c.st ((c.nd.length:Int) - B.len a)=some (c.st.getD (c.nd.length - B.len a) 0):=by
  have e:(c.nd.length:Int) - B.len a=((c.nd.length - B.len a:Nat):Int):=by omega
  rw [e];simp [idx,List.getD_eq_getElem?_getD,h']
 have rn:V (c.st.getD (c.nd.length - B.len a) 0):=by
  rw [List.getD_eq_getElem?_getD,List.getElem?_eq_getElem h'];exact bT.v h.q _ (List.getElem_mem h')
 unfold AM;simp only [g_];have hX:aG ((c.nd.length:Int) - (B.len a:Int))=((c.nd.length - B.len a:Nat):Int):=by rw [l9 (by omega) (by omega)]; omega
 have gU:aG (aG ((c.st.length:Int) - 1) - (B.len a:Int))=(c.nd.length:Int) - B.len a:=by rw [l9 (n:=(c.st.length:Int) - 1) (by omega) (by omega),l9 (by omega) (by omega)]; omega
 have i2:l2 c.nd ((c.nd.length - B.len a:Nat):Int)=some ():=by simp [l2]
 have c1:Li (c.nd.drop (c.nd.length - B.len a))=some (c.nd.drop (c.nd.length - B.len a)):=by simp [Li,E']; omega
 simp only [g1,g2,Option.bind_some,hX,gU,i2,Int.toNat_natCast,c1,Kc];rw [cX.go hv aJ rn,Option.bind_some,l9 (n:=1000+B.left a) (by omega) (by omega)];have:=IG (t:=t) bT h hle (B.go (c.st.getD (c.nd.length - B.len a) 0) (B.left a)) ⟨1000+B.left a,a,-1,tr eh (c.nd.drop (c.nd.length - B.len a))⟩;simp only [g_] at this;rw [this,Option.bind_some];by_cases ah:c.p.Steps=S\/D<(c.nd.length:Int)+1 - B.len a
 ·rw [if_pos ah];simp only [cond_false,Option.bind_some];exact .aj (.inl (show jj B tk D S c { c.p with Kind:=3 } from .lim hm ah))
 ·rw [if_neg ah];simp only [cond_true,qK];rw [Bs (by simp; omega),Option.bind_some,Option.bind_some];obtain ⟨aX,he⟩:=Dc bT h hm ah;exact .aj (.inr ⟨GG B c a,rfl,aX,rfl,by rw [he]; omega,λP hr=>.go hm ah hr⟩)
theorem TQ (bT:q3 B V Q) (cX:zf t B V) (h:jX Q tk D S c) (aq:c.pop=false) (h1:(B.act (gp c.st c.nd) (iB tk c.p.At)).Kind≠1) (af:(B.act (gp c.st c.nd) (iB tk c.p.At)).Kind≠2) (aE:(B.act (gp c.st c.nd) (iB tk c.p.At)).Kind≠3):Tot (AN (g_ t tk D S c)) (u9 B t Q tk D S c):=by
 have ⟨_,_,_,_,_,_,_,_,_,_,_,_,_,_,_,_,_,_,_,_⟩:=h;unfold AN;refine Tot.bt (λaU=>.aB (Ts bT h aq aU h1 af aE) λd aQ=>.aj aQ) (λaU=>?_);have aU:c.iK≠3:=aU;have hu:=h.up aU;have Ei:=h.Ei aU;have J2:iQ B tk c=iQ B tk (uZ c):=by
  have:iQ B tk (uZ c)=p1 B (uZ c):=by unfold iQ; exact if_pos rfl
  rw [this];unfold iQ;rw [if_neg (by simp [aq]),if_neg h1,if_neg af,if_neg aE,if_neg aU]
 have XE:∀ {P:hQ},jj B tk D S (uZ c) P->jj B tk D S c P:=λ{P} hr=>by
  cases hr with
  | fin h=>exact .fin (J2.trans h)
  | lim h ah=>exact .lim (J2.trans h) ah
  | go h ah hr=>exact .go (J2.trans h) ah hr
 refine Tot.eq (a:=(uZ c).p.eB) (Bs (by simp [g_]; omega)) (Tot.eq (IF (t:=t) bT cX hu 1) ?_);refine .aB (Ξ:=ie (λx:dC × Int × Int=>∃ cc,x.1=g_ t tk D S cc/\jX Q tk D S cc/\cc.pop=true/\c.p.Steps<=cc.p.Steps/\B.act (gp cc.st cc.nd) 1=⟨1,x.2.2⟩/\∀ P,jj B tk D S cc P->jj B tk D S c P) (λd:dC=>jj B tk D S c d.bb)) ?_ λx J=>?_
 ·refine Tot.loop (λs=>∃ cc,s.1=g_ t tk D S cc/\jX Q tk D S cc/\cc.pop=true/\c.p.Steps<=cc.p.Steps/\B.act (gp cc.st cc.nd) 1=⟨s.2.1,s.2.2⟩/\∀ P,jj B tk D S cc P->jj B tk D S c P) (λs=>s.1.fk.length) ⟨uZ c,rfl,hu,rfl,Int.le_refl _,rfl,λP=>XE⟩ ?_ λs av=>?_
  ·show c.nd.length<1000000000000000000;omega
  obtain ⟨s,YI,Gc⟩:=s;obtain ⟨cc,rfl,aa,pL,eY,xd,hr⟩:=av;have ⟨_,_,_,_,_,_,_,_,_,_,_,_,_,_,_,_,_,_,_,_⟩:=aa;have fN:=bT.len aa.q;have vD:iQ B tk cc=p1 B cc:=by unfold iQ; exact if_pos pL
  simp only at xd ⊢;refine Tot.q8 (λhk=>?_) (λhk=>.aj ⟨cc,rfl,aa,pL,eY,by rw [xd]; simp only [Act.mk.injEq,and_true]; exact hk,hr⟩);have hX:aG (((g_ t tk D S cc).du.length:Int) - 1)=(cc.nd.length:Int):=by
   show aG ((cc.st.length:Int) - 1)=_;rw [l9 (by omega) (by omega)]; omega
  rw [hX];refine Tot.bt (λaK=>.aj ?_) (λaK=>?_)
  ·refine hr _ (.fin ?_);rw [vD]; unfold p1;rw [if_neg (by rw [xd]; exact hk),if_pos (by omega)]; rfl
  ·have gU:aG ((cc.nd.length:Int) - 1)=((cc.nd.length - 1:Nat):Int):=by rw [l9 (by omega) (by omega)]; omega
   have J0:iQ B tk cc=.go cc.p ((cc.nd.length:Int) - 1) ⟨cc.st.take cc.nd.length,cc.nd.take (cc.nd.length - 1),cc.iK,{ cc.p with Steps:=cc.p.Steps+1 },true⟩:=by
    rw [vD]; unfold p1;rw [if_neg (by rw [xd]; exact hk),if_neg (by omega)]
   have b9:((cc.nd.length - 1:Nat):Int)=(cc.nd.length:Int) - 1:=by omega
   rw [gU,ID aa,Option.bind_some];by_cases ah:cc.p.Steps=S\/D<(cc.nd.length:Int) - 1
   ·rw [if_pos (by rw [b9]; exact ah)];exact .aj (hr _ (show jj B tk D S cc { cc.p with Kind:=3 } from .lim J0 ah))
   ·rw [if_neg (by rw [b9]; exact ah)];obtain ⟨aX,he⟩:=Dc bT aa J0 ah;have i1:l2 cc.st (cc.nd.length:Int)=some ():=by simp [l2]; omega
    have i2:l2 cc.nd ((cc.nd.length - 1:Nat):Int)=some ():=by simp [l2]
    have b3:=IF (t:=t) bT cX aX 1;simp only [g_] at b3;simp only [g_,Bool.not_true,cond_false,i1,i2,Option.bind_some,Int.toNat_natCast,b3];refine .aj ⟨⟨_,rfl,aX,rfl,by rw [he]; omega,rfl,λP a_=>hr _ (.go J0 ah a_)⟩,?_⟩;show (cc.nd.take (cc.nd.length - 1)).length<cc.nd.length;simp; omega
 ·rcases x with ⟨s,YI,Gc⟩ | d
  ·obtain ⟨cc,rfl,aa,pL,eY,xd,hr⟩:=J;have vD:iQ B tk cc=.go cc.p ((cc.nd.length:Int)+1) (qK cc 0 Gc (sx cc 1)):=by
    unfold iQ; rw [if_pos pL]; unfold p1;rw [if_pos (by rw [xd]),xd]
   have:=IG (t:=t) bT aa (Nat.zero_le _) Gc (sx cc 1);simp only [Int.natCast_zero,Int.sub_zero] at this;show Tot ((uM (g_ t tk D S cc) 1).bind λcE=>(uL (g_ t tk D S cc) Gc 0 cE).bind λc0=>some c0.2) _;have IH:uM (g_ t tk D S cc) 1=some (sx cc 1):=rfl;rw [IH,Option.bind_some,this,Option.bind_some];by_cases ah:cc.p.Steps=S\/D<(cc.nd.length:Int)+1
   ·rw [if_pos ah];exact .aj (.inl (hr _ (show jj B tk D S cc { cc.p with Kind:=3 } from .lim vD ah)))
   ·rw [if_neg ah];obtain ⟨aX,he⟩:=Dc bT aa vD ah;exact .aj (.inr ⟨_,rfl,aX,rfl,by rw [he]; omega,λP a_=>hr _ (.go vD ah a_)⟩)
  ·exact .aj (.inl J)
theorem TK (bT:q3 B V Q) (cX:zf t B V) (h:jX Q tk D S c) (aq:c.pop=false):Tot (yj (g_ t tk D S c)) (u9 B t Q tk D S c):=by
 have ⟨_,_,_,_,_,_,_,_,_,_,_,_,_,_,_,_,_,_,_,_⟩:=h;have fN:=bT.len h.q;unfold yj;rw [Nq h,Option.bind_some,IF bT cX h,Option.bind_some];generalize aJ:B.act (gp c.st c.nd) (iB tk c.p.At)=a;refine .aB (Ξ:=u9 B t Q tk D S c) (.aB (Ξ:=u9 B t Q tk D S c) ?_ λd aQ=>.aj aQ) λd aQ=>.aj aQ;refine Tot.bt (λh1=>?_) (λh1=>?_)
 ·have hm:iQ B tk c=.go c.p ((c.nd.length:Int)+1) (D_ c a.N (iB tk c.p.At)):=by unfold iQ; rw [if_neg (by simp [aq]),aJ,if_pos h1]
  have IH:uM (g_ t tk D S c) (iB tk c.p.At)=some (sx c (iB tk c.p.At)):=rfl;rw [Option.bind_some,IH,Option.bind_some];have:=IG (t:=t) bT h (Nat.zero_le _) a.N (sx c (iB tk c.p.At));simp only [Int.natCast_zero,Int.sub_zero] at this;rw [this,Option.bind_some];by_cases ah:c.p.Steps=S\/D<(c.nd.length:Int)+1
  ·rw [if_pos ah];simp only [cond_false,Option.bind_some];exact .aj (.inl (show jj B tk D S c { c.p with Kind:=3 } from .lim hm ah))
  ·rw [if_neg ah];simp only [cond_true,Option.bind_some];obtain ⟨aX,he⟩:=Dc bT h hm ah;refine .aj (.inr ⟨D_ c a.N (iB tk c.p.At),?_,aX,rfl,by rw [he]; omega,λP a_=>.go hm ah a_⟩);simp only [g_,D_,qK];rw [l9 (n:=c.iK - 1) (by omega) (by omega),l9 (n:=c.p.At+1) (by omega) (by omega)]
 ·refine .aB (Ξ:=u9 B t Q tk D S c) ?_ λd aQ=>.aj aQ;refine Tot.bt (λaf=>?_) (λaf=>.aB (Ξ:=u9 B t Q tk D S c) (Tot.bt (λaE=>?_) (λaE=>?_)) λd aQ=>.aj aQ)
  ·exact .aB (TP bT cX h aq (a:=a.N) (by rw [aJ,<- af])) λd aQ=>.aj aQ
  ·have aC:=bT.ac (k:=iB tk c.p.At) h.q (by rw [aJ]; exact aE);have hX:aG (((g_ t tk D S c).fk.length:Int) - 1)=((c.nd.length - 1:Nat):Int):=by
    show aG ((c.nd.length:Int) - 1)=_;rw [l9 (by omega) (by omega)]; omega
   have aP:c.nd.length - 1<c.nd.length:=by omega
   have hi:idx c.nd ((c.nd.length - 1:Nat):Int)=some (c.nd.getD (c.nd.length - 1) default):=by
    simp [idx,List.getD_eq_getElem?_getD,aP]
   rw [hX];simp only [g_,hi,Option.bind_some];refine .aj (.inl (.fin ?_));unfold iQ; rw [if_neg (by simp [aq]),aJ,if_neg h1,if_neg af,if_pos aE]
  ·exact .aB (TQ bT cX h aq (by rw [aJ]; exact h1) (by rw [aJ]; exact af) (by rw [aJ]; exact aE)) λd aQ=>.aj aQ
theorem YO (bT:q3 B V Q) (cX:zf t B V) (h:jX Q tk D S c) (aq:c.pop=false):Tot (cd (R:=dC) (λ(e2:dC) =>
  (bif decide (e2.bb.Kind=0) then
  (yj e2).bind λe3 =>
  some (.inl e3)
  else
  some (.inr e2))) (g_ t tk D S c)) λd=>jj B tk D S c d.bb:=by
 refine Tot.loop (λd=>(d.bb.Kind≠0/\jj B tk D S c d.bb)\/∃ cc,d=g_ t tk D S cc/\jX Q tk D S cc/\cc.pop=false/\∀ P,jj B tk D S cc P->jj B tk D S c P) (λd=>if d.bb.Kind=0 then (S - d.bb.Steps).toNat+1 else 0) (.inr ⟨c,rfl,h,aq,λ_ h=>h⟩) ?_ λd aQ=>?_
 ·have ⟨_,_,_,_,_,_,_,_,_,_,_,_,_,_,_,_,_,_,_,_⟩:=h;show (if c.p.Kind=0 then (S - c.p.Steps).toNat+1 else 0)<1000000000000000000
  split <;> omega
 ·rcases aQ with ⟨aK,aQ⟩ | ⟨cc,rfl,aa,pL,hr⟩
  ·exact Tot.bt (λh=>absurd h aK) (λ_=>.aj aQ)
  ·refine Tot.bt (λaK=>.aB (TK bT cX aa pL) λd aQ=>.aj ?_) (λh=>absurd aa.k0 h);have ⟨_,_,_,_,_,_,_,_,_,_,_,_,_,_,_,_,_,_,_,_⟩:=aa;rcases aQ with aQ | ⟨c2,rfl,qw,WW,j_,hK⟩
   ·have hk:=aQ.kind;refine ⟨.inl ⟨by omega,hr _ aQ⟩,?_⟩;show (if d.bb.Kind=0 then _ else 0)<(if cc.p.Kind=0 then _ else 0);rw [if_neg (by omega),if_pos aa.k0]; omega
   ·have:=qw.LM;refine ⟨.inr ⟨c2,rfl,qw,WW,λP h=>hr _ (hK P h)⟩,?_⟩;show (if c2.p.Kind=0 then (S - c2.p.Steps).toNat+1 else 0)<(if cc.p.Kind=0 then (S - cc.p.Steps).toNat+1 else 0)
    rw [if_pos qw.k0,if_pos aa.k0]; omega
open Go Go.Own Go.Sort
set_option maxRecDepth 100000
structure ni (g:bA) (m:List State) (cs:List Cell) (d:gW):Prop where
 dB:Ez g m cs
 AU:j2 g m m.length 0
 q9:∀ c∈cs,tA g m c
 ql:EE g m cs d
 tk:u7 g
theorem NN (g:bA):∀ (l:List Cell) (R:List Act) {k:Nat}{x:Act},(l.foldl (λrow c=>row.set c.b4.toNat (qf g c)) R)[k]?=some x->R[k]?=some x\/∃ c∈l,c.b4.toNat=k/\x=qf g c
 | [],R,k,x,h=>.inl h
 | c::l,R,k,x,h=>by
  rcases NN g l _ h with aI | ⟨cc,aa,h1⟩
  ·rw [List.getElem?_set] at aI
   split at aI
   ·rename_i e
    split at aI
    ·cases aI; exact .inr ⟨c,by simp,e,rfl⟩
    ·cases aI
   ·exact .inl aI
  ·exact .inr ⟨cc,by simp [aa],h1⟩
theorem Ys {α β:Type}{f:α->β}{l:List α}{i:Int}{y:β}(h:idx (l.map f) i=some y):∃ x,idx l i=some x/\y=f x:=by
 unfold idx at h ⊢
 split at h
 ·rename_i aK;rw [List.getElem?_map] at h;obtain ⟨x,h1,af⟩:=Option.map_eq_some_iff.1 h;exact ⟨x,by rw [if_pos aK]; exact h1,af.symm⟩
 ·cases h
theorem Yu {n:Nat}{i:Int}{k:Nat}(h:idx (List.range n) i=some k):i=(k:Int)/\k<n:=by
 obtain ⟨aK,h1,af⟩:=mn h;obtain ⟨aE,bm⟩:=List.getElem?_eq_some_iff.1 af;rw [List.getElem_range] at bm;simp only [List.length_range] at h1;omega
theorem ni.act {g:bA}{m:List State}{cs:List Cell}{d:gW}(eC:ni g m cs d) {q k:Int}{r:List Act}{x:Act}(a_:idx d.cA q=some r) (hk:idx r k=some x):(x.Kind=1->oo m q k x.N)/\(x.Kind=2->om g m q x.N)/\(x.Kind=3->rT g m q ⟨0,1⟩):=by
 rw [eC.ql.a] at a_;obtain ⟨n,aC,rfl⟩:=Ys a_;obtain ⟨rfl,aP⟩:=Yu aC;obtain ⟨ny,_,fF⟩:=mn hk;unfold rowOf at fF;rcases NN g _ _ fF with h | ⟨c,aa,aei,rfl⟩
 ·have:=List.mem_of_getElem? h;rw [List.mem_replicate] at this;rw [this.2];exact ⟨λh=>by simp at h,λh=>by simp at h,λh=>by simp at h⟩
 ·obtain ⟨r',eY⟩:=List.mem_filter.1 aa;have eY:c.State=(n:Int):=of_decide_eq_true eY;have aX:=eC.dB.ce.ok c r';have J:=eC.q9 c r';have au:c.b4=k:=by have:=aX.t.1; omega
  subst au;rw [<- eY];have CJ:0<=c.k2->oo m c.State c.b4 c.k2:=λaK=>by
   rcases J.dO with ⟨e,_⟩ | ⟨st,v,h1,af,aE,bm⟩
   ·omega
   ·exact ⟨st,v,h1,af,aE,bm.symm⟩
  have Fw:c.nK=true->rT g m c.State ⟨0,1⟩:=λh=>by
   obtain ⟨st,h1,af⟩:=J.ac h;exact ⟨st,h1,.base af ((eC.dB.Gb.pW st (List.mem_of_getElem? (mn h1).2.2)).i _ af)⟩
  have si:=aX.Rr;unfold qf;unfold oh at si;cases bT:c.bu with
  | nil =>
   rw [bT] at si;simp only;split
   ·rename_i aJ;exact ⟨λh=>by simp at h,λh=>by simp at h,λ_=>Fw aJ⟩
   ·rename_i aJ;refine ⟨λ_=>CJ ?_,λh=>by simp at h,λh=>by simp at h⟩;rw [if_neg aJ] at si;simp only [List.length_nil] at si
    split at si
    ·assumption
    ·omega
  | cons p r =>
   have On:om g m c.State p:=J.T3 p (by rw [bT]; simp);simp only;split
   ·rename_i aJ;exact ⟨λh=>by simp at h,λh=>by simp at h,λ_=>Fw aJ⟩
   ·split
    ·exact ⟨λh=>by simp at h,λ_=>On,λh=>by simp at h⟩
    ·split
     ·exact ⟨λh=>by simp at h,λ_=>On,λh=>by simp at h⟩
     ·split
      ·exact ⟨λh=>by simp at h,λh=>by simp at h,λh=>by simp at h⟩
      ·exact ⟨λ_=>CJ (by omega),λh=>by simp at h,λh=>by simp at h⟩
def nO (d:gW) (q k:Int):Act:=match idx d.cA q with
 | none=>⟨0,0⟩
 | some r=>if ((idx r k).getD ⟨0,0⟩).Kind=0/\hE (red r)≠-1 then ⟨2,hE (red r)⟩ else (idx r k).getD ⟨0,0⟩
def I0 (g:bA) (d:gW) (s a:Int):Int:=if 0<=a/\a<g.dD.length then D3 (gb d a.toNat) s else -1
def wx (g:bA) (d:gW):o0:=⟨nO d,I0 g d,λp=>((idx g.bu p).map (·.Left)).getD 0,λp=>((idx g.bu p).map (·.dw.length)).getD 0⟩
variable {g:bA}{m:List State}{cs:List Cell}{d:gW}{t:Tables}
theorem ni.do (eC:ni g m cs d):yV g m.length d:=eC.ql.aL eC.dB
theorem U0 (eC:ni g m cs d) (bT:wG g d t) (s k:Int):wi t s k=some (nO d s k):=by
 have js:=eC.do
 rw [UZ bT];unfold nO;cases av:idx d.cA s with
 | none=>rfl
 | some r =>
  simp only;have hr:=js.k5 r (ka av).2.2;have ah:r.length<=1000:=by have:=js.o6.lk; omega
  have Cw:=P' js.o6 hr.1 hr.2;cases hk:idx r k with
  | some x =>
   obtain ⟨aK,h1,af⟩:=mn hk;have:=ZW js.o6 js.gN.2 ah af (hr.2 x (List.mem_of_getElem? af));rw [show ((k.toNat:Nat):Int)=k by omega,SC (hr.2 x (List.mem_of_getElem? af)) (Cw.imp id λh=>h.1)] at this;rw [this]; rfl
  | none =>
   have pb:k<0\/(r.length:Int)<=k:=by
    unfold idx at hk
    split at hk
    ·have:=List.getElem?_eq_none_iff.1 hk;exact .inr (by omega)
    ·exact .inl (by omega)
   unfold D2;rw [show k9 (sD r).hh k=(0,false) from Vo pb]
   simp only [Bool.false_eq_true,if_false,Option.getD_none,true_and];rcases Cw with e | ⟨aK,_⟩
   ·rw [e]; simp
   ·rw [if_neg (by omega),if_pos (by omega)]
theorem ni.ap (eC:ni g m cs d) (q k:Int):((nO d q k).Kind=1->oo m q k (nO d q k).N)/\((nO d q k).Kind=2->om g m q (nO d q k).N/\oY g (nO d q k).N)/\((nO d q k).Kind=3->rT g m q ⟨0,1⟩):=by
 have js:=eC.do
 unfold nO;cases av:idx d.cA q with
 | none=>exact ⟨λh=>by simp at h,λh=>by simp at h,λh=>by simp at h⟩
 | some r =>
  have hr:=js.k5 r (ka av).2.2;simp only;split
  ·rename_i aa;refine ⟨λh=>by simp at h,λ_=>?_,λh=>by simp at h⟩;rcases P' js.o6 hr.1 hr.2 with e | ⟨_,a,aJ,hk,e⟩
   ·exact absurd e aa.2
   ·obtain ⟨i,hi⟩:=List.getElem?_of_mem aJ;have h1:=(eC.act av (Pj hi)).2.1 hk;have af:=(hr.2 a aJ).ob hk;rw [e] at h1 af; exact ⟨h1,af⟩
  ·cases hk:idx r k with
   | none=>exact ⟨λh=>by simp at h,λh=>by simp at h,λh=>by simp at h⟩
   | some x =>
    have:=eC.act av hk;exact ⟨this.1,λh=>⟨this.2.1 h,(hr.2 x (ka hk).2.2).ob h⟩,this.2.2⟩
theorem ni.Vr (eC:ni g m cs d) {s a cz:Int}(h:oo m s (1000+a) cz) (aK:0<=a):I0 g d s a=cz/\a<g.dD.length:=by
 have js:=eC.do
 have hm:=eC.dB.Gb;obtain ⟨st,v,h1,af,aE,bm⟩:=h;have bU:=(ka h1).2.2;obtain ⟨_,_,ar⟩:=hm.sym eC.dB.o6 bU af;have aJ:a<g.dD.length:=by have:=ar (by omega); omega
 refine ⟨?_,aJ⟩;obtain ⟨n,rfl,aC⟩:=FW h1;have J5:=(List.getElem?_eq_some_iff.1 aC).1;obtain ⟨k,rfl⟩:∃ k:Nat,a=(k:Int):=⟨a.toNat,by omega⟩;have hk:k<g.dD.length:=by omega
 have Co:go m n (1000+(k:Int))=cz:=by
  rcases (go_eq hm n (1000+(k:Int))).2 with ⟨_,h⟩ | ⟨uW,dK,g1,g2,g3,g4⟩
  ·exact absurd aE (h st h1 v af)
  ·rw [g4];rw [h1] at g1; cases g1;have eG:=hm.nd st bU;have:v=dK:=by
    obtain ⟨i,hi,b9⟩:=List.mem_iff_getElem.1 af;obtain ⟨j,ag,b3⟩:=List.mem_iff_getElem.1 g2;have e:i=j:=by
     have aq:=List.pairwise_iff_getElem.1 eG;rcases Nat.lt_trichotomy i j with h | h | h
     ·exact (aq i j (by simpa using hi) (by simpa using ag) h (by simp [b9,b3,aE,g3])).elim
     ·exact h
     ·exact (aq j i (by simpa using ag) (by simpa using hi) h (by simp [b9,b3,aE,g3])).elim
    subst e;exact b9.symm.trans b3
   rw [<- this]; exact bm
 have WV:(gb d k)[n]?=some cz:=by
  unfold gb;rw [List.getElem?_map,eC.ql.o,List.getElem?_map,List.getElem?_range J5];simp only [Option.map_some];unfold vm;rw [List.getD_eq_getElem?_getD,List.getElem?_map,List.getElem?_range hk];simp [Co]
 have XJ:0<=cz:=by rw [<- bm]; exact (hm.aT st bU v af).t0
 unfold I0;rw [if_pos ⟨by omega,aJ⟩,Int.toNat_natCast,ZX (by have:=BH d k; have:=js.o; have:=js.gN; omega) WV];unfold pg;by_cases e:cz=hE (pos (gb d k))
 ·simp [<- e]
 ·simp [e,XJ]
theorem oo.st {q x s:Int}(eC:ni g m cs d) (h:oo m q x s):0<=s/\s<m.length:=by
 obtain ⟨st,v,h1,af,aE,bm⟩:=h;have:=eC.dB.Gb.aT st (ka h1).2.2 v af;rw [<- bm]; exact ⟨this.t0,this.t1⟩
def wI (m:List State) (st:List Int) (nd:List Node):Prop:=nk m st (nd.map (·.Sym))
theorem ni.path (eC:ni g m cs d):q3 (wx g d) (λq=>0<=q/\q<m.length) (wI m):=by
 have aN:=eC.dB.o6;have hm:=eC.dB.Gb;have top:∀ {st:List Int}{nd:List Node},wI m st nd->st[nd.length]?=some (gp st nd):=λ{st nd} h=>by
  have ah:=h.len;rw [List.length_map] at ah;have:nd.length<st.length:=by omega
  simp [gp,List.getD_eq_getElem?_getD,this]
 have red:∀ {st:List Int}{nd:List Node}{k p:Int},wI m st nd->nO d (gp st nd) k=⟨2,p⟩->∃ r cz,idx g.bu p=some r/\r.dw.length<=nd.length/\st[nd.length - r.dw.length]?=some (st.getD (nd.length - r.dw.length) 0)/\oo m (st.getD (nd.length - r.dw.length) 0) (1000+r.Left) cz:=λ{st nd k p} h aJ=>by
  obtain ⟨⟨S,bf,r,hr,aa⟩,rk⟩:om g m (gp st nd) p/\oY g p:=by have:=(eC.ap (gp st nd) k).2.1; rw [aJ] at this; exact this rfl
  have ar:=h.back eC.AU r.dw.length (top h) ⟨S,bf,aa⟩;obtain ⟨b,h1,af,_⟩:=ar.2 r.dw.length (Nat.le_refl _);rw [Int.sub_self] at af;have he:st.getD (nd.length - r.dw.length) 0=b:=by rw [List.getD_eq_getElem?_getD,h1]; rfl
  have fO:p≠0:=by have:=rk.1; omega
  obtain ⟨cz,XI⟩:=af.Vq aN eC.AU (h.from h1) fO hr;exact ⟨r,cz,hr,ar.1,by rw [he]; exact h1,by rw [he]; exact XI⟩
 refine ⟨λ{st nd} h=>by have:=h.len; rwa [List.length_map] at this,λ{st nd} h q a_=>?_,λ{st nd k x} h hk J=>?_,λ{st nd k} h hk=>?_,λ{st nd k p x} h aJ J=>?_,λ{st nd} h aK=>?_,λ{st nd k} h hk=>?_⟩
 ·obtain ⟨i,hi⟩:=List.getElem?_of_mem a_;rcases h.from hi with rfl | ⟨b,x,he⟩
  ·have:=hm.gN; omega
  ·exact he.st eC
 ·have:=(eC.ap (gp st nd) k).1 hk;have:=nk.push h (by rw [List.length_map]; exact top h) this;unfold wI;rw [List.map_append,List.map_singleton,J];exact this
 ·obtain ⟨r,cz,hr,hle,_⟩:=red (k:=k) (p:=(nO d (gp st nd) k).N) h (by show nO d (gp st nd) k=_; rw [<- show (nO d (gp st nd) k).Kind=2 from hk])
  show ((idx g.bu (nO d (gp st nd) k).N).map (·.dw.length)).getD 0<=_;rw [hr]; exact hle
 ·obtain ⟨r,cz,hr,hle,bU,he⟩:=red (k:=k) (p:=p) h aJ;have hlen:(wx g d).len p=r.dw.length:=by show ((idx g.bu p).map (·.dw.length)).getD 0=_; rw [hr]; rfl
  have OJ:(wx g d).left p=r.Left:=by show ((idx g.bu p).map (·.Left)).getD 0=_; rw [hr]; rfl
  have ui:0<=r.Left:=(aN.gB r (ka hr).2.2).left.1;rw [hlen,OJ];rw [OJ] at J;have Co:(wx g d).go (st.getD (nd.length - r.dw.length) 0) r.Left=cz:=(eC.Vr he ui).1;rw [Co];have au:=nk.take h (n:=nd.length - r.dw.length) (by rw [List.length_map]; omega);have CX:((nd.map (·.Sym)).take (nd.length - r.dw.length)).length=nd.length - r.dw.length:=by simp
  have:=nk.push au (a:=st.getD (nd.length - r.dw.length) 0) (x:=1000+r.Left) (b:=cz) (by rw [CX,List.getElem?_take,if_pos (by omega)]; exact bU) he;unfold wI;rw [List.map_append,List.map_singleton,J,List.map_take];rw [show nd.length+1 - r.dw.length=nd.length - r.dw.length+1 by omega];exact this
 ·have:=nk.take h (n:=nd.length - 1) (by rw [List.length_map]; omega);unfold wI;rw [List.map_take];rw [show nd.length - 1+1=nd.length by omega] at this;exact this
 ·have:=(h.back eC.AU 1 (top h) ((eC.ap (gp st nd) k).2.2 hk)).1;omega
def Mx (T:List b4) (n v:Int):Prop:=(n<=0/\v=0)\/(0<n/\((∃ (k:Nat) (t:b4),T[k]?=some t/\t.cb=n/\v=(k:Int))\/((∀ (k:Nat) (t:b4),T[k]?=some t->t.cb≠n)/\v=2)))
theorem half {x:Int}(aK:0<=x) (h1:x<=1000000):aG (yz .u64 (IntKind.u64.wrap (aG x)) 1)=x / 2:=by
 have b9:aG x=x:=by rw [cv]; omega
 have b3:IntKind.u64.wrap x=x:=by rw [IntKind.wrap_u64]; omega
 rw [b9,b3];have e7:yz .u64 x 1=x / 2:=by
  show x.fdiv (2 ^ 1)=x / 2;rw [Int.fdiv_eq_ediv_of_nonneg _ (by decide)];rfl
 rw [e7,cv]; omega
theorem TO (l:List cH) (n:Int) (aJ:fg sy l) (ah:l.length<=1000):Tot (DP l n) λr=>(r.2=true->∃ p,idx l r.1=some p/\p∈l/\p.At=n)/\(r.2=false->∀ p∈l,p.At≠n):=by
 have HY:∀ {i j:Nat}(hi:i<l.length) (ag:j<l.length),i<=j->l[i].At<=l[j].At:=λ{i j} hi ag h=>by
  by_cases e:i=j
  ·subst e; omega
  ·have:=F'.1 (List.pairwise_iff_getElem.1 aJ i j hi ag (by omega));omega
 unfold DP;refine .aB (Ξ:=λr:Int=>∃ k:Nat,r=(k:Int)/\k<=l.length/\(∀ (i:Nat) (h:i<l.length),i<k->l[i].At<n)/\∀ (i:Nat) (h:i<l.length),k<=i->n<=l[i].At) ?_ λr hr=>?_
 ·refine Tot.count (λs=>s.1 - s.2) 1 (λs=>∃ lo hi:Nat,s=((lo:Int),(hi:Int))/\lo<=hi/\hi<=l.length/\(∀ (i:Nat) (h:i<l.length),i<lo->l[i].At<n)/\∀ (i:Nat) (h:i<l.length),hi<=i->n<=l[i].At) ⟨0,l.length,rfl,Nat.zero_le _,Nat.le_refl _,λi h aI=>by omega,λi h aI=>by omega⟩ (by show 1 - (0 - (l.length:Int))<_; omega) λs av=>?_;obtain ⟨lo,hi,rfl,h1,af,aE,bm⟩:=av;simp only;refine Tot.bt (λaP=>?_) (λdF=>.aj ⟨lo,rfl,by omega,aE,λi h aI=>bm i h (by omega)⟩);rw [half (by omega) (by omega)];have hm:∃ m:Nat,((lo:Int)+(hi:Int)) / 2=(m:Int)/\lo<=m/\m<hi:=⟨(lo+hi) / 2,by omega,by omega,by omega⟩;obtain ⟨m,hm,vC,JY⟩:=hm;rw [hm,eA m (by omega),dT (by omega:m<l.length)];obtain ⟨v,hv,qA,tb⟩:=Ig (l[m]'(by omega)).At n;simp only [Option.bind_some,AJ,hv];refine .aB (Ξ:=λj:Int × Int=>(∃ xW qx:Nat,j=((xW:Int),(qx:Int))/\xW<=qx/\qx<=l.length/\(∀ (i:Nat) (h:i<l.length),i<xW->l[i].At<n)/\∀ (i:Nat) (h:i<l.length),qx<=i->n<=l[i].At)/\(lo:Int) - (hi:Int)<j.1 - j.2/\j.1 - j.2<=1) ?_ λj ag=>.aj ag;refine .aB (Ξ:=λj:Int × Int=>(∃ xW qx:Nat,j=((xW:Int),(qx:Int))/\xW<=qx/\qx<=l.length/\(∀ (i:Nat) (h:i<l.length),i<xW->l[i].At<n)/\∀ (i:Nat) (h:i<l.length),qx<=i->n<=l[i].At)/\(lo:Int) - (hi:Int)<j.1 - j.2/\j.1 - j.2<=1) ?_ λj ag=>.aj ag;refine Tot.bt (λCw=>.aj ⟨⟨m+1,hi,rfl,by omega,af,λi h aI=>?_,bm⟩,by show (lo:Int) - hi<((m+1:Nat):Int) - hi; omega,by show ((m+1:Nat):Int) - hi<=1; omega⟩) (λpP=>.aj ⟨⟨lo,m,rfl,vC,by omega,aE,λi h aI=>?_⟩,by show (lo:Int) - hi<lo - m; omega,by show (lo:Int) - m<=1; omega⟩)
  ·have:=HY h (by omega:m<l.length) (by omega);have:=qA.1 Cw;omega
  ·have:=HY (by omega:m<l.length) h aI;have:¬ (l[m]'(by omega)).At<n:=λh=>pP (qA.2 h);omega
 ·obtain ⟨k,rfl,hk,h1,af⟩:=hr;refine .aB (Ξ:=λc:Int × Bool=>(c.2=true->∃ p,idx l c.1=some p/\p∈l/\p.At=n)/\(c.2=false->∀ p∈l,p.At≠n)) ?_ λc aa=>.aj aa;refine Tot.bt (λaP=>?_) (λdF=>.aj ⟨λh=>(by cases h),λ_ p aq=>?_⟩)
  ·have aP:k<l.length:=by omega
   rw [dT aP];obtain ⟨v,hv,qA,tb⟩:=Ig l[k].At n;simp only [Option.bind_some,AJ,hv];refine .aj ⟨λh=>⟨_,dT aP,List.getElem_mem aP,tb.1 (of_decide_eq_true h)⟩,λh p aq=>?_⟩;obtain ⟨i,hi,rfl⟩:=List.mem_iff_getElem.1 aq;have cS:l[k].At≠n:=λe=>of_decide_eq_false h (tb.2 e);by_cases vA:i<k
   ·have:=h1 i hi vA; omega
   ·have aw:=HY aP hi (by omega);have a2:=af k aP (Nat.le_refl _);omega
  ·obtain ⟨i,hi,rfl⟩:=List.mem_iff_getElem.1 aq;have:=h1 i hi (by omega);omega
theorem tQ (g:bA) (aN:u7 g) (l:List cH) (n:Int) (aJ:fg sy l) (ah:l.length<=1000) (hm:∀ p,p∈l↔tF g.bo p):Tot (wc l n) (Mx g.bo n):=by
 unfold wc;refine Tot.bt (λh=>.aj (.inl ⟨h,rfl⟩)) (λh=>?_);refine .aB (TO l n aJ ah) λr hr=>Tot.bH (λaU=>.aj (.inr ⟨by omega,.inr ⟨λk t au e=>?_,rfl⟩⟩)) (λau=>?_)
 ·exact hr.2 (by simpa using aU) ⟨t.cb,(k:Int)⟩ ((hm _).2 ⟨k,t,au,by omega,rfl⟩) e
 ·obtain ⟨p,aq,J9,e⟩:=hr.1 (by simpa using au);rw [aq];obtain ⟨k,t,h1,af,rfl⟩:=(hm p).1 J9;exact .aj (.inr ⟨by omega,.inl ⟨k,t,h1,e,rfl⟩⟩)
variable {g:bA}{m:List State}{cs:List Cell}{d:gW}{t:Tables}
theorem ni.hW (eC:ni g m cs d) (bT:wG g d t):zf t (wx g d) (λq=>0<=q/\q<m.length):=by
 refine ⟨λ{q} k _=>U0 eC bT q k,λ{q k p s} _ _ _=>?_,λ{q k p} _ aJ=>?_⟩
 ·rw [UR bT]; rfl
 ·obtain ⟨⟨_,_,r,hr,_⟩,_⟩:om g m q p/\oY g p:=by have:=(eC.ap q k).2.1; rw [show nO d q k=⟨2,p⟩ from aJ] at this; exact this rfl
  obtain ⟨aK,h1,af⟩:=mn hr;have ah:=(eC.dB.o6.gB r (ka hr).2.2).left;have aC:=eC.dB.o6.e1;have b9:(wx g d).len p=r.dw.length:=by show ((idx g.bu p).map (·.dw.length)).getD 0=_; rw [hr]; rfl
  have b3:(wx g d).left p=r.Left:=by show ((idx g.bu p).map (·.Left)).getD 0=_; rw [hr]; rfl
  rw [b9,b3,bT.jQ,bT.le];unfold idx;rw [if_pos aK,if_pos aK,List.getElem?_map,List.getElem?_map,af];exact ⟨rfl,rfl,ah.1,by omega⟩
theorem ll (s:Source) (ar:u' s):Tot (AH s) λr=>r.2.2.2=true->Ez r.1 r.2.1 r.2.2.1/\j2 r.1 r.2.1 r.2.1.length 0/\(∀ c∈r.2.2.1,tA r.1 r.2.1 c)/\u7 r.1:=by
 have z93:Par (yo s) λr=>r.2=true->u7 r.1:=by
  unfold yo;exact λr hr h=>by
   obtain ⟨x,h1,af⟩:=Option.bind_eq_some_iff.1 hr;cases af;have h:x.2.1=0:=of_decide_eq_true h;exact Zi s ar x h1 h
 unfold AH Gx;refine .aB (Ξ:=λr=>r.2.2=true->f' r.1/\u7 r.1/\nh r.1 r.2.1/\j2 r.1 r.2.1 r.2.1.length 0) ?_ λr hr=>Tot.bH (λ_=>.aj λh=>by cases h) (λh=>?_)
 ·refine .aB (Par.jz (t93 s ar) z93) λr hr=>Tot.bH (λ_=>.aj λh=>by cases h) (λh=>?_);have h:r.2=true:=by simpa using h
  refine .aB (Zr r.1 (hr.1 h)) λx J=>.aj λaf=>⟨hr.1 h,hr.2 h,?_⟩;have af:x.2=0:=of_decide_eq_true af;rcases J with J | J
  ·exact J.2
  ·omega
 ·obtain ⟨aN,hk,hm,hw⟩:=hr (by simpa using h);exact .aB (Zq r.1 aN hm) λrz OL=>.aB (Zp r.1 aN hm rz OL.1 OL.2) λcs eY=>.aj λ_=>⟨⟨aN,hm,eY.1⟩,hw,eY.2,hk⟩
theorem a7 (s:Source) (ar:u' s):Tot (x8 s) λr=>r.2.2.2=true->∃ m cs,ni r.1 m cs r.2.1:=by
 unfold x8;refine .aB (ll s ar) λr hr=>Tot.bH (λ_=>.aj λh=>by cases h) (λh=>?_);obtain ⟨dL,hw,aa,hk⟩:=hr (by simpa using h);exact .aB (qj r.1 r.2.1 r.2.2.1 dL) λx J=>.aB (TJ dL.o6 dL.ce) λn _=>.aj λ_=>⟨_,_,dL,hw,aa,J.1,hk⟩
def Eh (t:Tables) (n:Int):Int:=(wc t.ji n).getD 0
def yG (t:Tables) (l:List Int):List Int:=(l.takeWhile λn=>decide (0<n)).map (Eh t)
theorem UU (eC:ni g m cs d) (bT:wG g d t) (n:Int):wc t.ji n=some (Eh t n)/\Mx g.bo n (Eh t n):=by
 obtain ⟨h1,af,aE⟩:=bT.Y3;obtain ⟨v,hv,hi⟩:=tQ g eC.tk t.ji n h1 af aE;unfold Eh;rw [hv]; exact ⟨rfl,hi⟩
def start:iD:=⟨[0],[],0,⟨0,0,0,0,[],[],[],⟨0,0,0,GP⟩⟩,false⟩
theorem jX.start {Q:List Int->List Node->Prop}(a_:Q [0] []) {tk:List Int}(au:tk.length<=1000000000000) {D S:Int}(js:0<=D/\D<=100000) (bf:0<=S/\S<=1000000):jX Q tk D S start:=by
 refine ⟨a_,?_,js.2,bf.2,au,rfl,?_,?_,?_,?_,?_,?_,?_,?_,?_,λ_=>?_,λx J=>(by cases J),λh=>(by cases h),?_,?_⟩
 all_goals simp only [Go.Proofs.start,List.length_nil]
 all_goals omega
theorem Ro {α:Type}(p:α->Bool):∀ (l:List α) {k:Nat}(hk:k<l.length),(∀ i (hi:i<k),p (l[i]'(by omega))=true)->p l[k]=false->l.takeWhile p=l.take k
 | [],k,hk,_,_=>by simp at hk
 | a::l,0,hk,_,h=>by
  have h:p a=false:=h;simp [h]
 | a::l,k+1,hk,h1,af=>by
  have aJ:p a=true:=h1 0 (by omega);rw [List.takeWhile_cons,if_pos aJ,List.take_succ_cons,Ro p l (k:=k) (by simpa using hk) (λi hi=>h1 (i+1) (by omega)) af]
theorem aa2 {α:Type}(p:α->Bool) {l:List α}(h:∀ x∈l,p x=true):l.takeWhile p=l:=by
 induction l with
 | nil=>rfl
 | cons a l aO=>rw [List.takeWhile_cons,if_pos (h a (by simp)),aO λx J=>h x (by simp [J])]
theorem TH (eC:ni g m cs d) (bT:wG g d t) (l:List Int) (ah:l.length<=1000000) (D S:Int):Tot (uH t l D S) λP=>jj (wx g d) (yG t l) (min (max D 0) 100000) (min (max S 0) 1000000) start P:=by
 unfold uH;refine .aB (Ξ:=λr=>r=yG t l) (.aB (Ξ:=λr=>r=yG t l) ?_ λr hr=>.aj hr) λr hr=>?_
 ·refine Tot.upto (λs=>s.2) l.length (λk s=>s.1=(l.take k).map (Eh t)/\∀ i (hi:i<k) (ah:i<l.length),0<l[i]) rfl (by omega) ⟨rfl,λi hi=>by omega⟩ λk s hk he bc=>?_;obtain ⟨A,i⟩:=s;obtain ⟨h1,af⟩:=bc;simp only at he h1 af ⊢;subst he h1;rw [eA k (by omega)];refine Tot.bt (λaP=>?_) (λdF=>.aj ?_)
  ·have aP:k<l.length:=by omega
   rw [dT aP];refine Tot.aV (Tot.bt (λaK=>.aj ?_) (λaK=>?_))
   ·unfold yG;rw [Ro _ l aP (λi hi=>decide_eq_true (af i hi (by omega))) (decide_eq_false (by omega))];exact rfl
   ·rw [(UU eC bT _).1];refine Tot.aV (.bJ<|.aj ⟨aP,rfl,?_,λi hi hU=>?_⟩)
    ·show _=(l.take (k+1)).map _;rw [lG aP,List.map_append]; rfl
    ·by_cases e:i=k
     ·subst e; omega
     ·exact af i (by omega) hU
  ·unfold yG;have e:l.take k=l:=List.take_of_length_le (by omega);have J:∀ x∈l,decide (0<x)=true:=λx J=>by
    obtain ⟨i,hi,rfl⟩:=List.mem_iff_getElem.1 J;exact decide_eq_true (af i (by omega) hi)
   rw [e,aa2 _ J];exact rfl
 ·subst hr;have au:(yG t l).length<=1000000000000:=by
   have:=(List.takeWhile_sublist (λn:Int=>decide (0<n)) (l:=l)).length_le;unfold yG;rw [List.length_map]; omega
  have a_:wI m [0] []:=nk.start;exact .aB (YO eC.path (eC.hW bT) (jX.start (D:=min (max D 0) 100000) (S:=min (max S 0) 1000000) a_ au (by omega) (by omega)) rfl) λx J=>.aj J
def EC (c:iD):Prop:=c.p.gP=[]/\((c.pop=false/\c.iK=0/\c.p.eB=[])\/(c.pop=true/\c.p.eB=[⟨c.p.At,true⟩]))
def Bc (P:hQ):Prop:=P.gP=[]/\((P.eB=[]/\(P.Kind=1\/P.Kind=3))\/(P.eB=[⟨P.At,true⟩]/\(P.Kind=2\/P.Kind=3)))
theorem Qv {B:o0}(h1:∀ q,(B.act q 1).Kind≠1) {c:iD}(ah:c.p.gP=[]) (hu:c.p.eB=[⟨c.p.At,true⟩]):(∀ p,p1 B c=.fin p->Bc p)/\∀ p n r,p1 B c=.go p n r->Bc { p with Kind:=3 }/\EC r:=by
 unfold p1;rw [if_neg (h1 _)];split
 ·exact ⟨λp e=>(by cases e; exact ⟨ah,.inr ⟨hu,.inl rfl⟩⟩),λp n r e=>(by cases e)⟩
 ·exact ⟨λp e=>(by cases e),λp n r e=>by cases e; exact ⟨⟨ah,.inr ⟨hu,.inr rfl⟩⟩,ah,.inr ⟨rfl,hu⟩⟩⟩
theorem K3 {B:o0}(h1:∀ q,(B.act q 1).Kind≠1) {tk:List Int}{c:iD}(h:EC c):(∀ p,iQ B tk c=.fin p->Bc p)/\∀ p n r,iQ B tk c=.go p n r->Bc { p with Kind:=3 }/\EC r:=by
 obtain ⟨ah,⟨aq,aU,hu⟩ | ⟨aq,hu⟩⟩:=h
 ·unfold iQ;rw [if_neg (by simp [aq])];split
  ·exact ⟨λp e=>(by cases e),λp n r e=>by cases e; exact ⟨⟨ah,.inl ⟨hu,.inr rfl⟩⟩,ah,.inl ⟨rfl,by show max (c.iK - 1) 0=0; omega,hu⟩⟩⟩
  ·split
   ·exact ⟨λp e=>(by cases e),λp n r e=>by cases e; exact ⟨⟨ah,.inl ⟨hu,.inr rfl⟩⟩,ah,.inl ⟨rfl,aU,hu⟩⟩⟩
   ·split
    ·exact ⟨λp e=>(by cases e; exact ⟨ah,.inl ⟨hu,.inl rfl⟩⟩),λp n r e=>(by cases e)⟩
    ·rw [if_neg (by omega)];exact Qv h1 ah (by show c.p.eB++[_]=_; rw [hu,aU]; rfl)
 ·unfold iQ;rw [if_pos aq];exact Qv h1 ah hu
theorem jj.clean {B:o0}(h1:∀ q,(B.act q 1).Kind≠1) {tk:List Int}{D S:Int}{c:iD}{P:hQ}(h:jj B tk D S c P):EC c->Bc P:=by
 induction h with
 | fin h=>exact λaa=>(K3 h1 aa).1 _ h
 | lim h ah=>exact λaa=>((K3 h1 aa).2 _ _ _ h).1
 | go h ah _ aO=>exact λaa=>aO ((K3 h1 aa).2 _ _ _ h).2
theorem iU (g:bA) (aN:f' g) (l:List Int) (n:Int) (aK:0<=n) (aC:n<=1000):Tot (Dw g l n) λr=>r.length<=n:=by
 have au:=aN.lk;unfold Dw;refine .aB (Ξ:=λr=>(r.length:Int)<=n) ?_ λr hr=>.aj hr;refine Tot.count (λs=>s.2) n (λs=>0<=s.2/\s.2<=n/\(s.1.length:Int)=s.2) ⟨Int.le_refl _,aK,rfl⟩ (by show n - 0<_; omega) λs av=>?_;obtain ⟨A,i⟩:=s;obtain ⟨h1,af,aE⟩:=av;simp only at h1 af aE ⊢;refine .aB (Ξ:=λb:Bool=>b=true->i<l.length/\i<n) (Tot.bt (λh=>.aj λaI=>⟨h,of_decide_eq_true aI⟩) (λ_=>.aj λh=>by cases h)) λb ar=>?_;refine Tot.bH (λWQ=>?_) (λ_=>.aj (by show (A.length:Int)<=n; omega));obtain ⟨bm,b7⟩:=ar WQ;obtain ⟨y,ao,_⟩:=nC h1 bm;rw [ao];refine .aB (Ξ:=λL:List Int=>L.length=A.length+1) ?_ λL fN=>.aj ⟨⟨?_,?_,?_⟩,?_,?_⟩
 ·refine Tot.aV (.aB (t19 y (aG ((g.bo.length:Int) - 2)) (by rw [l9 (by omega) (by omega)]; omega) (by rw [l9 (by omega) (by omega)]; omega)) λk hk=>?_);rw [l9 (by omega) (by omega)] at hk;refine .aB (Ξ:=λL:List Int=>L.length=A.length+1) (Tot.bt (λh=>?_) (λh=>.bJ<|.aj (by simp))) λL fN=>.aj fN;obtain ⟨t,rp,_⟩:=nC (l:=g.bo) (i:=k+2) (by omega) (by omega);rw [l9 (n:=k+2) (by omega) (by omega),rp];exact Tot.aV (.bJ<|.aj (by simp))
 all_goals simp only
 all_goals rw [l9 (n:=i+1) (by omega) (by omega)]
 all_goals omega
theorem Y1 {g:bA}{m:List State}{cs:List Cell}{d:gW}(eC:ni g m cs d) (aC:∀ p∈g.bu,(1:Int)∉p.dw) (q:Int):(nO d q 1).Kind≠1:=by
 intro hk;obtain ⟨uW,v,h1,af,aE,bm⟩:=(eC.ap q 1).1 hk;obtain ⟨n,e,zQ⟩:=FW h1;obtain ⟨_,y,y',ao,s_,_⟩:=eC.AU.aT n uW zQ v af;obtain ⟨_,_,q,g1,g2⟩:=Gm eC.dB.o6 (x:=y') (by rw [s_,aE]; decide);rw [s_,aE] at g2;exact aC q (ka g1).2.2 (ka g2).2.2
theorem t6 (x:qS) (w:List Int):AK x w=some true:=by
 suffices h:Tot (AK x w) λr=>r=true by
  obtain ⟨r,hr,e⟩:=h; rw [hr,e]
 unfold AK;rw [abp];refine Tot.aV (.aB (t10 x) λy ar=>.aB (a7 y ar) λD aQ=>Tot.bH (λ_=>.aj rfl) (λh=>?_));obtain ⟨m,cs,eC⟩:=aQ (by simpa using h);generalize D.1=g at *;generalize D.2.1=d at *;have aN:=eC.dB.o6;have rk:=aN.jd;refine .aB (Ξ:=ie (λ_:Unit=>∀ p∈g.bu,(1:Int)∉p.dw) (λb:Bool=>b=true)) ?_ λx J=>?_
 ·refine Tot.upto (λs=>s) g.bu.length (λk _=>∀ p∈g.bu.take k,(1:Int)∉p.dw) rfl (by omega) (by simp) λk s hk he bc=>?_;subst he;rw [eA k (by omega)];refine Tot.bt (λaP=>?_) (λdF=>.aj ?_)
  ·have aP:k<g.bu.length:=by omega
   rw [dT aP];refine Tot.aV (.aB (r0 _ 1 (by have:=aN.aF _ (List.getElem_mem aP); omega)) λb ar=>Tot.bH (λ_=>.aj rfl) (λaU=>.aj ⟨aP,rfl,λp aq=>?_⟩));rw [lG aP] at aq;rcases List.mem_append.1 aq with aq | aq
   ·exact bc p aq
   ·rw [List.mem_singleton.1 aq];intro h1;rw [ar.2 h1] at aU; cases aU
  ·intro p aq;have e:g.bu.take k=g.bu:=List.take_of_length_le (by omega);rw [e] at bc; exact bc p aq
 ·rcases x with x | x
  ·have J:∀ p∈g.bu,(1:Int)∉p.dw:=J;refine .aB (nS g m.length d eC.do eC.tk) λt bT=>.aB (iU g aN w 30 (by decide) (by decide)) λl ah=>.aB (TH eC bT l (by omega) 2000 2000) λP aY=>?_;obtain ⟨h1,af⟩:=aY.clean (Y1 eC J) ⟨rfl,.inl ⟨rfl,rfl,rfl⟩⟩;rw [h1];refine .aB (Ξ:=λb=>b=false) (Tot.bt (λh=>by simp at h) (λ_=>.aj ?_)) λb ar=>?_
   ·rcases af with ⟨af,_⟩ | ⟨af,_⟩ <;> rw [af] <;> rfl
   ·subst ar;rcases af with ⟨af,hk⟩ | ⟨af,hk⟩ <;> rw [af] <;> rcases hk with hk | hk <;> rw [hk] <;> first | exact ⟨true,rfl,rfl⟩ | (simp [idx]; exact ⟨true,rfl,rfl⟩)
  ·exact .aj J
end Go.Proofs
namespace Go.Own
open Go Go.ChangeShapes Go.WideShapes Go.ChangeAt Go.RowKit
variable {H:Type}{enc:TypeId × Value->H}{P:Program}
theorem ZI {f:Func}{s:ChangeSpec}{apart fresh handsOn again:Bool}{W wN:World}{args:Array Value}{v:Value}{jI gs:List (DataW H)}{before l4 pv:List MemPlace}
  (jK:DataW.Whole enc P f.params.toList s.vars apart W args.toList jI gs before) (hk:Mm W wN) (qy:before=l4++pv)
  (zU:∀ (b:Nat) (sp:Nat->Bool) (aQ:Bool),DataW.TrodAll enc P wN b sp aQ f.resultTypes.toList (v.resultList f.resultTypes.size) (s.fn H (jI++gs)).results [])
  (qt:∀ sp:Nat->Bool,(∀ p∈before,sp p.block=true)->DataW.TrodAll enc P wN 0 sp true f.params.toList args.toList (s.fn H (jI++gs)).args l4)
  (O_:∀ sp:Nat->Bool,(∀ p∈before,sp p.block=true)->DataW.TrodVars enc P wN sp s.vars (s.fn H (jI++gs)).vars pv)
  (c6:∀ (j:Nat) (t:TypeId) (r:Value),f.resultTypes[j]?=some t->(v.resultList f.resultTypes.size)[j]?=some r->Value.okWide P wN .any 0 t r) :
  s.post enc P f apart fresh handsOn again W args v wN:=by
 subst qy;have aP:∀ p∈l4++pv,p.block<W.heap.size:=λp aq=>jK.lt p aq;have ja:∀ p∈l4++pv,(λb=>decide (b<W.heap.size)) p.block=true:=λp aq=>decide_eq_true (aP p aq);have Wl:=jK;obtain ⟨_,_,_,_,_,aW,aC⟩:=Wl;have au:=trodAll_append (qt (λ_=>true) (λ_ _=>rfl)) (zU 0 (λ_=>true) true);refine ⟨jI,gs,l4++pv,[],l4,pv,jK,zU _ _ _,qt _ ja,O_ _ ja,hk.kept _,λ_=>⟨c6,_,_,l4++pv,⟨_,pv,au,O_ _ (λ_ _=>rfl),rfl,λb off aq=>?_,aC⟩,λp aq _=>aq⟩⟩;rw [hk.dN _ (aP _ aq)];exact aW b off aq
end Go.Own
namespace Go.Proofs
open Go Go.Own
set_option maxRecDepth 100000
theorem abb:Tryz.prog.underlying 3=some (.int .i64):=by kernel_rfl
theorem aba:Tryz.prog.underlying 4=some .bool:=by kernel_rfl
def x5 (n:Int):Prop:=(Lit.int .i64 n).wf=true
def okB (_:Bool):Prop:=True
def x6 {α:Type}(p:α->Prop) (l:List α):Prop:=l.length<=maxLen/\∀ x∈l,p x
def Y' (x:qS):Prop:=x5 x.dD/\x6 (x6 x5) x.eR/\x6 x5 x.wF/\x6 x5 x.qY/\okB x.Bb/\True
theorem MB:lJ Tryz.prog ai 3 x5:=.int abb (by kernel_rfl) λ_=>rfl
theorem Sv:lJ Tryz.prog e8 4 okB:=.bool aba (by kernel_rfl) λ_=>rfl
theorem Ry:Tryz.prog.underlying 27=some (.slice 3):=by kernel_rfl
theorem EU:lJ Tryz.prog (bC ai) 27 (x6 x5):=MB.slice (t:=27) Ry (by kernel_rfl) (by decide)
theorem Sy:lJ Tryz.prog (bC (bC ai)) 26 (x6 (x6 x5)):=EU.slice (t:=26) (by kernel_rfl) (by kernel_rfl) (by decide)
def U1:bN qS:=⟨5,λx=>[ae x.dD,ak (bC ai) x.eR,ak ai x.wF,ak ai x.qY,bh x.Bb],λ_=>rfl,λ_=>dp.bn⟩
theorem QT:Eg Tryz.prog 29 [3,26,27,27,4]=true:=by kernel_rfl
theorem Sx:lJ Tryz.prog U1 29 Y':=.struct (t:=29) (.cons MB (.cons Sy (.cons EU (.cons EU (.cons Sv .nil))))) (λb=>(⟨b.1,b.2.1,b.2.2.1,b.2.2.2.1,b.2.2.2.2.1⟩:qS)) (λx=>(x.dD,x.eR,x.wF,x.qY,x.Bb,())) (λ_=>rfl) (λ_=>rfl) QT (by kernel_rfl)
theorem Zu:laidOutB Tryz.prog=true:=by kernel_rfl
theorem Zv:mapsRowed Tryz.prog=true:=by kernel_rfl
theorem Zt:((List.range Tryz.prog.types.size).all λt=>match Tryz.prog.underlying t with | some (.slice e)=>decide (0<Tryz.prog.cellsOf e) | _=>true)=true:=by kernel_rfl
end Go.Proofs
