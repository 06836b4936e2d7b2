/-
  Parts of the proof that the last text states. No condition of their own.
-/
import Derived.KernelRfl
import Derived.Test.YtdhblbniiokpmaaGreatE3
namespace Go.Proofs
open Go Go.Own
set_option maxRecDepth 100000
set_option linter.unusedVariables false
theorem YX (m:fJ) (x:Sym) (aO:m.cu.length=m.aG.ba.length) (aI:3<=m.aG.ba.length) (h:m.aG.ba.length<=100000000000) (ak:m.cb.length<=100000000000) (J:l0 x) (aw:x.Lit=true\/∀ y∈m.cb,y≠x.Name) :
  Tot (s8 m x) λr=>Grow m r.2 1/\0<=r.1/\r.1<r.2.aG.ba.length:=by
 unfold s8;have r4:Grow m m 1:=⟨aO,Nat.le_refl _,Nat.le_succ _,Nat.le_succ _,rfl,rfl,rfl,rfl,λ_ h=>h⟩;refine Tot.bF (λ_=>?_) (λod=>?_)
 ·exact .aB (t136 m x aO h J) λr ⟨ao,aR,h1⟩=>.aq ⟨ao,aR,h1⟩
 ·have aw:∀ y∈m.cb,y≠x.Name:=aw.resolve_left (by rw [od]; decide);refine .aB (t107 m x.Name (by simp only [dK]; omega)) λk hk=>Tot.br (λaR=>?_) (λ_=>?_)
  ·rcases hk with ⟨rfl,_⟩ | ⟨h1,af,aI⟩
   ·exact absurd aR (by decide)
   ·exact absurd rfl (aw _ (List.mem_of_getElem? aI))
  ·refine .aB (t106 m x (by simp only [dK]; omega)) λt aw=>Tot.br (λ_=>?_) (λaR=>.aq ⟨r4,?_⟩)
   ·refine .aB (t105 m _ _) λm' hm=>.aq ⟨hm.1.grow aO 1,Int.le_refl 0,?_⟩;show (0:Int)<(m'.aG.ba.length:Int);rw [hm.1.g]; omega
   ·show 0<=t/\t<(m.aG.ba.length:Int);rcases aw with aw | aw <;> omega
structure A1 (T:Nat) (N:Int) (p:Prod):Prop where
 left:0<=p.Left/\p.Left<=N
 right:∀ s∈p.eI,q2 T N s
 prec:-1<=p.Prec/\p.Prec<T
theorem A1.mono {T T':Nat}{N iZ:Int}{p:Prod}(h:A1 T N p) (dL:T<=T') (bc:N<=iZ):A1 T' iZ p :=
 ⟨⟨h.left.1,by have:=h.left.2; omega⟩,λs aC=>(h.right s aC).mono dL bc,⟨h.prec.1,by have:=h.prec.2; omega⟩⟩
structure k3 (m:fJ) (T L I Q:Nat):Prop where
 gF:m.cu.length=m.aG.ba.length
 lo:3<=m.aG.ba.length
 hi:m.aG.ba.length<=T
 ty:m.cL.length<=T
 fz:m.cb.length=L
 hz:0<=m.b_/\m.b_<=I
 Aq:m.aG.bj.length<=Q
 hq:∀ p∈m.aG.bj,A1 m.aG.ba.length (L+m.b_) p
 lvl:0<=m.ct
 jw:∀ t∈m.aG.ba,0<=t.Level
theorem k3.mono {m:fJ}{T L I Q T' I' Lh:Nat}(h:k3 m T L I Q) (dL:T<=T') (bf:I<=I') (dO:Q<=Lh):k3 m T' L I' Lh :=
 ⟨h.gF,h.lo,by have:=h.hi; omega,by have:=h.ty; omega,h.fz,⟨h.hz.1,by have:=h.hz.2; omega⟩,by have:=h.Aq; omega,h.hq,h.lvl,h.jw⟩
theorem k3.grow {m m':fJ}{T L I Q k:Nat}(h:k3 m T L I Q) (g:Grow m m' k):k3 m' (T+k) L I Q :=
 ⟨g.gF,by have:=h.lo; have:=g.lo; omega,by have:=h.hi; have:=g.hi; omega,by have:=h.ty; have:=g.ty; omega,by rw [g.fz]; exact h.fz,by rw [g.hz]; exact h.hz,by rw [g.hq]; exact h.Aq,
  by rw [g.hq,g.hz]; exact λp au=>(h.hq p au).mono g.lo (by omega),by rw [g.lvl]; exact h.lvl,g.jw h.lvl h.jw⟩
theorem t108 (m:fJ) (left:ByteArray) (a:Alt) {T L I Q:Nat}(hm:k3 m T L I Q) (dL:T<=10000000000) (h6:L<=10000000000) (bf:I<=10000000000) (dO:Q<=10000000000) (av:wk a) (dd:DK a) :
  Tot (vL m left a) λm'=>k3 m' (T+1001) L (I+1000) (Q+1001)/\1<=m'.aG.bj.length:=by
 unfold vL;have aF:=av.n;refine .aB (t107 m left (by rw [hm.fz]; simp only [dK]; omega)) λa8 hV=>?_;have acK:-1<=a8/\a8<L:=by rw [<- hm.fz]; rcases hV with h | h <;> omega
 refine Tot.aB (Ξ:=λa7=>k3 a7.1 (T+1000) L (I+1000) (Q+1000)/\(∀ s∈a7.2.1,q2 a7.1.aG.ba.length (L+a7.1.b_) s)/\a7.2.1.length<=1000) ?_ λa7 js=>?_
 ·refine Tot.count (λs=>s.2.2.2.2) a.ht.length (λs=>0<=s.2.2.2.2/\s.2.2.2.2<=a.ht.length/\k3 s.1 (T+s.2.2.2.2.toNat) L (I+s.2.2.2.2.toNat) (Q+s.2.2.2.2.toNat)/\(∀ y∈s.2.1,q2 s.1.aG.ba.length (L+s.1.b_) y)/\s.2.1.length<=s.2.2.2.2.toNat) ⟨by show (0:Int)<=0; omega,by show (0:Int)<=_; omega,hm,by simp,Nat.le_refl 0⟩ (by show (a.ht.length:Int) - 0<_; omega) λs aC=>?_;obtain ⟨m1,rt,bF,at_,i⟩:=s;obtain ⟨aR,h1,ah,ao,ak⟩:=aC;simp only at aR h1 ah ao ak ⊢;have hw:aL (i+1)=i+1:=by rw [cJ]; omega
  have cz:(i+1).toNat=i.toNat+1:=by omega
  refine Tot.br (λaT=>?_) (λ_=>.aq ⟨ah.mono (by omega) (by omega) (by omega),ao,by show rt.length<=1000; omega⟩);refine Tot.aB (Ξ:=λj=>k3 j.1 (T+(i.toNat+1)) L (I+(i.toNat+1)) (Q+(i.toNat+1))/\(∀ y∈j.2.1,q2 j.1.aG.ba.length (L+j.1.b_) y)/\j.2.1.length<=i.toNat+1) ?_ λj BO=>?_
  ·refine Tot.aB (Tot.hj (Φ:=λy=>y∈a.ht) aR aT λy _ ax=>ax) λy ax=>?_;refine Tot.aB (Ξ:=λj=>k3 j.1 (T+(i.toNat+1)) L (I+(i.toNat+1)) (Q+(i.toNat+1))/\(∀ y∈j.2.1,q2 j.1.aG.ba.length (L+j.1.b_) y)/\j.2.1.length<=i.toNat+1) ?_ λj Iv=>.aq Iv;refine Tot.aB (Ξ:=λj=>k3 j.1 (T+(i.toNat+1)) L (I+(i.toNat+1)) (Q+(i.toNat+1))/\(∀ y∈j.2.1,q2 j.1.aG.ba.length (L+j.1.b_) y)/\j.2.1.length<=i.toNat+1) ?_ λj Iv=>.aq Iv;refine Tot.bF (λ_=>?_) (λ_=>?_)
   ·have bY:=ah.hi;refine .aB (t138 m1 y.Sym ah.gF ah.lo (by omega) (by rw [ah.fz]; omega) (dd.parts y ax)) λr ⟨aO,N7⟩=>?_;refine .aB (Ξ:=λ_=>True) (Tot.ap (by simp [lim]; omega) trivial) λ_ _=>.aq ⟨(ah.grow aO).mono (by omega) (by omega) (by omega),λz aY=>?_,by simp; omega⟩;rcases List.mem_append.1 aY with aY | aY
    ·exact (ao z aY).mono aO.lo (by show (L:Int)+m1.b_<=L+r.2.b_; rw [aO.hz]; omega)
    ·rw [List.mem_singleton.1 aY];rw [ah.fz] at N7;exact N7.mono (Nat.le_refl _) (by show (L:Int)<=L+r.2.b_; rw [aO.hz]; have:=ah.hz.1; omega)
   ·refine Tot.aB (Ξ:=λj=>k3 (⟨(⟨m1.aG.ba,m1.aG.b3,j.1,m1.aG.cC,m1.aG.cK⟩:bO),m1.cu,m1.cL,m1.cb,m1.c3,m1.dn,m1.dk,m1.ct,j.2.1⟩:dv) (T+(i.toNat+1)) L (I+(i.toNat+1)) (Q+(i.toNat+1))/\(∀ y∈j.2.2.1,q2 m1.aG.ba.length (L+j.2.1) y)/\j.2.2.1.length<=i.toNat+1) ?_ λj Vl=>.aq Vl;refine Tot.bF (λ_=>.aq ⟨⟨ah.gF,ah.lo,by have:=ah.hi; show m1.aG.ba.length<=_; omega,by have:=ah.ty; show m1.cL.length<=_; omega,ah.fz,⟨ah.hz.1,by have:=ah.hz.2; show m1.b_<=_; omega⟩,by have:=ah.Aq; show m1.aG.bj.length<=_; omega,ah.hq,ah.lvl,ah.jw⟩,ao,by show rt.length<=_; omega⟩) (λ_=>?_);have vj:=ah.hz;have vk:=ah.fz;have ue:=ah.Aq;have ib:aL (m1.b_+1)=m1.b_+1:=by rw [cJ]; omega
    have hr:aL (((m1.cb.length:Int))+(m1.b_+1))=L+(m1.b_+1):=by rw [cJ,vk]; omega
    have AF:aL (1000+(m1.cb.length:Int))=1000+L:=by rw [cJ,vk]; omega
    have AG:aL (1000+(L:Int)+(m1.b_+1))=1000+(L:Int)+(m1.b_+1):=by rw [cJ]; omega
    rw [ib,hr,AF,AG];refine .aB (Ξ:=λ_=>True) (Tot.ap (by simp [lim]; omega) trivial) λ_ _=>.aB (Ξ:=λ_=>True) (Tot.ap (by simp [lim]; omega) trivial) λ_ _=>.aB (Ξ:=λ_=>True) (Tot.ap (by simp [lim]; omega) trivial) λ_ _=>.aq ⟨⟨ah.gF,ah.lo,?_,?_,ah.fz,?_,?_,?_,ah.lvl,ah.jw⟩,?_,?_⟩
    ·have:=ah.hi; show m1.aG.ba.length<=_; omega
    ·have:=ah.ty; show m1.cL.length<=_; omega
    ·show 0<=m1.b_+1/\m1.b_+1<=((I+(i.toNat+1):Nat):Int); omega
    ·show (m1.aG.bj++[_]).length<=_; simp; omega
    ·intro p au;rcases List.mem_append.1 au with au | au
     ·exact (ah.hq p au).mono (Nat.le_refl _) (by show (L:Int)+m1.b_<=L+(m1.b_+1); omega)
     ·rw [List.mem_singleton.1 au];refine ⟨?_,by simp,?_⟩
      ·show 0<=(L:Int)+(m1.b_+1)/\(L:Int)+(m1.b_+1)<=L+(m1.b_+1); omega
      ·have:=ah.lo; show (-1:Int)<=-1/\(-1:Int)<(m1.aG.ba.length:Int); omega
    ·intro z aY;rcases List.mem_append.1 aY with aY | aY
     ·exact (ao z aY).mono (Nat.le_refl _) (by show (L:Int)+m1.b_<=L+(m1.b_+1); omega)
     ·rw [List.mem_singleton.1 aY];exact .inr (by show 1000<=1000+(L:Int)+(m1.b_+1)/\1000+(L:Int)+(m1.b_+1)<=1000+((L:Int)+(m1.b_+1)); omega)
    ·show (rt++[_]).length<=_; simp; omega
  ·rw [hw];refine .aq ⟨⟨?_,?_,?_,BO.2.1,?_⟩,?_,?_⟩
   ·show (0:Int)<=i+1; omega
   ·show i+1<=(a.ht.length:Int); omega
   ·show k3 j.1 (T+(i+1).toNat) L (I+(i+1).toNat) (Q+(i+1).toNat);rw [cz]; exact BO.1
   ·show j.2.1.length<=(i+1).toNat;rw [cz]; exact BO.2.2
   ·show i<i+1; omega
   ·show i+1<=(a.ht.length:Int); omega
 ·obtain ⟨ah,ao,ak⟩:=js;have l7:=ah.lo;have vj:=ah.hz;refine Tot.aB (Ξ:=λp=>-1<=p/\p<(a7.1.aG.ba.length:Int)) ?_ λhq EK=>?_
  ·refine Tot.count (λs=>s.2) a7.2.1.length (λs=>0<=s.2/\s.2<=a7.2.1.length/\-1<=s.1/\s.1<(a7.1.aG.ba.length:Int)) ⟨by show (0:Int)<=0; omega,by show (0:Int)<=_; omega,by show (-1:Int)<=-1; omega,by show (-1:Int)<_; omega⟩ (by show (a7.2.1.length:Int) - 0<_; omega) λs aC=>?_;obtain ⟨aR,h1,af,aI⟩:=aC;have hw:aL (s.2+1)=s.2+1:=by rw [cJ]; omega
   rw [hw];refine Tot.br (λaT=>?_) (λ_=>.aq ⟨af,aI⟩);refine Tot.aB (Ξ:=λp=>-1<=p/\p<(a7.1.aG.ba.length:Int)) ?_ λp au=>.aq ⟨⟨?_,?_,au.1,au.2⟩,?_,?_⟩
   ·refine .aB (Tot.hj (Φ:=λy=>idx a7.2.1 s.2=some y/\y∈a7.2.1) aR aT λy h1 af=>⟨h1,af⟩) λy ax=>?_;refine .aB (Ξ:=λp=>-1<=p/\p<(a7.1.aG.ba.length:Int)) ?_ λp au=>.aq au;refine Tot.br (λaT=>?_) (λ_=>.aq ⟨af,aI⟩);rw [ax.1];refine Tot.aV (.aq ?_);rcases ao y ax.2 with h | h
    ·omega
    ·omega
   ·show (0:Int)<=s.2+1; omega
   ·show s.2+1<=(a7.2.1.length:Int); omega
   ·show s.2<s.2+1; omega
   ·show s.2+1<=(a7.2.1.length:Int); omega
  ·refine Tot.aB (Ξ:=λj=>Grow a7.1 j.1 1/\-1<=j.2/\j.2<(j.1.aG.ba.length:Int)) ?_ λj EB=>?_
   ·have r4:Grow a7.1 a7.1 1:=⟨ah.gF,Nat.le_refl _,Nat.le_succ _,Nat.le_succ _,rfl,rfl,rfl,rfl,λ_ h=>h⟩;refine Tot.bF (λ_=>?_) (λ_=>.aq ⟨r4,EK⟩);refine Tot.aB (Ξ:=λc=>c=true->a.Prec.Lit=true\/∀ y∈a7.1.cb,y≠a.Prec.Name) ?_ λc aa=>?_
    ·refine Tot.bF (λh=>.aq λ_=>.inl h) (λ_=>?_);refine .aB (t107 a7.1 a.Prec.Name (by rw [ah.fz]; simp only [dK]; omega)) λk hk=>.aq λaT=>?_;have aT:=of_decide_eq_true aT;rcases hk with ⟨_,h⟩ | h
     ·exact .inr h
     ·omega
    ·refine Tot.aB (Ξ:=λj=>Grow a7.1 j.1 1/\-1<=j.2/\j.2<(j.1.aG.ba.length:Int)) ?_ λj ah=>.aq ah;have bY:=ah.hi;refine Tot.bF (λh=>?_) (λ_=>?_)
     ·refine .aB (YX a7.1 a.Prec ah.gF ah.lo (by omega) (by rw [ah.fz]; omega) dd.prec (aa h)) λr ao=>.aq ⟨ao.1,?_,ao.2.2⟩;have:=ao.2.1; show -1<=r.1; omega
     ·refine .aB (t105 a7.1 _ _) λm' iq=>.aq ⟨iq.1.grow ah.gF 1,by show (-1:Int)<=-1; omega,?_⟩;show (-1:Int)<(m'.aG.ba.length:Int); omega
   ·have iq:=ah.grow EB.1;have ue:=iq.Aq;refine .aB (Ξ:=λ_=>True) (Tot.ap (by simp [lim]; omega) trivial) λ_ _=>.aB (Ξ:=λ_=>True) (Tot.ap (by simp [lim]; omega) trivial) λ_ _=>.aq ⟨⟨iq.gF,iq.lo,?_,?_,iq.fz,⟨iq.hz.1,?_⟩,?_,?_,iq.lvl,iq.jw⟩,by simp⟩
    ·have:=iq.hi; show j.1.aG.ba.length<=_; omega
    ·have:=iq.ty; show j.1.cL.length<=_; omega
    ·have:=iq.hz.2; show j.1.b_<=_; omega
    ·show (j.1.aG.bj++[_]).length<=_; simp; omega
    ·intro p au;rcases List.mem_append.1 au with au | au
     ·exact iq.hq p au
     ·rw [List.mem_singleton.1 au];have aci:=iq.hz;refine ⟨?_,λz aY=>?_,EB.2⟩
      ·show 0<=aL (1+a8)/\aL (1+a8)<=(L:Int)+j.1.b_;rw [cJ]; omega
      ·exact (ao z aY).mono EB.1.lo (by show (L:Int)+a7.1.b_<=L+j.1.b_; rw [EB.1.hz]; omega)
theorem Kw (l:List Int):(strOfNums l).size=l.length:=strOfNums_size ..
theorem t110 (n:Int) (aR:0<=n) (h1:n<=1000000000000):Tot (CK n) λs=>s.size<=2000000000000:=by
 unfold CK;have hu:IntKind.u64.wrap n=n:=by rw [IntKind.wrap_u64]; omega
 refine Tot.aB (Ξ:=λj=>j=n) (Tot.br (λh=>absurd h (by omega)) (λ_=>.aq hu)) λj ah=>?_;subst ah;refine Tot.aB (Ξ:=λs=>s.size<=1000000000001) ?_ λs aC=>Tot.br (λh=>absurd h (by omega)) (λ_=>.aq (by omega));refine Tot.loop (λs=>0<=s.1/\s.1+s.2.size<=1000000000000+1/\(s.2.size=0->s.1<=1000000000000)) (λs=>s.1.toNat+(if s.2.size=0 then 1 else 0)) ⟨aR,by show j+((0:Nat):Int)<=_; omega,λ_=>h1⟩ (by show j.toNat+(if (0:Nat)=0 then 1 else 0)<1000000000000000000; simp; omega) λs aC=>?_
 obtain ⟨m,t⟩:=s;obtain ⟨g0,g1,g2⟩:=aC;simp only at g0 g1 g2 ⊢;refine Tot.aB (Ξ:=λc=>c=true->0<m\/t.size=0) ?_ λc aa=>Tot.bF (λim=>?_) (λ_=>.aq ?_)
 ·refine Tot.br (λh=>.aq λ_=>.inl h) (λ_=>.aq λh=>.inr ?_);have:=of_decide_eq_true h;rw [this]; rfl
 ·have aa:=aa im;refine .aB (Ξ:=λx=>x=m.tmod 10) (Tot.rA (by decide) rfl) λx J=>?_;refine .aB (Ξ:=λy=>y.size=t.size+1) (Tot.cat ?_ ?_) λy ax=>.aB (Ξ:=λz=>z=m / 10) (Tot.rv (by decide) ?_) λz aY=>.aq ?_
  ·rw [Kw]; simp; omega
  ·rw [ByteArray.size_append,Kw]; simp; omega
  ·rw [Int.tdiv_eq_ediv_of_nonneg g0,IntKind.wrap_u64]; omega
  ·subst aY;refine ⟨⟨?_,?_,?_⟩,?_⟩
   ·show 0<=m / 10; omega
   ·show m / 10+(y.size:Int)<=_; rw [ax]; omega
   ·intro h; have h:y.size=0:=h; omega
   ·show (m / 10).toNat+(if y.size=0 then 1 else 0)<m.toNat+(if t.size=0 then 1 else 0);rw [if_neg (by omega)]
    split <;> omega
 ·show t.size<=1000000000001; omega
structure hf (g:bO):Prop where
 kW:3<=g.ba.length/\g.ba.length<=40
 dz:1<=g.b3.length/\g.b3.length<=24
 h':1<=g.bj.length/\g.bj.length<=60
 hq:∀ p∈g.bj,A1 g.ba.length (g.b3.length - 1) p
 aH:∀ p∈g.bj,p.eI.length<=8
 jw:∀ t∈g.ba,0<=t.Level
structure iL (m:fJ) (T L:Nat):Prop where
 gF:m.cu.length=m.aG.ba.length
 lo:3<=m.aG.ba.length
 hi:m.aG.ba.length<=3+T
 ty:m.cL.length<=T
 fz:m.cb.length<=L
 hq:m.aG.bj=[]
 hz:m.b_=0
 lvl:0<=m.ct
 jw:∀ t∈m.aG.ba,0<=t.Level
theorem iL.mono {m:fJ}{T L T' L':Nat}(h:iL m T L) (dL:T<=T') (h6:L<=L'):iL m T' L' :=
 ⟨h.gF,h.lo,by have:=h.hi; omega,by have:=h.ty; omega,by have:=h.fz; omega,h.hq,h.hz,h.lvl,h.jw⟩
theorem iL.grow {m m':fJ}{T L k:Nat}(h:iL m T L) (g:Grow m m' k):iL m' (T+k) L :=
 ⟨g.gF,by have:=h.lo; have:=g.lo; omega,by have:=h.hi; have:=g.hi; omega,by have:=h.ty; have:=g.ty; omega,by rw [g.fz]; exact h.fz,g.hq.trans h.hq,g.hz.trans h.hz,by rw [g.lvl]; exact h.lvl,g.jw h.lvl h.jw⟩
theorem iL.same {m m':fJ}{T L:Nat}(h:iL m T L) (g:rN m m'):iL m' T L:=by
 have:=h.grow (g.grow h.gF 0);exact this
theorem SY (s:ByteArray) (m n:Int) (h:0<=m/\m<=n/\n<=s.size):(rS s m n).size<=(n - m).toNat:=by
 grind [rS,ByteArray.size_extract]
theorem t22 (s:ByteArray) (n:Int) (aR:0<=n):Tot (s9 s n) λt=>(t.size:Int)<=n:=by
 unfold s9;refine Tot.br (λh=>?_) (λh=>.aq (by omega))
 grind [Tot.cut,SY]
theorem t23 (x:Sym):Tot (xX x) λy=>y.Name.size<=dK:=by
 unfold xX;refine .aB (t22 _ 25 (by decide)) λt aw=>.aq ?_
 grind
theorem Tot.make {β:Type}{f:List β × Int->Option ((List β × Int) ⊕ List β)}(n:Int) (P:β->Prop) (aF:0<=n/\n<=1000000)
  (aC:∀ (l:List β) (i:Int),0<=i->i<=n->(l.length:Int)=i->(∀ y∈l,P y)->Tot (f (l,i)) (hK (λcT=>i<n/\cT.2=i+1/\∃ y,cT.1=l++[y]/\P y) (λr=>r=l))) :
  Tot (b4 f ([],0)) λl=>(l.length:Int)<=n/\∀ y∈l,P y:=by
 refine Tot.count (λs=>s.2) n (λs=>0<=s.2/\s.2<=n/\(s.1.length:Int)=s.2/\∀ y∈s.1,P y) ⟨Int.le_refl 0,aF.1,rfl,by simp⟩ (by show n - 0<_; omega) λs bf=>?_;obtain ⟨l,i⟩:=s;obtain ⟨aR,h1,af,aI⟩:=bf;refine (aC l i aR h1 af aI).use λx J=>?_
 grind
theorem t9 (s:Source):Tot (Da s) rO:=by
 unfold Da;refine .aB (t22 s.cC 40 (by decide)) λa8 h1=>.aB (t22 s.cK 40 (by decide)) λx2 af=>?_;refine .aB (Tot.make 8 GD (by decide) λl i aR vj ak cx=>?_) λbs bK=>?_
 ·refine .aB (Ξ:=λc=>c=true->i<s.Decls.length/\i<8) (Tot.br (λh=>.aq λaf=>⟨h,of_decide_eq_true af⟩) (λ_=>.aq λh=>by cases h)) λc aa=>Tot.bF (λim=>?_) (λ_=>.aq rfl);obtain ⟨hi,It⟩:=aa im;have mX:i.toNat<s.Decls.length:=by omega
  have t_:idx s.Decls i=some s.Decls[i.toNat]:=by simp [idx,aR,mX]
  rw [t_];generalize s.Decls[i.toNat]=d;have hw:aL (i+1)=i+1:=by rw [cJ]; omega
  refine Tot.aV (Tot.aV (.aB (t22 d.Tag 25 (by decide)) λcq ze=>Tot.aV ?_));refine .aB (Tot.make 6 (λx=>x.Name.size<=dK) (by decide) λvC k g0 TB En TA=>?_) λeg sH=>?_
  ·refine .aB (Ξ:=λc=>c=true->k<d.eM.length/\k<6) (Tot.aV (Tot.br (λh=>.aq λaf=>⟨h,of_decide_eq_true af⟩) (λ_=>.aq λh=>by cases h))) λc aa=>Tot.bF (λim=>?_) (λ_=>.aq rfl);obtain ⟨hk,Ix⟩:=aa im;refine Tot.aV (.aB (Tot.hj (Φ:=λ_=>True) g0 hk λ_ _ _=>trivial) λeB _=>.aB (t23 eB) λfZ TF=>.aB (Ξ:=λ_=>True) (Tot.ap (by simp [lim]; omega) trivial) λ_ _=>.aq ⟨Ix,?_,_,rfl,TF⟩)
   grind [cJ]
  ·refine .aB (Ξ:=λ_=>True) (Tot.ap (by simp [lim]; omega) trivial) λ_ _=>.aq ⟨It,hw,_,rfl,⟨?_,?_,sH.2⟩⟩
   ·grind
   grind
 ·refine .aB (Tot.make 6 Li (by decide) λl i aR vj ak cx=>?_) λgC rW=>.aq ⟨?_,?_,bK.2,?_,rW.2⟩
  ·refine .aB (Ξ:=λc=>c=true->i<s.dG.length/\i<6) (Tot.br (λh=>.aq λaf=>⟨h,of_decide_eq_true af⟩) (λ_=>.aq λh=>by cases h)) λc aa=>Tot.bF (λim=>?_) (λ_=>.aq rfl);obtain ⟨hi,It⟩:=aa im;have mX:i.toNat<s.dG.length:=by omega
   have t_:idx s.dG i=some s.dG[i.toNat]:=by simp [idx,aR,mX]
   rw [t_];generalize s.dG[i.toNat]=d;have hw:aL (i+1)=i+1:=by rw [cJ]; omega
   refine Tot.aV (.aB (t22 d.Left 25 (by decide)) λcR HL=>Tot.aV ?_);refine .aB (Tot.make 5 wk (by decide) λvC k g0 TB En TA=>?_) λeo TI=>?_
   ·refine .aB (Ξ:=λc=>c=true->k<d.eL.length/\k<5) (Tot.aV (Tot.br (λh=>.aq λaf=>⟨h,of_decide_eq_true af⟩) (λ_=>.aq λh=>by cases h))) λc aa=>Tot.bF (λim=>?_) (λ_=>.aq rfl);obtain ⟨hk,Ix⟩:=aa im;have Vs:k.toNat<d.eL.length:=by omega
    have Vp:idx d.eL k=some d.eL[k.toNat]:=by simp [idx,g0,Vs]
    simp only [Option.bind_some,Vp];generalize d.eL[k.toNat]=a;have qw:aL (k+1)=k+1:=by rw [cJ]; omega
    refine .aB (t23 a.Prec) λfM TK=>?_;refine .aB (Tot.make 6 (λp=>p.Sym.Name.size<=dK/\p.Code.size<=dK) (by decide) λgw j hy abB el abA=>?_) λnY TM=>?_
    ·refine .aB (Ξ:=λc=>c=true->j<a.ht.length/\j<6) (Tot.br (λh=>.aq λaf=>⟨h,of_decide_eq_true af⟩) (λ_=>.aq λh=>by cases h)) λc aa=>Tot.bF (λim=>?_) (λ_=>.aq rfl);obtain ⟨ah,BO⟩:=aa im;refine .aB (Tot.hj (Φ:=λ_=>True) hy ah λ_ _ _=>trivial) λnZ _=>.aB (t23 nZ.Sym) λp4 HM=>.aB (t22 nZ.Code 60 (by decide)) λn0 MV=>.aB (Ξ:=λ_=>True) (Tot.ap (by simp [lim]; omega) trivial) λ_ _=>.aq ⟨BO,?_,_,rfl,HM,?_⟩
     ·grind [cJ]
     grind
    ·refine .aB (Ξ:=λ_=>True) (Tot.ap (by simp [lim]; omega) trivial) λ_ _=>.aq ⟨Ix,qw,_,rfl,⟨?_,TM.2,TK⟩⟩
     grind
   ·refine .aB (Ξ:=λ_=>True) (Tot.ap (by simp [lim]; omega) trivial) λ_ _=>.aq ⟨It,hw,_,rfl,⟨?_,?_,TI.2⟩⟩
    ·grind
    grind
  all_goals grind
theorem t24 (a n:Int) (h:0<n) (aF:n<=9223372036854775807):Tot (vR a n) λr=>0<=r/\r<n:=by
 unfold vR;have h1:-n<a.tmod n:=by
  by_cases aP:0<=a
  ·have:=Int.tmod_nonneg n aP;omega
  ·have af:(-a).tmod n<n:=Int.tmod_lt_of_pos _ h;rw [Int.neg_tmod] at af;omega
 have af:a.tmod n<n:=Int.tmod_lt_of_pos a h;refine .aB (Ξ:=λx=>x=a.tmod n) (Tot.rem (by omega) rfl) λx J=>?_;subst J;refine Tot.aB (Ξ:=λr=>0<=r/\r<n) (Tot.br (λaI=>.aq ?_) (λaI=>.aq (by omega))) λr ao=>.aq ao
 grind [cJ]
theorem t28 (k:Int) (h:0<=k):Tot (vS k) λx=>x.Name.size=1/\x.Lit=true/\x.bR=0:=by
 unfold vS;refine .aB (Ξ:=λx=>x.size=4) (.aq rfl) λa8 h1=>.aB (Ξ:=λr=>r=k.tmod 4) (Tot.rem (by decide) rfl) λx2 af=>.aB (Ξ:=λr=>r=k.tmod 4) (Tot.rem (by decide) rfl) λa7 aI=>?_;subst af aI;have e:k.tmod 4=k % 4:=Int.tmod_eq_emod_of_nonneg h;rw [e];have hw:aL (k % 4+1)=k % 4+1:=by rw [cJ]; omega
 rw [hw];refine .aB (Ξ:=λx=>x.size=1) (Tot.cut (by rw [h1]; omega) ?_) λbs bK=>.aq ⟨bK,rfl,rfl⟩
 grind [SZ]
theorem t26 (k:Int):Tot (Aa k) λx=>x.size=1:=by
 unfold Aa;exact .aq (by rw [Kw]; rfl)
theorem t27 (k n:Int) (h:0<n) (aF:n<=100):Tot (CS k n) λx=>x.Name.size<=5:=by
 unfold CS;refine .aB (t24 k 14 (by decide) (by decide)) λa8 h1=>Tot.br (λcH=>?_) (λcH=>Tot.bF (λ_=>.aq ?_) (λ_=>?_))
 ·refine .aB (Ξ:=λ_=>True) (Tot.rem (by omega) trivial) λa7 _=>.aB (t26 a7) λbs bK=>.aq ?_
  grind
 ·show (5:Nat)<=5;omega
 ·refine .aB (t28 _ ?_) λx J=>.aq (by omega)
  grind [cJ]
structure AQ (n:Nat) (d:Decl):Prop where
 tag:d.Tag.size=0
 n:d.eM.length<=n
 syms:∀ x∈d.eM,x.Name.size<=dK
theorem t25 (l:List Int):Tot (z' l) λr=>r.length<=4/\∀ d∈r,AQ 10 d:=by
 unfold z';refine Tot.aB (Ξ:=λr=>r.length<=4/\∀ d∈r,AQ 10 d) ?_ λr ao=>.aq ao;refine Tot.count (λs=>s.2) 4 (λs=>0<=s.2/\s.2<=4/\s.1.length<=s.2.toNat/\∀ d∈s.1,AQ (1+s.2.toNat) d) ⟨Int.le_refl 0,by decide,Nat.le_refl 0,λd aS=>absurd aS (by simp)⟩ (by decide) λs aC=>?_;obtain ⟨r,i⟩:=s;obtain ⟨aR,bK,ak,aS⟩:=aC;simp only at aR bK ak aS ⊢;have hw:aL (i+1)=i+1:=by rw [cJ]; omega
 rw [hw];refine .aB (Ξ:=λc=>c=true->i<l.length/\i<4) (Tot.br (λh=>.aq λaf=>⟨h,of_decide_eq_true af⟩) (λ_=>.aq λh=>by cases h)) λc aa=>Tot.bF (λim=>?_) (λ_=>.aq ⟨by omega,λd jW=>⟨(aS d jW).tag,by have:=(aS d jW).n; omega,(aS d jW).syms⟩⟩);obtain ⟨hi,ace⟩:=aa im;refine Tot.aB (Ξ:=λj=>j.length<=i.toNat+1/\∀ d∈j,AQ (1+(i.toNat+1)) d) ?_ λj ah=>.aq ⟨⟨?_,?_,?_,?_⟩,?_,?_⟩
 ·refine .aB (Tot.hj (Φ:=λ_=>True) aR hi λ_ _ _=>trivial) λb6 _=>.aB (t24 b6 8 (by decide) (by decide)) λcw wY=>.aB (Ξ:=λ_=>True) (Tot.rem (by decide) trivial) λbI _=>?_;have ob:∀ d∈r,AQ (1+(i.toNat+1)) d:=λd jW=>⟨(aS d jW).tag,by have:=(aS d jW).n; omega,(aS d jW).syms⟩;refine Tot.bF (λ_=>.aq ⟨by omega,ob⟩) (λ_=>?_);refine .aB (Ξ:=λc=>c=true->0<(r.length:Int)) (Tot.bF (λ_=>.aq λh=>of_decide_eq_true h) (λ_=>.aq λh=>by cases h)) λc aa=>Tot.bF (λtX=>?_) (λ_=>?_)
  ·have sQ:=aa tX;have Wf:aL ((r.length:Int) - 1)=(r.length:Int) - 1:=by rw [cJ]; omega
   rw [Wf];refine .aB (Tot.hj (Φ:=λy=>y∈r) (by omega) (by omega) λ_ _ h=>h) λd jW=>.aB (t28 i aR) λx J=>.aB (Ξ:=λ_=>True) (Tot.ap (by have:=(aS d jW).n; simp [lim]; omega) trivial) λ_ _=>.aq ⟨by simp; omega,λMi zk=>?_⟩;rcases ON zk with h | rfl
   ·grind
   ·refine ⟨(aS d jW).tag,?_,λy ax=>?_⟩
    ·have:=(aS d jW).n
     grind
    ·rcases List.mem_append.1 ax with ax | ax
     ·exact (aS d jW).syms y ax
     grind
  ·refine .aB (Ξ:=λ_=>True) (Tot.rem (by decide) trivial) λdP _=>.aB (t28 i aR) λx J=>.aB (Ξ:=λ_=>True) (Tot.ap (by simp [lim]; omega) trivial) λ_ _=>.aq ⟨by simp; omega,λMi zk=>?_⟩;rcases List.mem_append.1 zk with h | h
   ·grind
   ·rw [List.mem_singleton.1 h];refine ⟨rfl,by show 1<=_; omega,λy ax=>?_⟩
    grind
 all_goals grind
structure mi (n:Nat) (r:fk):Prop where
 left:r.Left.size<=dK
 n:r.eL.length<=n
 alts:∀ a∈r.eL,wk a
theorem mi.mono {n m:Nat}{r:fk}(h:mi n r) (hm:n<=m):mi m r:=⟨h.left,Nat.le_trans h.n hm,h.alts⟩
theorem mi.add {n:Nat}{r:fk}{a:Alt}(h:mi n r) (aP:wk a):mi (n+1) (⟨r.Left,r.eL++[a],r.At⟩:fk):=by
 refine ⟨h.left,by have:=h.n; show (r.eL++[a]).length<=_; simp; omega,λb av=>?_⟩;rcases List.mem_append.1 av with av | av
 ·exact h.alts b av
 grind
theorem Lw {l:List fk}{i n:Nat}{r:fk}(h:∀ x∈l,mi n x) (ao:mi n r):∀ x∈l.set i r,mi n x:=by grind
theorem t10 (x:o7):Tot (xQ x) rO:=by
 unfold xQ;refine .aB (t24 x.b3 4 (by decide) (by decide)) λa8 h1=>.aB (t25 x.qW) λx2 af=>?_;have Wb:aL (1+a8)=1+a8:=by rw [cJ]; omega
 rw [Wb];refine .aB (Ξ:=λl=>l=List.replicate (1+a8).toNat false) (Tot.mk (by simp [lim]; omega) rfl) λa7 aI=>?_;have abF:a7.length=(1+a8).toNat:=by rw [aI]; simp
 refine Tot.aB (Ξ:=λl=>(l.length:Int)=1+a8/\∀ r∈l,mi 0 r) ?_ λbT cH=>?_
 ·refine Tot.count (λs=>s.2) (1+a8) (λs=>0<=s.2/\s.2<=1+a8/\(s.1.length:Int)=s.2/\∀ r∈s.1,mi 0 r) ⟨Int.le_refl 0,by show 0<=1+a8; omega,rfl,λd aS=>absurd aS (by simp)⟩ (by show 1+a8 - 0<_; omega) λs aC=>?_;obtain ⟨l,i⟩:=s;obtain ⟨g0,g1,ak,cx⟩:=aC;simp only at g0 g1 ak cx ⊢;have hw:aL (i+1)=i+1:=by rw [cJ]; omega
  rw [hw];refine Tot.br (λaT=>?_) (λ_=>.aq ⟨by omega,cx⟩);refine .aB (t26 i) λb6 rX=>.aB (Ξ:=λ_=>True) (Tot.ap (by simp [lim]; omega) trivial) λ_ _=>.aq ⟨⟨?_,?_,?_,λr ao=>?_⟩,?_,?_⟩
  ·grind
  ·grind
  ·grind
  ·rcases List.mem_append.1 ao with ao | ao
   ·grind
   ·rw [List.mem_singleton.1 ao];exact ⟨by show b6.size<=_; rw [rX]; decide,Nat.le_refl 0,λa aP=>absurd aP (by simp)⟩
  ·grind
  grind
 refine Tot.aB (Ξ:=λr=>(r.1.length:Int)=1+a8/\(r.2.length:Int)=1+a8/\∀ y∈r.1,mi 9 y) ?_ λcq ze=>?_
 ·refine Tot.count (λs=>s.2.2) 9 (λs=>0<=s.2.2/\s.2.2<=9/\(s.1.length:Int)=1+a8/\(s.2.1.length:Int)=1+a8/\∀ y∈s.1,mi s.2.2.toNat y) ⟨Int.le_refl 0,by show (0:Int)<=9; decide,cH.1,by show (a7.length:Int)=_; omega,cH.2⟩ (by show (9:Int) - 0<_; decide) λs aC=>?_;obtain ⟨l,av,i⟩:=s;obtain ⟨g0,g1,ak,Ir,cx⟩:=aC;simp only at g0 g1 ak Ir cx ⊢;have hw:aL (i+1)=i+1:=by rw [cJ]; omega
  rw [hw];refine .aB (Ξ:=λc=>c=true->i<x.dG.length/\i<9) (Tot.br (λh=>.aq λaf=>⟨h,of_decide_eq_true af⟩) (λ_=>.aq λh=>by cases h)) λc aa=>Tot.bF (λim=>?_) (λ_=>.aq ⟨ak,Ir,λy ax=>(cx y ax).mono (by omega)⟩);obtain ⟨hi,acf⟩:=aa im;have mX:i.toNat<x.dG.length:=by omega
  have t_:idx x.dG i=some x.dG[i.toNat]:=by simp [idx,g0,mX]
  rw [t_];generalize x.dG[i.toNat]=d;have Na:∀ y∈l,mi (i.toNat+1) y:=λy ax=>(cx y ax).mono (by omega);refine Tot.aB (Ξ:=λj=>(j.1.length:Int)=1+a8/\(j.2.length:Int)=1+a8/\∀ y∈j.1,mi (i.toNat+1) y) ?_ λj ah=>.aq ⟨⟨?_,?_,ah.1,ah.2.1,?_⟩,?_,?_⟩
  ·refine Tot.aV (Tot.br (λ_=>.aq ⟨ak,Ir,Na⟩) (λdq=>Tot.aV ?_));refine .aB (Tot.hj (Φ:=λ_=>True) (by decide) (by omega) λ_ _ _=>trivial) λdM _=>.aB (t24 dM (1+a8) (by omega) (by omega)) λeB MU=>?_;have n':∀ c:ByteArray,c.size<=dK->((⟨(⟨⟨#[]⟩,false,0,0⟩:Sym),c,0⟩:Part).Sym.Name.size<=dK/\(⟨(⟨⟨#[]⟩,false,0,0⟩:Sym),c,0⟩:Part).Code.size<=dK):=λc aa=>⟨by show 0<=_; exact Nat.zero_le _,aa⟩;refine Tot.aB (Ξ:=λr=>r.1.length<=10/\∀ p∈r.1,p.Sym.Name.size<=dK/\p.Code.size<=dK) ?_ λfB TG=>?_
   ·refine Tot.count (λs=>s.2.2) 5 (λs=>1<=s.2.2/\s.2.2<=5/\(s.1.length:Int)<=2 * (s.2.2 - 1)/\∀ p∈s.1,p.Sym.Name.size<=dK/\p.Code.size<=dK) ⟨Int.le_refl 1,by decide,by decide,λp au=>absurd au (by simp)⟩ (by decide) λs aC=>?_;obtain ⟨ps,pl,k⟩:=s;obtain ⟨k0,zH,W1,OC⟩:=aC;simp only at k0 zH W1 OC ⊢;have qw:aL (k+1)=k+1:=by rw [cJ]; omega
    rw [qw];refine .aB (Ξ:=λc=>c=true->k<d.length/\k<5) (Tot.aV (Tot.br (λh=>.aq λaf=>⟨h,of_decide_eq_true af⟩) (λ_=>.aq λh=>by cases h))) λc aa=>Tot.bF (λim=>?_) (λ_=>.aq ⟨by show ps.length<=10; omega,OC⟩);obtain ⟨hk,acm⟩:=aa im;refine Tot.aB (Ξ:=λj=>(j.1.length:Int)<=2 * k/\∀ p∈j.1,p.Sym.Name.size<=dK/\p.Code.size<=dK) ?_ λj ah=>.aq ⟨⟨?_,?_,?_,ah.2⟩,?_,?_⟩
    ·refine Tot.aV (.aB (Tot.hj (Φ:=λ_=>True) (by omega) hk λ_ _ _=>trivial) λkY _=>.aB (t27 kY (1+a8) (by omega) (by omega)) λcR HL=>?_);refine .aB (Ξ:=λ_=>True) (Tot.bF (λ_=>Tot.bF (λ_=>.aq trivial) (λ_=>.aq trivial)) (λ_=>.aq trivial)) λ_ _=>.aB (Ξ:=λ_=>True) (Tot.ap (by simp [lim]; omega) trivial) λ_ _=>?_;have bg:∀ p∈ps++[(⟨cR,⟨#[]⟩,0⟩:Part)],p.Sym.Name.size<=dK/\p.Code.size<=dK:=λp au=>by
      grind
     refine .aB (Ξ:=λ_=>True) ?_ λy6 _=>?_
     ·refine Tot.br (λh=>Tot.bF (λ_=>.aB (Tot.hj (Φ:=λ_=>True) g0 h λ_ _ _=>trivial) λ_ _=>.aB (Ξ:=λ_=>True) (Tot.rem (by decide) trivial) λ_ _=>.aq trivial) (λ_=>.aq trivial)) (λ_=>.aq trivial)
     ·refine Tot.aB (Ξ:=λl=>(l.length:Int)<=2 * k/\∀ p∈l,p.Sym.Name.size<=dK/\p.Code.size<=dK) ?_ λj ah=>.aq ah;refine Tot.bF (λ_=>?_) (λ_=>.aq ⟨by simp; omega,bg⟩);refine .aB (Ξ:=λ_=>True) (Tot.ap (by simp [lim]; omega) trivial) λ_ _=>.aq ⟨by simp; omega,λp au=>?_⟩;rcases List.mem_append.1 au with au | au
      ·grind
      ·rw [List.mem_singleton.1 au];exact n' _ (by decide)
    all_goals grind
   ·refine .aB (Ξ:=λ_=>True) (Tot.br (λh=>.aB (Tot.hj (Φ:=λ_=>True) g0 h λ_ _ _=>trivial) λ_ _=>.aB (Ξ:=λ_=>True) (Tot.rem (by decide) trivial) λ_ _=>.aq trivial) (λ_=>.aq trivial)) λZF _=>?_;refine Tot.aB (Ξ:=λl=>l.length<=20/\∀ p∈l,p.Sym.Name.size<=dK/\p.Code.size<=dK) ?_ λoV TN=>?_
    ·refine Tot.bF (λ_=>?_) (λ_=>.aq ⟨by omega,TG.2⟩);refine .aB (Ξ:=λ_=>True) (Tot.ap (by simp [lim]; omega) trivial) λ_ _=>.aq ⟨by simp; omega,λp au=>?_⟩;rcases List.mem_append.1 au with au | au
     ·grind
     ·rw [List.mem_singleton.1 au];exact n' _ (by decide)
    ·refine Tot.aB (Ξ:=λl=>(l.length:Int)=1+a8) ?_ λL4 TP=>?_
     ·refine .aB (Tot.hj (Φ:=λ_=>True) MU.1 (by omega) λ_ _ _=>trivial) λ_ _=>Tot.bF (λ_=>.aq (by simp; omega)) (λ_=>.aq (by simp; omega))
     ·refine .aB (Tot.hj (Φ:=λy=>y∈l) MU.1 (by omega) λ_ _ h=>h) λkB TQ=>?_;have pH:=cx kB TQ;refine .aB (Ξ:=λ_=>True) (Tot.ap (by have:=pH.n; simp [lim]; omega) trivial) λ_ _=>.aq ⟨by show ((l.set _ _).length:Int)=_; simp; omega,TP,Lw Na (pH.add ⟨by show oV.length<=_; omega,TN.2,Nat.zero_le _⟩)⟩
  all_goals grind
 refine Tot.aB (Ξ:=λl=>(l.length:Int)=1+a8/\∀ y∈l,mi 20 y) ?_ λn0 MV=>.aq ⟨Nat.zero_le _,?_,λd aS=>?_,?_,λr ao=>?_⟩
 ·refine Tot.count (λs=>s.2) (1+a8) (λs=>0<=s.2/\s.2<=1+a8/\(s.1.length:Int)=1+a8/\∀ y∈s.1,mi (9+s.2.toNat) y) ⟨Int.le_refl 0,by show 0<=1+a8; omega,ze.1,ze.2.2⟩ (by show 1+a8 - 0<_; omega) λs aC=>?_;obtain ⟨l,i⟩:=s;obtain ⟨g0,g1,ak,cx⟩:=aC;simp only at g0 g1 ak cx ⊢;have hw:aL (i+1)=i+1:=by rw [cJ]; omega
  rw [hw];refine Tot.br (λaT=>?_) (λ_=>.aq ⟨ak,λy ax=>(cx y ax).mono (by omega)⟩);refine Tot.aB (Ξ:=λl=>(l.length:Int)=1+a8/\∀ y∈l,mi (9+i.toNat+1) y) ?_ λj ah=>.aq ⟨⟨?_,?_,ah.1,?_⟩,?_,?_⟩
  ·refine .aB (Ξ:=λ_=>True) ?_ λZG _=>?_
   ·refine .aB (Tot.hj (Φ:=λ_=>True) g0 (by omega) λ_ _ _=>trivial) λwi _=>Tot.bF (λ_=>.aq trivial) (λ_=>.aB (Tot.hj (Φ:=λ_=>True) g0 (by omega) λ_ _ _=>trivial) λ_ _=>Tot.bF (λ_=>.aq trivial) (λ_=>.aq trivial))
   ·refine Tot.aB (Ξ:=λl=>(l.length:Int)=1+a8/\∀ y∈l,mi (9+i.toNat+1) y) ?_ λj ah=>.aq ah;refine Tot.bF (λ_=>?_) (λ_=>.aq ⟨ak,λy ax=>(cx y ax).mono (by omega)⟩);refine .aB (Tot.hj (Φ:=λy=>y∈l) g0 (by omega) λ_ _ h=>h) λkC Eo=>.aB (t28 i g0) λkD abP=>?_;have J:=cx kC Eo;refine .aB (Ξ:=λ_=>True) (Tot.ap (by have:=J.n; simp [lim]; omega) trivial) λ_ _=>.aq ⟨by simp; omega,Lw (λy ax=>(cx y ax).mono (by omega)) (J.add ⟨by show 1<=_; omega,λp au=>?_,Nat.zero_le _⟩)⟩;have au:p∈[(⟨kD,⟨#[]⟩,0⟩:Part)]:=au;rw [List.mem_singleton.1 au];exact ⟨by show kD.Name.size<=1000000000000; omega,Nat.zero_le _⟩
  all_goals grind
 ·grind
 ·have:=af.2 d aS;exact ⟨by rw [this.tag]; exact Nat.zero_le _,by have:=this.n; omega,this.syms⟩
 ·grind
 ·have:=MV.2 r ao;exact ⟨this.left,by have:=this.n; omega,this.alts⟩
end Go.Proofs
namespace Go.Own
open Go Go.Sort
variable {α:Type} [DecidableEq α]
structure Ord (lt:α->α->Bool):Prop where
 swo:SWO lt
 ji:∀ x y,lt x y=false->lt y x=false->x=y
def fR (lt:α->α->Bool) (l:List α):Prop:=l.Pairwise λa b=>lt a b=true
omit [DecidableEq α] in
theorem fR.nd {lt:α->α->Bool}(h:Ord lt) {l:List α}(ak:fR lt l):l.Nodup:=ak.imp λ{a b} BB e=>by
 subst e;rw [h.swo.irrefl] at BB; cases BB
omit [DecidableEq α] in
theorem fR.uniq {lt:α->α->Bool}(h:Ord lt) {l m:List α}(ak:fR lt l) (hm:fR lt m) (he:∀ x,x∈l↔x∈m):l=m :=
 List.Perm.eq_of_pairwise (le:=λa b=>lt a b=true) (λa b _ _ h1 af=>by have:=h.swo.trans _ _ _ h1 af; rw [h.swo.irrefl] at this; cases this) ak hm ((List.perm_ext_iff_of_nodup (ak.nd h) (hm.nd h)).2 he)
omit [DecidableEq α] in
theorem zO {l m:List α}(aS:l.Nodup) (hm:∀ x∈l,x∈m):l.length<=m.length:=by
 classical
 induction l generalizing m with
 | nil=>exact Nat.zero_le _
 | cons x l aU =>
  have J:=hm x (by simp);have ob:=List.nodup_cons.1 aS;have:=aU (m:=m.erase x) ob.2 λy ax=>(List.mem_erase_of_ne (λe=>ob.1 (by rw [<- e]; exact ax))).2 (hm y (by simp [ax]));have ak:=List.length_erase_of_mem J;have au:=List.length_pos_of_mem J;simp only [List.length_cons];omega
theorem YJ {lt:α->α->Bool}(h:Ord lt) {fT:α->α->Option Int}{l:List α}(aa:∀ a∈l,∀ b∈l,∃ v,fT a b=some v/\(v<0↔lt a b=true)) (aF:l.length<4611686018427387904):pX fT l=some (h_ (kx fT) l)/\∀ a∈l,∀ b∈l,kx fT a b=lt a b:=by
 have aT:∀ a∈l,∀ b∈l,kx fT a b=lt a b:=by
  intro a aP b av;obtain ⟨v,hv,h⟩:=aa a aP b av;unfold kx;simp only [hv,Option.getD_some];cases hk:lt a b with
  | true=>exact decide_eq_true (h.2 hk)
  | false=>exact decide_eq_false λbY=>by rw [h.1 bY] at hk; cases hk
 refine ⟨?_,aT⟩;unfold pX;rw [if_pos];simp only [Bool.and_eq_true,decide_eq_true_eq,List.all_eq_true];refine ⟨⟨λa aP b av=>?_,?_⟩,aF⟩
 ·obtain ⟨v,hv,_⟩:=aa a aP b av;rw [hv]; rfl
 ·unfold zU;simp only [List.all_eq_true,Bool.and_eq_true,Bool.or_eq_true,Bool.not_eq_true',decide_eq_true_eq];intro a aP;refine ⟨by rw [aT a aP a aP]; exact h.swo.irrefl a,λb av=>⟨?_,λc aa=>⟨?_,?_⟩⟩⟩
  ·rw [aT a aP b av,aT b av a aP];cases h1:lt a b with
   | true=>exact .inl (.inl rfl)
   | false =>
    cases af:lt b a with
    | true=>exact .inl (.inr rfl)
    | false=>exact .inr (h.ji _ _ h1 af)
  ·rw [aT a aP b av,aT b av c aa,aT a aP c aa];cases h1:lt a b with
   | false=>exact .inl rfl
   | true =>
    cases af:lt b c with
    | false=>exact .inl rfl
    | true=>exact .inr (h.swo.trans _ _ _ h1 af)
  ·rw [aT a aP b av,aT b av c aa,aT a aP c aa];cases h1:lt a b with
   | true=>exact .inl (.inl rfl)
   | false =>
    cases af:lt b c with
    | true=>exact .inl (.inr rfl)
    | false=>exact .inr (h.swo.ntrans _ _ _ h1 af)
omit [DecidableEq α] in
theorem Ch {lt lt':α->α->Bool}(x:α):∀ l:List α,(∀ y∈l,lt y x=lt' y x)->ins lt x l=ins lt' x l
 | [],_=>rfl
 | y::l,h=>by
  simp only [ins,h y (by simp)];rw [Ch x l λz aY=>h z (by simp [aY])]
omit [DecidableEq α] in
theorem Cj {lt lt':α->α->Bool}:∀ l:List α,(∀ a∈l,∀ b∈l,lt a b=lt' a b)->h_ lt l=h_ lt' l
 | [],_=>rfl
 | x::l,h=>by
  simp only [h_];rw [Cj l λa aP b av=>h a (by simp [aP]) b (by simp [av])];exact Ch x _ λy ax=>h y (by simp [(sX lt' l).mem_iff.1 ax]) x (by simp)
theorem YI {lt:α->α->Bool}(h:Ord lt) {fT:α->α->Option Int}{l:List α}(aa:∀ a∈l,∀ b∈l,∃ v,fT a b=some v/\(v<0↔lt a b=true)) (aF:l.length<4611686018427387904):pX fT l=some (h_ lt l):=by
 obtain ⟨h1,af⟩:=YJ h aa aF;rw [h1,Cj l af]
end Go.Own
namespace Go.Proofs
open Go Go.Own Go.Sort
set_option maxRecDepth 100000
set_option linter.unusedVariables false
def gX (a b:Item):Bool:=decide (a.Prod<b.Prod\/(a.Prod=b.Prod/\a.fe<b.fe))
theorem JI {a b:Item}:gX a b=true↔(a.Prod<b.Prod\/(a.Prod=b.Prod/\a.fe<b.fe)):=by simp [gX]
theorem Cx {a b:Item}:gX a b=false↔¬ (a.Prod<b.Prod\/(a.Prod=b.Prod/\a.fe<b.fe)):=by simp [gX]
theorem vI:Ord gX where
 swo:=⟨λx=>by rw [Cx]; omega,λx y z h1 af=>by rw [JI] at *; omega,λx y z h1 af=>by rw [Cx] at *; omega⟩
 ji x y h1 af:=by
  rw [Cx] at h1 af;obtain ⟨a8,x2⟩:=x;obtain ⟨bx,y2⟩:=y;simp only at h1 af;have:a8=bx:=by omega
  have:x2=y2:=by omega
  subst_vars; rfl
def jf (g:bO) (x:Item):Prop:=∃ q,idx g.bj x.Prod=some q/\0<=x.fe/\x.fe<=q.eI.length
def hR (g:bO) (x:Item):Int:=match idx g.bj x.Prod with
 | some q=>(idx q.eI x.fe).getD (-1)
 | none=>-1
theorem nb {α:Type}{l:List α}{i:Int}{y:α}(h:idx l i=some y):0<=i/\i<l.length/\y∈l:=by
 unfold idx at h
 split at h
 ·rename_i aR;obtain ⟨h1,af⟩:=List.getElem?_eq_some_iff.1 h;exact ⟨aR,by omega,List.mem_of_getElem? h⟩
 ·cases h
theorem Jl {α:Type}{l:List α}{i:Int}(h:i<0\/(l.length:Int)<=i):idx l i=none:=by
 unfold idx;split
 ·exact List.getElem?_eq_none (by omega)
 ·rfl
theorem oo {α:Type}{l:List α}{i:Int}(aR:0<=i) (h1:i<l.length):∃ y,idx l i=some y/\y∈l:=by
 have aT:i.toNat<l.length:=by omega
 exact ⟨l[i.toNat],by simp [idx,aR,aT],List.getElem_mem aT⟩
theorem eu {α:Type}{l:List α}{k:Nat}(h:k<l.length):idx l (k:Int)=some l[k]:=by simp [idx,h]
theorem Ml (g:bO) (x:Item):∃ c,zX g x=some c/\(c=true↔jf g x):=by
 unfold zX;by_cases aR:0<=x.Prod
 ·by_cases h1:x.Prod<g.bj.length
  ·obtain ⟨q,bg,_⟩:=oo aR h1;by_cases af:0<=x.fe
   ·refine ⟨decide (x.fe<=(q.eI.length:Int)),by simp [aR,h1,af,bg],?_⟩;rw [decide_eq_true_eq];exact ⟨λh=>⟨q,bg,af,h⟩,λ⟨fQ,zt,_,h⟩=>by rw [bg] at zt; cases zt; exact h⟩
   ·exact ⟨false,by simp [aR,h1,af],λh=>(by cases h),λ⟨_,_,h,_⟩=>absurd h af⟩
  ·exact ⟨false,by simp [aR,h1],λh=>(by cases h),λ⟨_,h,_⟩=>absurd (nb h).2.1 h1⟩
 ·exact ⟨false,by simp [aR],λh=>(by cases h),λ⟨_,h,_⟩=>absurd (nb h).1 aR⟩
theorem Hp (g:bO) (x:Item):x7 g x=some (hR g x):=by
 unfold x7 hR;obtain ⟨c,aa,hi⟩:=Ml g x;rw [aa];simp only [Option.bind_some];cases c with
 | false =>
  have aF:¬ jf g x:=λh=>by have:=hi.2 h; cases this
  simp only [Bool.not_false,cond_true,Option.bind_some];cases bg:idx g.bj x.Prod with
  | none=>rfl
  | some q =>
   have:idx q.eI x.fe=none:=Jl (by
    by_cases aR:0<=x.fe
    ·right;by_cases h1:x.fe<=q.eI.length
     ·exact absurd ⟨q,bg,aR,h1⟩ aF
     ·omega
    ·left; omega)
   simp [this]
 | true =>
  obtain ⟨q,bg,aR,h1⟩:=hi.1 rfl;simp only [Bool.not_true,cond_false,bg,Option.bind_some];by_cases he:x.fe=q.eI.length
  ·rw [Jl (.inr (by omega))];simp [he]
  ·obtain ⟨s,aC,_⟩:=oo (l:=q.eI) (i:=x.fe) aR (by omega);simp [he,aC]
theorem O0 {g:bO}(aO:hf g) {x:Item}(h:0<=hR g x):jf g x/\q2 g.ba.length (g.b3.length - 1) (hR g x)/\∃ q,idx g.bj x.Prod=some q/\idx q.eI x.fe=some (hR g x):=by
 cases bg:idx g.bj x.Prod with
 | none =>
  have:hR g x=-1:=by unfold hR; rw [bg]
  rw [this] at h; exact absurd h (by decide)
 | some q =>
  cases aC:idx q.eI x.fe with
  | none =>
   have:hR g x=-1:=by unfold hR; rw [bg]; simp [aC]
   rw [this] at h; exact absurd h (by decide)
  | some s =>
   have e:hR g x=s:=by unfold hR; rw [bg]; simp [aC]
   rw [e];obtain ⟨aR,h1,hm⟩:=nb aC;exact ⟨⟨q,bg,aR,by omega⟩,(aO.hq q (nb bg).2.2).right s hm,q,rfl,aC⟩
inductive n2 (g:bO) (l:List Item):Item->Prop
 | base {x:Item}(h:x∈l) (hi:jf g x):n2 g l x
 | step {x:Item}{q:Prod}{p:Nat}(h:n2 g l x) (au:g.bj[p]?=some q) (aF:hR g x=1000+q.Left) (aR:1000<=hR g x):n2 g l ⟨p,0⟩
theorem Oy {g:bO}{p:Nat}{q:Prod}(au:g.bj[p]?=some q):jf g ⟨p,0⟩:=⟨q,by simp [idx,au],Int.le_refl _,by show (0:Int)<=_; omega⟩
theorem n2.jf {g:bO}{l:List Item}{x:Item}(h:n2 g l x):jf g x:=by
 cases h with
 | base _ hi=>exact hi
 | step _ au _ _=>exact Oy au
theorem Xg {g:bO}(aO:hf g) (x:Item):-1<=hR g x/\hR g x<=1023:=by
 by_cases h:0<=hR g x
 ·obtain ⟨_,aC,_⟩:=O0 aO h;have:=aO.dz;have:=aO.kW;rcases aC with aC | aC <;> omega
 ·refine ⟨?_,by omega⟩;revert h;unfold hR;cases bg:idx g.bj x.Prod with
  | none=>intro _; exact Int.le_refl _
  | some q =>
   cases aC:idx q.eI x.fe with
   | none=>intro _; simp [aC]
   | some s =>
    intro h;have hm:=(aO.hq q (nb bg).2.2).right s (nb aC).2.2;simp only [aC,Option.getD_some] at h ⊢;rcases hm with hm | hm <;> omega
def hn (m:List Bool):Nat:=(m.filter λb=>b).length
theorem wO:∀ (m:List Bool) (i:Nat),i<m.length->m.getD i false=false->hn (m.set i true)=hn m+1
 | [],i,h,_=>by simp at h
 | b::m,0,_,h=>by
  have:b=false:=by simpa using h
  subst this;simp [hn]
 | b::m,i+1,h,aR=>by
  have:=wO m i (by simpa using h) (by simpa using aR);unfold hn at this ⊢;simp only [List.set_cons_succ,List.filter_cons];cases b <;> simp [this]
theorem Sr (m:List Bool):hn m<=m.length:=List.length_filter_le _ _
theorem lW {α:Type}{r:List α}{k:Nat}(h:k<r.length):r.take (k+1)=r.take k++[r[k]]:=by
 simp_all
theorem Gc (k:Nat) (h:k<=1000000000000):aL ((k:Int)+1)=((k+1:Nat):Int):=by
 grind [cJ]
def allI (g:bO):List Item:=(List.range g.bj.length).flatMap λp=>(List.range 9).map λd=>(⟨(p:Nat),(d:Nat)⟩:Item)
theorem Rp (g:bO):(allI g).length=g.bj.length * 9:=by
 have:∀ l:List Nat,(l.map λ_=>9).sum=l.length * 9:=λl=>by
  induction l with
  | nil=>rfl
  | cons a l aU=>simp only [List.map_cons,List.sum_cons,aU,List.length_cons]; omega
 simp [allI,List.length_flatMap,this]
theorem W6 {g:bO}(aO:hf g) {x:Item}(h:jf g x):x∈allI g:=by
 obtain ⟨q,bg,aR,h1⟩:=h;obtain ⟨af,aI,bK⟩:=nb bg;have:=aO.aH q bK;refine List.mem_flatMap.2 ⟨x.Prod.toNat,by simp; omega,List.mem_map.2 ⟨x.fe.toNat,by simp; omega,?_⟩⟩;obtain ⟨a,b⟩:=x;simp only at aR af ⊢;congr 1 <;> omega
theorem tx {g:bO}(aO:hf g) {l:List Item}(ak:fR gX l) (hi:∀ x∈l,jf g x):l.length<=540:=by
 have:=zO (ak.nd vI) λx J=>W6 aO (hi x J);rw [Rp] at this;have:=aO.h';omega
theorem RC {l:List Item}(ak:fR gX l) {i j:Nat}(hi:i<l.length) (ah:j<l.length) (h:i<j):gX l[i] l[j]=true:=List.pairwise_iff_getElem.1 ak i j hi ah h
theorem G7 (l:List Item) (x:Item) (ak:fR gX l) (aF:l.length<=100000):Tot (xS l x) λr=>fR gX r/\(∀ y,y∈r↔y∈l\/y=x):=by
 unfold xS;refine .aB (Ξ:=λz:Int=>∃ k:Nat,z=(k:Int)/\k<=l.length/\(∀ (i:Nat) (h:i<l.length),k<=i->gX x l[i]=true)/\∀ (h:0<k),gX x (l[k - 1]?.getD default)=false) ?_ λz aY=>?_
 ·refine Tot.count (λs=>-s) 1 (λs=>∃ k:Nat,s=(k:Int)/\k<=l.length/\∀ (i:Nat) (h:i<l.length),k<=i->gX x l[i]=true) ⟨l.length,rfl,Nat.le_refl _,λi h hk=>by omega⟩ (by show 1 - -(l.length:Int)<_; omega) λs aC=>?_;obtain ⟨k,rfl,hk,ug⟩:=aC;refine .aB (Ξ:=λc:Bool=>(c=true->0<k/\gX x (l[k - 1]?.getD default)=true)/\(c=false->∀ (h:0<k),gX x (l[k - 1]?.getD default)=false)) ?_ λc aa=>Tot.bF (λh=>?_) (λh=>.aq ⟨k,rfl,hk,ug,aa.2 h⟩)
  ·refine Tot.br (λh=>?_) (λh=>.aq ⟨λaQ=>(by cases aQ),λ_ aQ=>by omega⟩);have hb:k - 1<l.length:=by omega
   have hw:aL ((k:Int) - 1)=((k - 1:Nat):Int):=by rw [cJ]; omega
   rw [hw,eu hb,List.getElem?_eq_getElem hb];simp only [Option.bind_some,Option.getD_some];generalize l[k - 1]=y;refine Tot.br (λh1=>.aq ⟨λ_=>⟨by omega,JI.2 (.inl h1)⟩,λaQ=>(by cases aQ)⟩) (λh1=>Tot.br (λaf=>.aq ⟨λaI=>⟨by omega,JI.2 (.inr ⟨af.symm,of_decide_eq_true aI⟩)⟩,λaI _=>?_⟩) (λaf=>.aq ⟨λaQ=>(by cases aQ),λ_ _=>?_⟩))
   ·have:=of_decide_eq_false aI;rw [Cx]; omega
   ·rw [Cx]; omega
  ·obtain ⟨aR,h1⟩:=aa.1 h;refine .aq ⟨⟨k - 1,by rw [cJ]; omega,by omega,λi hi Vq=>?_⟩,by show -(k:Int) < -aL _; rw [cJ]; omega,by show -aL _<=1; rw [cJ]; omega⟩;by_cases e:i=k - 1
   ·subst e;rw [List.getElem?_eq_getElem hi] at h1;exact h1
   ·exact ug i hi (by omega)
 ·obtain ⟨k,rfl,hk,ug,l7⟩:=aY;refine .aB (Ξ:=λc:Bool=>(c=true↔(0<k/\l[k - 1]?.getD default=x))) ?_ λc aa=>Tot.bF (λh=>?_) (λh=>?_)
  ·refine Tot.br (λh=>?_) (λh=>.aq ⟨λaQ=>(by cases aQ),λaQ=>by omega⟩);have hb:k - 1<l.length:=by omega
   have hw:aL ((k:Int) - 1)=((k - 1:Nat):Int):=by rw [cJ]; omega
   rw [hw,eu hb,List.getElem?_eq_getElem hb];simp only [Option.bind_some,Option.getD_some];generalize l[k - 1]=y;refine .aq ?_;obtain ⟨bx,y2⟩:=y;obtain ⟨a8,x2⟩:=x;simp only [Bool.and_true,Bool.and_eq_true,decide_eq_true_eq,Item.mk.injEq];exact ⟨λaQ=>⟨by omega,aQ⟩,λaQ=>aQ.2⟩
  ·obtain ⟨aR,h1⟩:=aa.1 h;have hb:k - 1<l.length:=by omega
   rw [List.getElem?_eq_getElem hb] at h1;have J:x∈l:=by rw [<- h1]; exact List.getElem_mem hb
   exact .aq ⟨ak,λy=>⟨.inl,λh=>h.elim id λe=>e ▸ J⟩⟩
  ·have dq:∀ (i:Nat) (hi:i<l.length),i<k->gX l[i] x=true:=by
    intro i hi Iu;have hb:k - 1<l.length:=by omega
    have l7:=l7 (by omega);have aF:l[k - 1]?.getD default≠x:=λe=>by rw [aa.2 ⟨by omega,e⟩] at h; cases h
    rw [List.getElem?_eq_getElem hb] at l7 aF;simp only [Option.getD_some] at l7 aF;have fW:gX l[k - 1] x=true:=by
     cases bY:gX l[k - 1] x with
     | true=>rfl
     | false=>exact absurd (vI.ji _ _ bY l7) aF
    by_cases e:i=k - 1
    ·subst e; exact fW
    ·exact vI.swo.trans _ _ _ (RC ak hi hb (by omega)) fW
   refine .aB (Ξ:=λz=>z=l.take k) (Tot.sub ⟨by omega,by omega,by omega⟩ (by simp)) λz aY=>?_;subst aY;refine .aB (Ξ:=λ_=>True) (Tot.ap (by simp [lim]; omega) trivial) λ_ _=>.aB (Ξ:=λ_=>True) (Tot.ap (by simp [lim]; omega) trivial) λ_ _=>?_;refine .aB (Ξ:=λz=>z=l.drop k) (Tot.sub ⟨by omega,by omega,by omega⟩ ?_) λz aY=>?_
   ·rw [List.take_of_length_le]
    ·congr 1
    ·rw [List.length_drop]; omega
   subst aY;refine .aB (Ξ:=λ_=>True) (Tot.ap (by simp [lim]; omega) trivial) λ_ _=>.aq ?_;rw [List.nil_append];constructor
   ·have h1:∀ a∈l.take k,gX a x=true:=by
     intro a aP;obtain ⟨i,hi,rfl⟩:=List.mem_iff_getElem.1 aP;rw [List.length_take] at hi;rw [List.getElem_take];exact dq i (by omega) (by omega)
    have af:∀ a∈l.drop k,gX x a=true:=by
     intro a aP;obtain ⟨i,hi,rfl⟩:=List.mem_iff_getElem.1 aP;rw [List.length_drop] at hi;rw [List.getElem_drop];exact ug (k+i) (by omega) (by omega)
    unfold fR;rw [List.append_assoc,List.pairwise_append];refine ⟨List.Pairwise.sublist (List.take_sublist k l) ak,?_,λa aP b av=>?_⟩
    ·rw [List.singleton_append,List.pairwise_cons];exact ⟨af,List.Pairwise.sublist (List.drop_sublist k l) ak⟩
    ·rcases List.mem_append.1 av with av | av
     ·rw [List.mem_singleton.1 av]; exact h1 a aP
     ·exact vI.swo.trans _ _ _ (h1 a aP) (af b av)
   ·intro y;rw [List.append_assoc,List.mem_append,List.mem_append,List.mem_singleton];have hm:y∈l↔y∈l.take k\/y∈l.drop k:=by
     rw [<- List.mem_append,List.take_append_drop]
    rw [hm];constructor
    ·rintro (h | h | h)
     ·exact .inl (.inl h)
     ·exact .inr h
     ·exact .inl (.inr h)
    ·rintro ((h | h) | h)
     ·exact .inl h
     ·exact .inr (.inr h)
     ·exact .inr (.inl h)
theorem RX (g:bO) (aO:hf g) (l:List Item) (ak:l.length<=1000000):Tot (CL g l) λr=>fR gX r/\∀ x,x∈r↔x∈l/\jf g x:=by
 unfold CL;refine .aB (Ξ:=λr=>fR gX r/\∀ x,x∈r↔x∈l/\jf g x) ?_ λr ao=>.aq ao;refine Tot.count (λs=>s.2) l.length (λs=>∃ k:Nat,k<=l.length/\s.2=(k:Int)/\fR gX s.1/\∀ x,x∈s.1↔x∈l.take k/\jf g x) ⟨0,Nat.zero_le _,rfl,List.Pairwise.nil,λx=>by simp⟩ (by show (l.length:Int) - 0<_; omega) λs aC=>?_;obtain ⟨out,kT⟩:=s;obtain ⟨k,hk,rfl,aP,hm⟩:=aC;simp only at aP hm ⊢;rw [Gc k (by omega)];refine Tot.br (λaT=>?_) (λdU=>.aq ?_)
 ·have aT:k<l.length:=by omega
  rw [eu aT];refine .aB (Ξ:=λo:List Item=>fR gX o/\∀ x,x∈o↔x∈l.take (k+1)/\jf g x) ?_ λo a1=>.aq ⟨⟨k+1,by omega,rfl,a1⟩,by show (k:Int)<((k+1:Nat):Int); omega,by show ((k+1:Nat):Int)<=_; omega⟩;obtain ⟨c,aa,hi⟩:=Ml g l[k];rw [lW aT];refine Tot.aV ?_;rw [aa];refine Tot.aV (.aB (Ξ:=λo:List Item=>fR gX o/\∀ x,x∈o↔x∈l.take k++[l[k]]/\jf g x) (Tot.bF (λh=>?_) (λh=>.aq ⟨aP,λx=>?_⟩)) λo a1=>.aq a1)
  ·have zs:=tx aO aP λx J=>((hm x).1 J).2;refine Tot.aV (.aB (G7 out _ aP (by omega)) λo a1=>.aq ⟨a1.1,λx=>?_⟩);rw [a1.2 x,List.mem_append,List.mem_singleton,hm x];constructor
   ·rintro (⟨h1,af⟩ | rfl)
    ·exact ⟨.inl h1,af⟩
    ·exact ⟨.inr rfl,hi.1 h⟩
   ·rintro ⟨h1 | rfl,af⟩
    ·exact .inl ⟨h1,af⟩
    ·exact .inr rfl
  ·rw [List.mem_append,List.mem_singleton,hm x];constructor
   ·rintro ⟨h1,af⟩;exact ⟨.inl h1,af⟩
   ·rintro ⟨h1 | rfl,af⟩
    ·exact ⟨h1,af⟩
    ·rw [hi.2 af] at h; cases h
 ·have:k=l.length:=by omega
  subst this;rw [List.take_length] at hm;exact ⟨aP,hm⟩
def wo (g:bO) (out:List Item) (x:Item):Prop:=1000<=hR g x->∀ (p:Nat) (q:Prod),g.bj[p]?=some q->q.Left=hR g x - 1000->(⟨p,0⟩:Item)∈out
theorem Hg (g:bO) (aO:hf g) (l:List Item) (ak:l.length<=1000000):Tot (x6 g l) λr=>fR gX r/\∀ x,x∈r↔n2 g l x:=by
 have ue:=aO.h';unfold x6;refine .aB (RX g aO l ak) λa8 h1=>.aB (Ξ:=λr=>fR gX r/\∀ x,x∈r↔n2 g l x) ?_ λr ao=>.aq ao;obtain ⟨Uy,zr⟩:=h1;refine Tot.loop (λs=>fR gX s.1/\(∀ x∈s.1,n2 g l x)/\(∀ x∈l,jf g x->x∈s.1)/\(s.2=(s.1.length:Int)->∀ x∈s.1,wo g s.1 x)) (λs=>2 * (1000 - s.1.length)+(if s.2=(s.1.length:Int) then 0 else 1)) ⟨Uy,λx J=>.base ((zr x).1 J).1 ((zr x).1 J).2,λx J hi=>(zr x).2 ⟨J,hi⟩,λh=>by have h:(-1:Int)=_:=h; omega⟩ (by
  show 2 * (1000 - a8.length)+(if (-1:Int)=_ then 0 else 1)<1000000000000000000
  split <;> omega) λs aC=>?_
 obtain ⟨out,n⟩:=s;obtain ⟨aP,gI,vc,ha⟩:=aC;simp only at aP gI vc ha ⊢;have zs:=tx aO aP λx J=>(gI x J).jf;refine Tot.qg (λdq=>?_) (λhe=>.aq ⟨aP,λx=>⟨gI x,λJ=>?_⟩⟩)
 ·refine .aB (Ξ:=λj:List Item × Int=>j.2=(out.length:Int)/\fR gX j.1/\(∀ x∈j.1,n2 g l x)/\(∀ x∈out,x∈j.1)/\(j.1.length=out.length->∀ x∈j.1,wo g j.1 x)) ?_ λj ah=>?_
  ·refine .aB (Ξ:=λr:List Item=>fR gX r/\(∀ x∈r,n2 g l x)/\(∀ x∈out,x∈r)/\(r.length=out.length->∀ x∈r,wo g r x)) ?_ λr ao=>.aq ⟨rfl,ao⟩;refine .aB (Ξ:=λr:List Item=>fR gX r/\(∀ x∈r,n2 g l x)/\(∀ x∈out,x∈r)/\(r.length=out.length->∀ x∈r,wo g r x)) ?_ λr ao=>.aq ao;refine Tot.count (λs=>s.2) out.length (λs=>∃ k:Nat,k<=out.length/\s.2=(k:Int)/\s.1=out/\∀ (j:Nat) (h:j<out.length),j<k->wo g out out[j]) ⟨0,Nat.zero_le _,rfl,rfl,λj _ ah=>absurd ah (Nat.not_lt_zero _)⟩ (by show (out.length:Int) - 0<_; omega) λs aC=>?_;obtain ⟨cur,kT⟩:=s;obtain ⟨k,hk,rfl,rfl,Nx⟩:=aC;simp only;rw [Gc k (by omega)];refine Tot.br (λaT=>?_) (λdU=>.aq ⟨aP,gI,λ_ h=>h,λ_ x J=>?_⟩)
   ·have aT:k<cur.length:=by omega
    rw [eu aT];have zE:=gI _ (List.getElem_mem aT);have ES:∀ P:Item->Prop,P cur[k]->∀ (j:Nat) (h:j<cur.length),j=k->P cur[j]:=λP cx j h e=>by subst e; exact cx
    generalize J:cur[k]=x at *;have acy:=Xg aO x;have hw:aL (hR g x - 1000)=hR g x - 1000:=by rw [cJ]; omega
    simp only [Option.bind_some,Hp g x,hw];refine (.aB (Ξ:=λr:List Item=>fR gX r/\(∀ x∈r,n2 g l x)/\(∀ x∈cur,x∈r)/\wo g r x) ?_ λr ao=>?_)
    ·refine Tot.count (λs=>s.2) g.bj.length (λs=>∃ i:Nat,i<=g.bj.length/\s.2=(i:Int)/\fR gX s.1/\(∀ x∈s.1,n2 g l x)/\(∀ x∈cur,x∈s.1)/\∀ (p:Nat) (q:Prod),p<i->g.bj[p]?=some q->q.Left=hR g x - 1000->(⟨p,0⟩:Item)∈s.1) ⟨0,Nat.zero_le _,rfl,aP,gI,λ_ h=>h,λp q au=>absurd au (Nat.not_lt_zero _)⟩ (by show (g.bj.length:Int) - 0<_; omega) λs aC=>?_;obtain ⟨o,sf⟩:=s;obtain ⟨i,hi,rfl,r7,BX,EH,vm⟩:=aC;simp only at r7 BX EH vm ⊢;rw [Gc i (by omega)];refine .aB (Ξ:=λc:Bool=>(c=true->i<g.bj.length/\1000<=hR g x)/\(c=false->g.bj.length<=i\/hR g x<1000)) (Tot.br (λh=>.aq ⟨λaQ=>⟨by omega,of_decide_eq_true aQ⟩,λaQ=>.inr (by have:=of_decide_eq_false aQ; omega)⟩) (λh=>.aq ⟨λaQ=>(by cases aQ),λ_=>.inl (by omega)⟩)) λc aa=>Tot.bF (λh=>?_) (λh=>.aq ⟨r7,BX,EH,λaR p q au=>?_⟩)
     ·obtain ⟨IE,aR⟩:=aa.1 h;have NZ:g.bj[i]?=some g.bj[i]:=List.getElem?_eq_getElem IE;rw [eu IE];refine .aB (Ξ:=λo:List Item=>fR gX o/\(∀ x∈o,n2 g l x)/\(∀ x∈cur,x∈o)/\∀ (p:Nat) (q:Prod),p<i+1->g.bj[p]?=some q->q.Left=hR g x - 1000->(⟨p,0⟩:Item)∈o) ?_ λo a1=>.aq ⟨⟨i+1,by omega,rfl,a1⟩,by show (i:Int)<((i+1:Nat):Int); omega,by show ((i+1:Nat):Int)<=_; omega⟩;refine Tot.aV (.aB (Ξ:=λo:List Item=>fR gX o/\(∀ x∈o,n2 g l x)/\(∀ x∈cur,x∈o)/\∀ (p:Nat) (q:Prod),p<i+1->g.bj[p]?=some q->q.Left=hR g x - 1000->(⟨p,0⟩:Item)∈o) (Tot.br (λh=>?_) (λh=>.aq ⟨r7,BX,EH,λp q au B2 bg=>?_⟩)) λo a1=>.aq a1)
      ·have acv:=tx aO r7 λx J=>(BX x J).jf;refine .aB (G7 o ⟨(i:Nat),0⟩ r7 (by omega)) λr ao=>.aq ⟨ao.1,λy ax=>?_,λy ax=>(ao.2 y).2 (.inl (EH y ax)),λp q au B2 bg=>?_⟩
       ·rcases (ao.2 y).1 ax with ax | rfl
        ·exact BX y ax
        ·exact .step zE NZ (by omega) aR
       ·by_cases cz:p=i
        ·subst cz; exact (ao.2 _).2 (.inr rfl)
        ·exact (ao.2 _).2 (.inl (vm p q (by omega) B2 bg))
      ·by_cases cz:p=i
       ·subst cz;rw [NZ] at B2; cases B2;exact absurd bg h
       ·exact vm p q (by omega) B2 bg
     ·rcases aa.2 h with h1 | h1
      ·exact vm p q (by have:=(List.getElem?_eq_some_iff.1 au).1; omega) au
      ·omega
    ·obtain ⟨sR,VM,l9,VS⟩:=ao;have hle:cur.length<=r.length:=zO (aP.nd vI) l9;refine Tot.qg (λIK=>.aq ⟨sR,VM,l9,λe=>absurd (by omega) IK⟩) (λheq=>?_);have l8:r.length=cur.length:=by omega
     have VT:r=cur:=by
      have nI:∀ y,y∈cur↔y∈r:=by
       intro y;refine ⟨l9 y,λax=>Classical.byContradiction λaF=>?_⟩;have:=zO (l:=y::cur) (m:=r) (List.nodup_cons.2 ⟨aF,aP.nd vI⟩) λz aY=>by
        rcases List.mem_cons.1 aY with rfl | aY
        ·exact ax
        ·exact l9 z aY
       simp at this;omega
      exact (fR.uniq vI aP sR nI).symm
     subst VT;refine .aq ⟨⟨k+1,by omega,rfl,rfl,λj ah gV=>?_⟩,by show (k:Int)<((k+1:Nat):Int); omega,by show ((k+1:Nat):Int)<=_; omega⟩;by_cases cz:j=k
     ·exact ES (wo g r) VS j ah cz
     ·exact Nx j ah (by omega)
   ·obtain ⟨j,ah,rfl⟩:=List.mem_iff_getElem.1 J;exact Nx j ah (by omega)
  ·obtain ⟨h1,af,aI,bK,cH⟩:=ah;have hle:out.length<=j.1.length:=zO (aP.nd vI) bK;have eZ:=tx aO af λx J=>(aI x J).jf;refine .aq ⟨⟨af,aI,λx J hi=>bK x (vc x J hi),λe=>cH (by show j.1.length=_; have e:j.2=(j.1.length:Int):=e; omega)⟩,?_⟩;show 2 * (1000 - j.1.length)+(if j.2=(j.1.length:Int) then 0 else 1)<2 * (1000 - out.length)+(if n=(out.length:Int) then 0 else 1)
   rw [if_neg dq];split
   ·omega
   ·have:j.1.length≠out.length:=λe=>by omega
    omega
 ·have aa:=ha he
  induction J with
  | base h hi=>exact vc _ h hi
  | @step x q p h au aF aR aU=>exact aa x aU aR p q au (by omega)
def DU (g:bO) (l:List Item) (a:Int) (y:Item):Prop:=∃ x,n2 g l x/\hR g x=a/\0<=a/\y=⟨x.Prod,x.fe+1⟩
theorem Ox {g:bO}(aO:hf g) {x:Item}(h:0<=hR g x):jf g ⟨x.Prod,x.fe+1⟩:=by
 obtain ⟨_,_,q,bg,aC⟩:=O0 aO h;obtain ⟨aR,h1,_⟩:=nb aC;exact ⟨q,bg,by show 0<=x.fe+1; omega,by show x.fe+1<=_; omega⟩
theorem WX {g:bO}(aO:hf g) {x:Item}(h:jf g x):0<=x.fe/\x.fe<=8:=by
 obtain ⟨q,bg,aR,h1⟩:=h;have:=aO.aH q (nb bg).2.2;omega
theorem DU.jf {g:bO}(aO:hf g) {l:List Item}{a:Int}{y:Item}(h:DU g l a y):jf g y:=by
 obtain ⟨x,_,h1,af,rfl⟩:=h;exact Ox aO (by omega)
theorem Se (g:bO) (aO:hf g) (l:List Item) (a:Int) (ak:l.length<=1000000):Tot (C6 g l a) λr=>fR gX r/\∀ y,y∈r↔DU g l a y:=by
 unfold C6;refine .aB (Hg g aO l ak) λc aa=>.aB (Ξ:=λr=>fR gX r/\∀ y,y∈r↔DU g l a y) ?_ λr ao=>.aq ao;have ha:=tx aO aa.1 λx J=>((aa.2 x).1 J).jf;refine Tot.count (λs=>s.2) c.length (λs=>∃ k:Nat,k<=c.length/\s.2=(k:Int)/\fR gX s.1/\∀ y,y∈s.1↔∃ x∈c.take k,hR g x=a/\0<=a/\y=⟨x.Prod,x.fe+1⟩) ⟨0,Nat.zero_le _,rfl,List.Pairwise.nil,λy=>by simp⟩ (by show (c.length:Int) - 0<_; omega) λs aC=>?_;obtain ⟨o,kT⟩:=s;obtain ⟨k,hk,rfl,r7,BY⟩:=aC;simp only at r7 BY ⊢;rw [Gc k (by omega)];refine Tot.br (λaT=>?_) (λdU=>.aq ⟨r7,λy=>?_⟩)
 ·have aT:k<c.length:=by omega
  have WD:=((aa.2 _).1 (List.getElem_mem aT)).jf;have gm:c.take (k+1)=c.take k++[c[k]]:=lW aT;rw [eu aT];generalize c[k]=x at *;have aS:=WX aO WD;have hw:aL (x.fe+1)=x.fe+1:=by rw [cJ]; omega
  refine .aB (Ξ:=λo:List Item=>fR gX o/\∀ y,y∈o↔∃ x∈c.take (k+1),hR g x=a/\0<=a/\y=⟨x.Prod,x.fe+1⟩) ?_ λo a1=>.aq ⟨⟨k+1,by omega,rfl,a1⟩,by show (k:Int)<((k+1:Nat):Int); omega,by show ((k+1:Nat):Int)<=_; omega⟩;have nI:∀ y,(∃ z∈c.take (k+1),hR g z=a/\0<=a/\y=(⟨z.Prod,z.fe+1⟩:Item))↔(y∈o\/(hR g x=a/\0<=a/\y=⟨x.Prod,x.fe+1⟩)):=by
   intro y;rw [BY y,gm];constructor
   ·rintro ⟨z,aY,h⟩;rcases List.mem_append.1 aY with aY | aY
    ·exact .inl ⟨z,aY,h⟩
    ·rw [List.mem_singleton.1 aY] at h; exact .inr h
   ·rintro (⟨z,aY,h⟩ | h)
    ·exact ⟨z,by simp [aY],h⟩
    ·exact ⟨x,by simp,h⟩
  simp only [Option.bind_some,Hp g x,hw];refine (.aB (Ξ:=λb:Bool=>b=decide (0<=hR g x/\hR g x=a)) (Tot.br (λh=>.aq (by simp [h])) (λh=>.aq (by simp [h]))) λb av=>?_);subst av;refine .aB (Ξ:=λo:List Item=>fR gX o/\∀ y,y∈o↔∃ x∈c.take (k+1),hR g x=a/\0<=a/\y=⟨x.Prod,x.fe+1⟩) (Tot.br (λh=>?_) (λh=>.aq ⟨r7,λy=>?_⟩)) λo a1=>.aq a1
  ·have zs:=tx aO r7 λy ax=>by
    obtain ⟨z,_,h1,af,rfl⟩:=(BY y).1 ax;exact Ox aO (by omega)
   refine (.aB (G7 o _ r7 (by omega)) λr ao=>.aq ⟨ao.1,λy=>?_⟩);rw [ao.2 y,nI y];constructor
   ·rintro (h1 | h1)
    ·exact .inl h1
    ·exact .inr ⟨h.2,by omega,h1⟩
   ·rintro (h1 | h1)
    ·exact .inl h1
    ·exact .inr h1.2.2
  ·rw [nI y];exact ⟨.inl,λaQ=>aQ.elim id λaQ=>absurd ⟨by omega,aQ.1⟩ h⟩
 ·have:k=c.length:=by omega
  subst this;rw [List.take_length] at BY;rw [BY y];constructor
  ·rintro ⟨x,J,h⟩;exact ⟨x,(aa.2 x).1 J,h⟩
  ·rintro ⟨x,J,h⟩;exact ⟨x,(aa.2 x).2 J,h⟩
def iS (a b:Int):Bool:=decide (a<b)
theorem OM {a b:Int}:iS a b=true↔a<b:=by simp [iS]
theorem JN {a b:Int}:iS a b=false↔¬ a<b:=by simp [iS]
theorem Fv:Ord iS where
 swo:=⟨λx=>by rw [JN]; omega,λx y z h1 af=>by rw [OM] at *; omega,λx y z h1 af=>by rw [JN] at *; omega⟩
 ji:=λx y h1 af=>by rw [JN] at *; omega
theorem LJ {l:List Int}(ak:fR iS l) {i j:Nat}(hi:i<l.length) (ah:j<l.length) (h:i<j):iS l[i] l[j]=true:=List.pairwise_iff_getElem.1 ak i j hi ah h
theorem D' (l:List Int) (x:Int) (ak:fR iS l) (aF:l.length<=100000):Tot (pU l x) λr=>fR iS r/\r.length<=l.length+1/\(∀ y,y∈r↔y∈l\/y=x):=by
 unfold pU;refine .aB (Ξ:=λz:Int=>∃ k:Nat,z=(k:Int)/\k<=l.length/\(∀ (i:Nat) (h:i<l.length),k<=i->iS x l[i]=true)/\∀ (h:0<k),iS x (l[k - 1]?.getD default)=false) ?_ λz aY=>?_
 ·refine Tot.count (λs=>-s) 1 (λs=>∃ k:Nat,s=(k:Int)/\k<=l.length/\∀ (i:Nat) (h:i<l.length),k<=i->iS x l[i]=true) ⟨l.length,rfl,Nat.le_refl _,λi h hk=>by omega⟩ (by show 1 - -(l.length:Int)<_; omega) λs aC=>?_;obtain ⟨k,rfl,hk,ug⟩:=aC;refine .aB (Ξ:=λc:Bool=>(c=true->0<k/\iS x (l[k - 1]?.getD default)=true)/\(c=false->∀ (h:0<k),iS x (l[k - 1]?.getD default)=false)) ?_ λc aa=>Tot.bF (λh=>?_) (λh=>.aq ⟨k,rfl,hk,ug,aa.2 h⟩)
  ·refine Tot.br (λh=>?_) (λh=>.aq ⟨λaQ=>(by cases aQ),λ_ aQ=>by omega⟩);have hb:k - 1<l.length:=by omega
   have hw:aL ((k:Int) - 1)=((k - 1:Nat):Int):=by rw [cJ]; omega
   rw [hw,eu hb,List.getElem?_eq_getElem hb];simp only [Option.bind_some,Option.getD_some];exact .aq ⟨λaQ=>⟨by omega,aQ⟩,λaQ _=>aQ⟩
  ·obtain ⟨aR,h1⟩:=aa.1 h;refine .aq ⟨⟨k - 1,by rw [cJ]; omega,by omega,λi hi Vq=>?_⟩,by show -(k:Int) < -aL _; rw [cJ]; omega,by show -aL _<=1; rw [cJ]; omega⟩
   grind
 ·obtain ⟨k,rfl,hk,ug,l7⟩:=aY;refine .aB (Ξ:=λc:Bool=>(c=true↔(0<k/\l[k - 1]?.getD default=x))) ?_ λc aa=>Tot.bF (λh=>?_) (λh=>?_)
  ·refine Tot.br (λh=>?_) (λh=>.aq ⟨λaQ=>(by cases aQ),λaQ=>by omega⟩);have hb:k - 1<l.length:=by omega
   have hw:aL ((k:Int) - 1)=((k - 1:Nat):Int):=by rw [cJ]; omega
   rw [hw,eu hb,List.getElem?_eq_getElem hb];simp only [Option.bind_some,Option.getD_some];generalize l[k - 1]=y;refine .aq ?_
   grind
  ·obtain ⟨aR,h1⟩:=aa.1 h;have hb:k - 1<l.length:=by omega
   rw [List.getElem?_eq_getElem hb] at h1;have J:x∈l:=by rw [<- h1]; exact List.getElem_mem hb
   exact .aq ⟨ak,by omega,λy=>⟨.inl,λh=>h.elim id λe=>e ▸ J⟩⟩
  ·have dq:∀ (i:Nat) (hi:i<l.length),i<k->iS l[i] x=true:=by
    intro i hi Iu;have hb:k - 1<l.length:=by omega
    have l7:=l7 (by omega);have aF:l[k - 1]?.getD default≠x:=λe=>by rw [aa.2 ⟨by omega,e⟩] at h; cases h
    rw [List.getElem?_eq_getElem hb] at l7 aF;simp only [Option.getD_some] at l7 aF;have fW:iS l[k - 1] x=true:=by
     grind [iS]
    by_cases e:i=k - 1
    ·grind
    ·exact Fv.swo.trans _ _ _ (LJ ak hi hb (by omega)) fW
   refine .aB (Ξ:=λz=>z=l.take k) (Tot.sub ⟨by omega,by omega,by omega⟩ (by simp)) λz aY=>?_;subst aY;refine .aB (Ξ:=λ_=>True) (Tot.ap (by simp [lim]; omega) trivial) λ_ _=>.aB (Ξ:=λ_=>True) (Tot.ap (by simp [lim]; omega) trivial) λ_ _=>?_;refine .aB (Ξ:=λz=>z=l.drop k) (Tot.sub ⟨by omega,by omega,by omega⟩ ?_) λz aY=>?_
   ·grind [List.take_of_length_le]
   subst aY;refine .aB (Ξ:=λ_=>True) (Tot.ap (by simp [lim]; omega) trivial) λ_ _=>.aq ?_;rw [List.nil_append];refine ⟨?_,?_,?_⟩
   ·have h1:∀ a∈l.take k,iS a x=true:=by
     grind [List.mem_iff_getElem]
    have af:∀ a∈l.drop k,iS x a=true:=by
     grind [List.mem_iff_getElem]
    unfold fR;rw [List.append_assoc,List.pairwise_append];refine ⟨List.Pairwise.sublist (List.take_sublist k l) ak,?_,λa aP b av=>?_⟩
    ·rw [List.singleton_append,List.pairwise_cons];exact ⟨af,List.Pairwise.sublist (List.drop_sublist k l) ak⟩
    ·rcases List.mem_append.1 av with av | av
     ·grind
     ·exact Fv.swo.trans _ _ _ (h1 a aP) (af b av)
   ·grind
   grind [List.take_append_drop]
theorem PW {α:Type}{l:List α}{k:Nat}{x:α}(hk:k<l.length) (i:Nat):(l.set k x)[i]?=if i=k then some x else l[i]?:=by
 rw [List.getElem?_set];by_cases e:k=i
 ·subst e; simp [hk]
 ·simp [e,Ne.symm e]
theorem Te (x y:Item):(decide (x.Prod=y.Prod)&&(decide (x.fe=y.fe)&&true))=decide (x=y):=by
 obtain ⟨a8,x2⟩:=x;obtain ⟨bx,y2⟩:=y;simp
theorem RY (a b:List Item) (h:a.length<=1000000):Tot (CM a b) λc=>(c=true↔a=b):=by
 unfold CM;refine Tot.qg (λdq=>.aq ⟨λh=>(by cases h),λe=>absurd (by rw [e]) dq⟩) (λhe=>?_);have ak:a.length=b.length:=by omega
 refine Tot.aB (Ξ:=hK (λ_=>a=b) (λx:Bool=>x=false/\a≠b)) ?_ λx J=>?_
 ·refine Tot.count (λs=>s) a.length (λs=>∃ k:Nat,k<=a.length/\s=(k:Int)/\∀ (j:Nat) (h:j<a.length),j<k->a[j]=b[j]) ⟨0,Nat.zero_le _,rfl,λj _ ah=>absurd ah (Nat.not_lt_zero _)⟩ (by show (a.length:Int) - 0<_; omega) λs aC=>?_;obtain ⟨k,hk,rfl,k8⟩:=aC;rw [eR k (by omega)];refine Tot.br (λaT=>?_) (λdU=>.aq ?_)
  ·have aT:k<a.length:=by omega
   have zq:k<b.length:=by omega
   rw [eu aT,eu zq];simp only [Option.bind_some,Te];refine Tot.qg (λdq=>.aq ⟨rfl,λe=>dq (by subst e; rfl)⟩) (λheq=>.aq ⟨⟨k+1,by omega,rfl,λj ah gV=>?_⟩,by show (k:Int)<((k+1:Nat):Int); omega,by show ((k+1:Nat):Int)<=_; omega⟩);by_cases e:j=k
   ·subst e; exact heq
   ·exact k8 j ah (by omega)
  ·exact List.ext_getElem ak λi h1 af=>k8 i h1 (by omega)
 ·rcases x with _ | x
  ·exact .aq ⟨λ_=>J,λ_=>rfl⟩
  ·obtain ⟨rfl,dq⟩:x=false/\a≠b:=J;exact .aq ⟨λh=>(by cases h),λh=>absurd h dq⟩
def syms (g:bO):List Int:=(List.range g.ba.length).map (λk:Nat=>(k:Int))++(List.range g.b3.length).map (λk:Nat=>1000+(k:Int))
theorem L4 (g:bO) (a1:hf g):Tot (C5 g) λl=>l=syms g:=by
 have dL:=a1.kW;have bc:=a1.dz;unfold C5;refine .aB (Ξ:=λl:List Int=>l=(List.range g.ba.length).map (λk:Nat=>(k:Int))) ?_ λl ak=>?_
 ·refine Tot.upto (λs=>s.2) g.ba.length (λk s=>s.1=(List.range k).map (λk:Nat=>(k:Int))) rfl (by omega) rfl λk s hk he bf=>?_;obtain ⟨l,i⟩:=s;simp only at he bf ⊢;subst he bf;rw [eR k (by omega)];refine Tot.br (λaT=>?_) (λdU=>.aq ?_)
  ·refine .aB (Ξ:=λ_=>True) (Tot.ap (by simp [lim]; omega) trivial) λ_ _=>.aq ⟨by omega,rfl,?_⟩;show _=(List.range (k+1)).map _;rw [List.range_succ,List.map_append]; rfl
  ·have:k=g.ba.length:=by omega
   subst this; rfl
 ·subst ak;refine .aB (Ξ:=λl:List Int=>l=syms g) ?_ λr ao=>.aq ao;refine Tot.upto (λs=>s.2) g.b3.length (λk s=>s.1=(List.range g.ba.length).map (λk:Nat=>(k:Int))++(List.range k).map (λk:Nat=>1000+(k:Int))) rfl (by omega) (by simp) λk s hk he bf=>?_;obtain ⟨l,i⟩:=s;simp only at he bf ⊢;subst he bf;rw [eR k (by omega)];refine Tot.br (λaT=>?_) (λdU=>.aq ?_)
  ·refine .aB (Ξ:=λ_=>True) (Tot.ap (by simp [lim]; omega) trivial) λ_ _=>.aq ⟨by omega,rfl,?_⟩;have hw:aL (1000+(k:Int))=1000+(k:Int):=by rw [cJ]; omega
   show _=_++(List.range (k+1)).map _;rw [hw,List.range_succ,List.map_append,List.append_assoc]; rfl
  ·have:k=g.b3.length:=by omega
   subst this; rfl
theorem YP (g:bO):(syms g).length=g.ba.length+g.b3.length:=by simp [syms]
theorem W8 {g:bO}{s:Int}:s∈syms g↔(0<=s/\s<g.ba.length)\/(1000<=s/\s<1000+g.b3.length):=by
 unfold syms;rw [List.mem_append,List.mem_map,List.mem_map];constructor
 ·rintro (⟨k,hk,rfl⟩ | ⟨k,hk,rfl⟩)
  ·rw [List.mem_range] at hk; exact .inl (by omega)
  ·rw [List.mem_range] at hk; exact .inr (by omega)
 ·rintro (h | h)
  ·exact .inl ⟨s.toNat,by rw [List.mem_range]; omega,by omega⟩
  ·exact .inr ⟨(s - 1000).toNat,by rw [List.mem_range]; omega,by omega⟩
theorem YQ {g:bO}(a1:hf g):(syms g).Nodup:=by
 have aw:=a1.kW;unfold syms;rw [List.nodup_append];refine ⟨List.pairwise_map.2 ((List.nodup_range (n:=g.ba.length)).imp λ{a b} h e=>h (by omega)),List.pairwise_map.2 ((List.nodup_range (n:=g.b3.length)).imp λ{a b} h e=>h (by omega)),λa aP b av=>?_⟩;obtain ⟨i,hi,rfl⟩:=List.mem_map.1 aP;obtain ⟨j,ah,rfl⟩:=List.mem_map.1 av;rw [List.mem_range] at hi;omega
structure yK (g:bO) (K:List Item):Prop where
 a:fR gX K
 i:∀ x∈K,jf g x
theorem yK.len {g:bO}(a1:hf g) {K:List Item}(h:yK g K):K.length<=540:=tx a1 h.a h.i
theorem L2 (l:List Int) (x:Int) (h:l.length<=1000000):Tot (x4 l x) λc=>(c=true↔x∈l):=by
 unfold x4;refine .aB (Ξ:=hK (λ_=>x∉l) (λr:Bool=>r=true/\x∈l)) ?_ λr ao=>?_
 ·refine Tot.upto (λs=>s) l.length (λk s=>x∉l.take k) rfl (by omega) (by simp) λk s hk he bf=>?_;subst he;rw [eR k (by omega)];refine Tot.br (λaT=>?_) (λdU=>.aq ?_)
  ·have aT:k<l.length:=by omega
   rw [eu aT];simp only [Option.bind_some];refine Tot.br (λe=>.aq ⟨rfl,by rw [<- e]; exact List.getElem_mem aT⟩) (λe=>.aq ⟨aT,rfl,?_⟩);rw [lW aT,List.mem_append,List.mem_singleton];exact λh=>h.elim bf λh=>e h.symm
  ·rw [List.take_of_length_le (by omega)] at bf;exact bf
 ·rcases r with r | r
  ·exact .aq ⟨λh=>(by cases h),λh=>absurd h ao⟩
  ·obtain ⟨rfl,h⟩:=ao;exact .aq ⟨λ_=>h,λ_=>rfl⟩
theorem Sf (m:List State) (k:List Item) (aR:m.length<=1000) (h1:∀ st∈m,st.Kernel.length<=1000000):Tot (C7 m k) λr=>-1<=r/\r<m.length:=by
 unfold C7;refine .aB (Ξ:=hK (λ_=>True) (λr:Int=>0<=r/\r<m.length)) ?_ λx J=>?_
 ·refine Tot.upto (λs=>s) m.length (λ_ _=>True) rfl (by omega) trivial λj s ah he _=>?_;subst he;rw [eR j (by omega)];refine Tot.br (λaT=>?_) (λdU=>.aq trivial);have aT:j<m.length:=by omega
  rw [eu aT];refine Tot.aV (.aB (RY _ k (h1 _ (List.getElem_mem aT))) λc aa=>Tot.bF (λh=>.aq ⟨by omega,by omega⟩) (λh=>.aq ⟨aT,rfl,trivial⟩))
 ·rcases x with x | x
  ·exact .aq ⟨by omega,by omega⟩
  ·have J:0<=x/\x<m.length:=J;exact .aq ⟨by omega,by omega⟩
structure yO (g:bO) (n:Nat) (v:Move):Prop where
 s:v.Sym∈syms g
 t0:0<=v.jF
 t1:v.jF<n
structure mh (g:bO) (m:List State) (q j:Nat):Prop where
 gY:0<m.length
 nT:m.length<=150
 qC:∀ st∈m,yK g st.Kernel
 ms:∀ (i:Nat) (st:State),m[i]?=some st->(st.eV.map (·.Sym)).Sublist (if i<q then syms g else if i=q then (syms g).take j else [])
 aX:∀ st∈m,∀ v∈st.eV,yO g m.length v
structure mK (g:bO) (m:List State):Prop where
 gY:0<m.length
 nT:m.length<=150
 qC:∀ st∈m,yK g st.Kernel
 xH:∀ st∈m,st.eV.length<=64
 nd:∀ st∈m,(st.eV.map (·.Sym)).Nodup
 aX:∀ st∈m,∀ v∈st.eV,yO g m.length v
theorem yO.up {g:bO}{n cF:Nat}{v:Move}(h:yO g n v) (aF:n<=cF):yO g cF v:=⟨h.s,h.t0,by have:=h.t1; omega⟩
theorem mh.put {g:bO}{m:List State}{q j:Nat}(h:mh g m q j) {st:State}(bg:m[q]?=some st) {v:Move}(hv:yO g m.length v) (ah:(syms g)[j]?=some v.Sym):mh g (m.set q ⟨st.Kernel,st.eV++[v]⟩) q (j+1):=by
 have mZ:=(List.getElem?_eq_some_iff.1 bg).1;have hm:=List.mem_of_getElem? bg;refine ⟨by rw [List.length_set]; exact h.gY,by rw [List.length_set]; exact h.nT,λs aC=>?_,λi s aC=>?_,λs aC w hw=>?_⟩
 ·rcases List.mem_or_eq_of_mem_set aC with aQ | aQ
  ·exact h.qC s aQ
  ·rw [aQ]; exact h.qC st hm
 ·rw [PW mZ] at aC;by_cases e:i=q
  ·subst e;rw [if_pos rfl] at aC; cases aC;have:=h.ms i st bg;rw [if_neg (by omega),if_pos rfl] at this ⊢;rw [List.map_append,List.take_add_one,ah];exact this.append (List.Sublist.refl _)
  ·rw [if_neg e] at aC;have:=h.ms i s aC;rw [if_neg e] at this ⊢;exact this
 ·rw [List.length_set];rcases List.mem_or_eq_of_mem_set aC with aQ | aQ
  ·exact h.aX s aQ w hw
  ·rw [aQ] at hw;rcases List.mem_append.1 hw with hw | hw
   ·exact h.aX st hm w hw
   ·rw [List.mem_singleton.1 hw]; exact hv
theorem mh.more {g:bO}{m:List State}{q j:Nat}(h:mh g m q j) (ak:m.length<150) {K:List Item}(hk:yK g K):mh g (m++[⟨K,[]⟩]) q j:=by
 refine ⟨by simp,by simp; omega,λs aC=>?_,λi s aC=>?_,λs aC w hw=>?_⟩
 ·rcases List.mem_append.1 aC with aC | aC
  ·exact h.qC s aC
  ·rw [List.mem_singleton.1 aC]; exact hk
 ·by_cases e:i<m.length
  ·rw [List.getElem?_append_left e] at aC; exact h.ms i s aC
  ·rw [List.getElem?_append_right (by omega)] at aC;have:s=⟨K,[]⟩:=by
    have:=List.mem_of_getElem? aC;simpa using this
   rw [this]; exact List.nil_sublist _
 ·rcases List.mem_append.1 aC with aC | aC
  ·exact (h.aX s aC w hw).up (by simp)
  ·rw [List.mem_singleton.1 aC] at hw; cases hw
theorem mh.mono {g:bO}{m:List State}{q j vB:Nat}(h:mh g m q j) (ah:j<=vB):mh g m q vB:=by
 refine ⟨h.gY,h.nT,h.qC,λi s aC=>?_,h.aX⟩;have:=h.ms i s aC;split
 ·rename_i e; rw [if_pos e] at this; exact this
 ·rename_i e; rw [if_neg e] at this;split
  ·rename_i cj; rw [if_pos cj] at this;exact this.trans (List.take_sublist_take_left ah)
  ·rename_i cj; rw [if_neg cj] at this; exact this
theorem mh.next {g:bO}{m:List State}{q j:Nat}(h:mh g m q j):mh g m (q+1) 0:=by
 refine ⟨h.gY,h.nT,h.qC,λi s aC=>?_,h.aX⟩;have:=h.ms i s aC;by_cases e:i<q+1
 ·rw [if_pos e]
  split at this
  ·exact this
  ·split at this
   ·exact this.trans (List.take_sublist _ _)
   ·exact this.trans (List.nil_sublist _)
 ·rw [if_neg (by omega),if_neg (by omega)] at this;rw [if_neg e];exact this.trans (List.nil_sublist _)
theorem R8 (g:bO) (a1:hf g):Tot (Ai g) λr=>(r.2=0/\mK g r.1)\/r.2=4:=by
 have dL:=a1.kW;have bc:=a1.dz;have cx:=a1.h';unfold Ai;refine Tot.aB (L4 g a1) λa8 h1=>?_;subst h1;have h6:=YP g;refine Tot.aB (Ξ:=hK (λm=>mh g m m.length 0) (λr:List State × Int=>r.2=4)) ?_ λx J=>?_
 ·refine Tot.loop (λs=>∃ q:Nat,s.2=(q:Int)/\q<=s.1.length/\mh g s.1 q 0) (λs=>151 - s.2.toNat) ⟨0,rfl,Nat.zero_le _,⟨by simp,by simp,λs aC=>?_,λi s aC=>?_,λs aC v hv=>?_⟩⟩ (by show 151 - 0<1000000000000000000; omega) λs b1=>?_
  ·rw [List.mem_singleton.1 aC];refine ⟨List.pairwise_singleton ..,λx J=>?_⟩;rw [List.mem_singleton.1 J];obtain ⟨q,bg⟩:∃ q,g.bj[0]?=some q:=⟨g.bj[0]'(by omega),List.getElem?_eq_getElem _⟩;exact Oy (p:=0) bg
  ·have:=List.mem_of_getElem? aC;rw [List.mem_singleton.1 this]; exact List.nil_sublist _
  ·rw [List.mem_singleton.1 aC] at hv; cases hv
  obtain ⟨q,he,bg,Bx⟩:=b1;obtain ⟨m,i⟩:=s;simp only at he bg Bx ⊢;subst he;have xd:=Bx.nT;rw [eR q (by omega)];refine Tot.br (λaT=>?_) (λdU=>.aq ?_)
  ·have aT:q<m.length:=by omega
   rw [eu aT];have dj:=Bx.qC _ (List.getElem_mem aT);refine Tot.aV (Tot.aB (Hg g a1 _ (by have:=dj.len a1; omega)) λc aa=>?_);have ha:=tx a1 aa.1 λx J=>((aa.2 x).1 J).jf;refine Tot.aB (Ξ:=λl:List Int=>l.length<=1000) ?_ λRm ab2=>?_
   ·refine Tot.upto (λs=>s.2) c.length (λk s=>fR iS s.1/\s.1.length<=k) rfl (by omega) ⟨.nil,Nat.le_refl 0⟩ λk s hk he bf=>?_;obtain ⟨l,i⟩:=s;obtain ⟨g1,g2⟩:=bf;simp only at he g1 g2 ⊢;subst he;rw [eR k (by omega)];refine Tot.br (λaT=>?_) (λdU=>.aq (show l.length<=1000 by omega));have aT:k<c.length:=by omega
    rw [eu aT];refine .aB (Ξ:=λl:List Int=>fR iS l/\l.length<=k+1) ?_ λo a1=>.aq ⟨aT,rfl,a1⟩;refine Tot.aV ?_;rw [Hp g _];refine Tot.aV (.aB (Ξ:=λl:List Int=>fR iS l/\l.length<=k+1) ?_ λo a1=>.aq a1);refine Tot.br (λau=>.aB (D' l _ g1 (by omega)) λr ao=>.aq ⟨ao.1,by have:=ao.2.1; omega⟩) (λau=>.aq ⟨g1,by omega⟩)
   ·refine Tot.aB (Ξ:=hK (λm=>mh g m q (syms g).length/\q<m.length) (λr:List State × Int=>r.2=4)) ?_ λx J=>?_
    ·refine Tot.upto (λs=>s.2) (syms g).length (λk s=>mh g s.1 q k/\q<s.1.length) rfl (by omega) ⟨Bx,aT⟩ λk s hk he bf=>?_;obtain ⟨m,i⟩:=s;obtain ⟨tN,mZ⟩:=bf;simp only at he tN mZ ⊢;subst he;rw [eR k (by omega)];have vl:=tN.nT;refine Tot.br (λaT=>?_) (λdU=>.aq ?_)
     ·have aT:k<(syms g).length:=by omega
      have nM:=List.getElem_mem aT;have pC:(syms g)[k]?=some (syms g)[k]:=List.getElem?_eq_getElem aT;rw [eu aT];generalize (syms g)[k]=s at *;refine Tot.aV (Tot.aB (L2 Rm s (by omega)) λcm _=>?_);refine Tot.bF (λ_=>.aq ⟨aT,rfl,tN.mono (by omega),mZ⟩) (λ_=>?_);have oc:m[q]?=some m[q]:=List.getElem?_eq_getElem mZ;have dj:=tN.qC _ (List.getElem_mem mZ);rw [eu mZ];generalize m[q]=st at *;refine Tot.aV (Tot.aV (Tot.aB (Se g a1 st.Kernel s (by have:=dj.len a1; omega)) λDP zg=>?_));have h9:yK g DP:=⟨zg.1,λy ax=>((zg.2 y).1 ax).jf a1⟩;refine Tot.aB (Sf m DP (by omega) λt aw=>by have:=(tN.qC t aw).len a1; omega) λz aY=>?_;have V0:=(tN.ms q st oc).length_le;rw [if_neg (by omega),if_pos rfl,List.length_map,List.length_take] at V0;refine Tot.br (λacz=>Tot.br (λ_=>.aq rfl) (λNV=>?_)) (λsQ=>?_)
      ·refine .aB (Ξ:=λ_=>True) (Tot.ap (by simp [lim]; omega) trivial) λ_ _=>?_;have Ui:=tN.more (by omega) h9;have NF:(m++[(⟨DP,[]⟩:State)])[q]?=some st:=by rw [List.getElem?_append_left mZ]; exact oc
       have BN:idx (m++[(⟨DP,[]⟩:State)]) (q:Int)=some st:=by simp only [idx,if_pos (show (0:Int)<=(q:Int) by omega),Int.toNat_natCast]; exact NF
       rw [BN];refine Tot.aV (Tot.aV ?_);refine .aB (Ξ:=λ_=>True) (Tot.ap (by simp [lim]; omega) trivial) λ_ _=>.aq ⟨aT,rfl,?_⟩;refine ⟨?_,by show q<(List.set _ _ _).length; rw [List.length_set]; simp; omega⟩;show mh g (List.set _ (q:Int).toNat _) q (k+1);rw [Int.toNat_natCast];exact Ui.put NF ⟨nM,by show (0:Int)<=(m.length:Int); omega,by show (m.length:Int)<_; simp; omega⟩ pC
      ·refine Tot.aV (Tot.aV ?_);refine .aB (Ξ:=λ_=>True) (Tot.ap (by simp [lim]; omega) trivial) λ_ _=>.aq ⟨aT,rfl,?_⟩;refine ⟨?_,by show q<(List.set _ _ _).length; rw [List.length_set]; exact mZ⟩;show mh g (List.set _ (q:Int).toNat _) q (k+1);rw [Int.toNat_natCast];exact tN.put oc ⟨nM,by show 0<=z; omega,aY.2⟩ pC
     ·have:k=(syms g).length:=by omega
      subst this;exact ⟨tN,mZ⟩
    ·rcases x with x | x
     ·obtain ⟨h1,af⟩:=J;refine .aq ⟨⟨q+1,rfl,af,h1.next⟩,?_⟩;show 151 - ((q+1:Nat):Int).toNat<151 - (q:Int).toNat;omega
     ·exact .aq J
  ·have:q=m.length:=by omega
   subst this;exact Bx
 ·rcases x with x | x
  ·have J:mh g x x.length 0:=J;have key:∀ st∈x,(st.eV.map (·.Sym)).Sublist (syms g):=λst b1=>by
    obtain ⟨i,hi⟩:=List.getElem?_of_mem b1;have:=J.ms i st hi;rw [if_pos (List.getElem?_eq_some_iff.1 hi).1] at this;exact this
   refine .aq (.inl ⟨rfl,J.gY,J.nT,J.qC,λst b1=>?_,λst b1=>(key st b1).nodup (YQ a1),J.aX⟩);have:=(key st b1).length_le;rw [List.length_map] at this; omega
  ·exact .aq (.inr J)
theorem WM {α:Type}{m:List α}{q:Nat}{x:α}(h:m[q]?=some x):idx m (q:Int)=some x:=by simp [idx,h]
def GoTo (m:List State) (a s r:Int):Prop:=(r=-1/\∀ st,idx m a=some st->∀ v∈st.eV,v.Sym≠s)\/∃ st v,idx m a=some st/\v∈st.eV/\v.Sym=s/\r=v.jF
theorem D_ (m:List State) (a s:Int) (hm:∀ st∈m,st.eV.length<=64):Tot (rr m a s) (GoTo m a s):=by
 unfold rr;by_cases aR:0<=a/\a<(m.length:Int)
 ·obtain ⟨st,b1,nI⟩:=oo aR.1 aR.2;have ak:=hm st nI;have d1:decide (0<=a)=true:=decide_eq_true aR.1;have d2:decide (a<(m.length:Int))=true:=decide_eq_true aR.2;rw [d1,d2];simp only [cond_true,b1,Option.bind_some];refine .aB (Ξ:=hK (λ_=>∀ v∈st.eV,v.Sym≠s) (λr:Int=>∃ v,v∈st.eV/\v.Sym=s/\r=v.jF)) ?_ λx J=>?_
  ·refine Tot.upto (λs=>s) st.eV.length (λk _=>∀ v∈st.eV.take k,v.Sym≠s) rfl (by omega) (by simp) λk i hk he bf=>?_;subst he;rw [eR k (by omega)];refine Tot.br (λaT=>?_) (λdU=>.aq (by
    show ∀ v∈st.eV,v.Sym≠s;rw [List.take_of_length_le (by omega)] at bf; exact bf))
   have aT:k<st.eV.length:=by omega
   rw [eu aT];simp only [Option.bind_some];refine Tot.br (λe=>.aq ⟨_,List.getElem_mem aT,e,rfl⟩) (λe=>.aq ⟨aT,rfl,λv hv=>?_⟩);rw [lW aT,List.mem_append,List.mem_singleton] at hv;rcases hv with hv | rfl
   ·exact bf v hv
   ·exact e
  ·rcases x with x | x
   ·exact .aq (.inl ⟨rfl,λQc aQ=>by rw [b1] at aQ; cases aQ; exact J⟩)
   ·obtain ⟨v,h1,af,aI⟩:=J;exact .aq (.inr ⟨st,v,b1,h1,af,aI⟩)
 ·refine .aB (Ξ:=hK (λ_=>True) (λ_:Int=>False)) (Tot.loop (λ_=>True) (λ_=>0) trivial (by show 0<1000000000000000000; omega) λi _=>?_) λx J=>?_
  ·refine .aB (Ξ:=λc=>c=false) ?_ λc aa=>by subst aa; exact .aq trivial
   refine Tot.br (λh1=>Tot.br (λaf=>absurd ⟨h1,af⟩ aR) (λ_=>.aq rfl)) (λ_=>.aq rfl)
  ·rcases x with x | x
   ·refine .aq (.inl ⟨rfl,λst aQ=>absurd ⟨(nb aQ).1,(nb aQ).2.1⟩ aR⟩)
   ·exact J.elim
theorem GoTo.aJ {g:bO}{m:List State}(hm:mK g m) {a s r:Int}(h:GoTo m a s r):-1<=r/\r<m.length:=by
 rcases h with ⟨rfl,_⟩ | ⟨st,v,h1,af,_,rfl⟩
 ·have:=hm.gY; exact ⟨by omega,by omega⟩
 ·have:=hm.aX st (nb h1).2.2 v af;exact ⟨by have:=this.t0; omega,this.t1⟩
theorem GoTo.yes {g:bO}{m:List State}(hm:mK g m) {a s r:Int}(h:GoTo m a s r) {st:State}{v:Move}(aC:idx m a=some st) (hv:v∈st.eV) (e:v.Sym=s):0<=r/\r<m.length:=by
 rcases h with ⟨rfl,h⟩ | ⟨st,v,h1,af,_,rfl⟩
 ·exact absurd e (h st aC v hv)
 ·have:=hm.aX st (nb h1).2.2 v af;exact ⟨this.t0,this.t1⟩
theorem L6 {g:bO}{m:List State}(hm:mK g m) (a:Int) (l:List Int) (aP:-1<=a/\a<m.length) (ak:l.length<=1000):Tot (An m a l) λr=>-1<=r/\r<m.length:=by
 unfold An;refine .aB (Ξ:=λr:Int=>-1<=r/\r<m.length) ?_ λr ao=>.aq ao;refine Tot.upto (λs=>s.2) l.length (λ_ s=>-1<=s.1/\s.1<m.length) rfl (by omega) aP λk s hk he bf=>?_;obtain ⟨r,i⟩:=s;simp only at he bf ⊢;subst he;rw [eR k (by omega)];refine .aB (Ξ:=λc=>c=true->k<l.length) (Tot.br (λh=>.aq λ_=>by omega) (λ_=>.aq λh=>by cases h)) λc aa=>Tot.bF (λh=>?_) (λ_=>.aq bf);have aT:=aa h;rw [eu aT];exact Tot.aV (.aB (D_ m r _ hm.xH) λz aY=>.aq ⟨aT,rfl,aY.aJ hm⟩)
def uY (m:List State) (t:Trans):Prop:=∃ st v,idx m t.State=some st/\v∈st.eV/\v.Sym=t.fF/\1000<=t.fF
structure wu (m:List State) (l:List Trans):Prop where
 n:l.length<=9600
 ok:∀ t∈l,uY m t
 fp:∀ (q:Nat) (st:State) (v:Move),m[q]?=some st->v∈st.eV->1000<=v.Sym->(⟨q,v.Sym⟩:Trans)∈l
theorem Sj {g:bO}{m:List State}(hm:mK g m):Tot (qH m) (wu m):=by
 have aF:=hm.nT;unfold qH;refine .aB (Ξ:=wu m) ?_ λr ao=>.aq ao;refine Tot.upto (λs=>s.2) m.length (λk s=>s.1.length<=64 * k/\(∀ t∈s.1,uY m t)/\∀ (q:Nat) (st:State) (v:Move),q<k->m[q]?=some st->v∈st.eV->1000<=v.Sym->(⟨q,v.Sym⟩:Trans)∈s.1) rfl (by omega) ⟨Nat.le_refl 0,λt h=>(by cases h),λq _ _ h=>absurd h (Nat.not_lt_zero _)⟩ λk s hk he bf=>?_;obtain ⟨l,i⟩:=s;obtain ⟨h1,af,aI⟩:=bf;simp only at he h1 af aI ⊢;subst he;rw [eR k (by omega)];refine Tot.br (λaT=>?_) (λdU=>.aq ⟨?_,af,λq st v bg=>aI q st v ?_ bg⟩)
 ·have aT:k<m.length:=by omega
  have oc:m[k]?=some m[k]:=List.getElem?_eq_getElem aT;have nI:=List.getElem_mem aT;rw [eu aT];generalize m[k]=st at *;have vl:=hm.xH st nI;simp only [Option.bind_some];refine .aB (Ξ:=λvC:List Trans=>vC.length<=64 * (k+1)/\(∀ t∈vC,uY m t)/\(∀ t∈l,t∈vC)/\∀ v∈st.eV,1000<=v.Sym->(⟨k,v.Sym⟩:Trans)∈vC) ?_ λvC hU=>.aq ⟨aT,rfl,hU.1,hU.2.1,λq Qc v bg bK cH ei=>?_⟩
  ·refine Tot.upto (λs=>s.2) st.eV.length (λj s=>s.1.length<=64 * k+j/\(∀ t∈s.1,uY m t)/\(∀ t∈l,t∈s.1)/\∀ v∈st.eV.take j,1000<=v.Sym->(⟨k,v.Sym⟩:Trans)∈s.1) rfl (by omega) ⟨h1,af,λ_ h=>h,λv hv=>by simp at hv⟩ λj s ah he bf=>?_;obtain ⟨o,i⟩:=s;obtain ⟨g1,g2,g3,g4⟩:=bf;simp only at he g1 g2 g3 g4 ⊢;subst he;rw [eR j (by omega)];refine Tot.br (λaT=>?_) (λdU=>.aq ⟨by show o.length<=_; omega,g2,g3,by
    rw [List.take_of_length_le (by omega)] at g4; exact g4⟩)
   have aT:j<st.eV.length:=by omega
   have gm:=lW aT;have ER:=List.getElem_mem aT;rw [eu aT];generalize st.eV[j]=v at *;simp only [Option.bind_some];refine .aB (Ξ:=λo:List Trans=>o.length<=64 * k+(j+1)/\(∀ t∈o,uY m t)/\(∀ t∈l,t∈o)/\∀ v∈st.eV.take (j+1),1000<=v.Sym->(⟨k,v.Sym⟩:Trans)∈o) ?_ λo a1=>.aq ⟨aT,rfl,a1⟩;refine .aB (Ξ:=λo:List Trans=>o.length<=64 * k+(j+1)/\(∀ t∈o,uY m t)/\(∀ t∈l,t∈o)/\∀ v∈st.eV.take (j+1),1000<=v.Sym->(⟨k,v.Sym⟩:Trans)∈o) (Tot.br (λh=>?_) (λh=>.aq ⟨by omega,g2,g3,λw hw aC=>?_⟩)) λo a1=>.aq a1
   ·refine .aB (Ξ:=λ_=>True) (Tot.ap (by simp [lim]; omega) trivial) λ_ _=>.aq ⟨by simp; omega,λt aw=>?_,λt aw=>List.mem_append_left _ (g3 t aw),λw hw aC=>?_⟩
    ·rcases List.mem_append.1 aw with aw | aw
     ·exact g2 t aw
     ·rw [List.mem_singleton.1 aw];exact ⟨st,v,WM oc,ER,rfl,h⟩
    ·rw [gm,List.mem_append,List.mem_singleton] at hw;rcases hw with hw | rfl
     ·exact List.mem_append_left _ (g4 w hw aC)
     ·simp
   ·rw [gm,List.mem_append,List.mem_singleton] at hw;rcases hw with hw | rfl
    ·exact g4 w hw aC
    ·exact absurd aC h
  ·by_cases e:q=k
   ·subst e;rw [oc] at bK; cases bK;exact hU.2.2.2 v cH ei
   ·exact hU.2.2.1 _ (aI q Qc v (by omega) bK cH ei)
 ·show l.length<=9600;omega
 ·have:=(List.getElem?_eq_some_iff.1 bg).1;omega
theorem A_ (l:List Trans) (a n:Int) (ak:l.length<=9600):Tot (zZ l a n) λr=>-1<=r/\r<l.length/\((⟨a,n⟩:Trans)∈l->0<=r):=by
 unfold zZ;refine .aB (Ξ:=hK (λ_=>(⟨a,n⟩:Trans)∉l) (λr:Int=>0<=r/\r<l.length)) ?_ λx J=>?_
 ·refine Tot.upto (λs=>s) l.length (λk _=>(⟨a,n⟩:Trans)∉l.take k) rfl (by omega) (by simp) λk i hk he bf=>?_;subst he;rw [eR k (by omega)];refine Tot.br (λaT=>?_) (λdU=>.aq (by
   show (⟨a,n⟩:Trans)∉l;rw [List.take_of_length_le (by omega)] at bf; exact bf))
  have aT:k<l.length:=by omega
  have gm:=lW aT;rw [eu aT];generalize l[k]=y at *;simp only [Option.bind_some];refine .aB (Ξ:=λc:Bool=>c=false->y≠⟨a,n⟩) (Tot.br (λh=>.aq λaQ e=>?_) (λh=>.aq λ_ e=>h (by rw [e]))) λc aa=>Tot.bF (λh=>.aq ⟨by show (0:Int)<=k; omega,by show (k:Int)<_; omega⟩) (λh=>.aq ⟨aT,rfl,?_⟩)
  ·have:=of_decide_eq_false aQ;exact this (by rw [e])
  ·rw [gm,List.mem_append,List.mem_singleton];exact λaQ=>aQ.elim bf λe=>aa h e.symm
 ·rcases x with x | x
  ·refine .aq ⟨by omega,by omega,λh=>absurd h J⟩
  ·have J:0<=x/\x<l.length:=J;exact .aq ⟨by omega,J.2,λ_=>J.1⟩
theorem RZ (l:List Item) (ak:l.length<=1000000):Tot (CN l) λ_=>True:=by
 unfold CN;refine .aB (Ξ:=λ_=>True) ?_ λx J=>by
  rcases x with x | x
  ·exact .aq trivial
  ·exact .aq trivial
 refine Tot.upto (λs=>s) l.length (λ_ _=>True) rfl (by omega) trivial λk i hk he _=>?_;subst he;rw [eR k (by omega)];refine Tot.br (λaT=>?_) (λ_=>.aq trivial);have aT:k<l.length:=by omega
 rw [eu aT];simp only [Option.bind_some];refine .aB (Ξ:=λ_=>True) (Tot.br (λ_=>.aq trivial) (λ_=>.aq trivial)) λc _=>Tot.bF (λ_=>.aq trivial) (λ_=>.aq ⟨aT,rfl,trivial⟩)
theorem LZ (B:List Bool) (l:List Int) (ak:l.length<=1000) (h:∀ s∈l,s<1000\/(1000<=s/\s - 1000<B.length)) (fm:B.length<=1000):Tot (z1 B l) λ_=>True:=by
 unfold z1;refine .aB (Ξ:=λ_=>True) ?_ λx J=>by
  rcases x with x | x
  ·exact .aq trivial
  ·exact .aq trivial
 refine Tot.upto (λs=>s) l.length (λ_ _=>True) rfl (by omega) trivial λk i hk he _=>?_;subst he;rw [eR k (by omega)];refine Tot.br (λaT=>?_) (λ_=>.aq trivial);have aT:k<l.length:=by omega
 have ax:=h _ (List.getElem_mem aT);rw [eu aT];generalize l[k]=y at *;simp only [Option.bind_some];refine .aB (Ξ:=λ_=>True) (Tot.br (λ_=>.aq trivial) (λh1=>?_)) λc _=>Tot.bF (λ_=>.aq trivial) (λ_=>.aq ⟨aT,rfl,trivial⟩);have hw:aL (y - 1000)=y - 1000:=by rw [cJ]; omega
 rw [hw];obtain ⟨b,av,_⟩:=oo (l:=B) (i:=y - 1000) (by omega) (by omega);rw [av];exact .aq trivial
theorem Py {g:bO}(aO:hf g) {q:Prod}(bg:q∈g.bj) {B:List Bool}(fm:B.length=g.b3.length):∀ s∈q.eI,s<1000\/(1000<=s/\s - 1000<B.length):=λs aC=>by
 have aw:=aO.kW;have aF:=aO.dz;rcases (aO.hq q bg).right s aC with h | h <;> omega
theorem LY (g:bO) (aO:hf g):Tot (zY g) λB=>B.length=g.b3.length:=by
 have aw:=aO.kW;have aF:=aO.dz;have au:=aO.h';unfold zY;refine .aB (Ξ:=λB=>B=List.replicate g.b3.length false) (Tot.mk (by simp [lim]; omega) (by simp)) λZA T1=>?_;subst T1;refine .aB (Ξ:=λB:List Bool=>B.length=g.b3.length) ?_ λB fm=>.aq fm;refine Tot.loop (λs=>s.1.length=g.b3.length) (λs=>2 * (g.b3.length - hn s.1)+s.2.toNat) (by simp) (by
  show 2 * (g.b3.length - hn _)+1<1000000000000000000; omega) λs aC=>?_
 obtain ⟨B,f⟩:=s;simp only at aC ⊢;refine Tot.bF (λaW=>?_) (λ_=>.aq aC);subst aW;refine .aB (Ξ:=λr:List Bool × Bool=>r.1.length=g.b3.length/\hn B<=hn r.1/\(r.2=true->hn B<hn r.1)) ?_ λr ao=>?_
 ·refine Tot.upto (λs=>s.2.2) g.bj.length (λ_ s=>s.1.length=g.b3.length/\hn B<=hn s.1/\(s.2.1=true->hn B<hn s.1)) rfl (by omega) ⟨aC,Nat.le_refl _,λh=>by cases h⟩ λk s hk he bf=>?_;obtain ⟨C,f,i⟩:=s;obtain ⟨h1,af,aI⟩:=bf;simp only at he h1 af aI ⊢;subst he;rw [eR k (by omega)];refine Tot.br (λaT=>?_) (λdU=>.aq ⟨h1,af,aI⟩);have aT:k<g.bj.length:=by omega
  have mZ:=List.getElem_mem aT;rw [eu aT];generalize g.bj[k]=q at *;have bg:=aO.hq q mZ;have N1:=bg.left;obtain ⟨b,av,_⟩:=oo (l:=C) (i:=q.Left) N1.1 (by omega);simp only [Option.bind_some,av];refine .aB (Ξ:=λr:List Bool × Bool=>r.1.length=g.b3.length/\hn B<=hn r.1/\(r.2=true->hn B<hn r.1)) ?_ λr ao=>.aq ⟨aT,rfl,ao⟩;refine .aB (Ξ:=λc:Bool=>c=true->b=false) ?_ λc aa=>?_
  ·cases b with
   | true=>exact .aq λh=>by cases h
   | false =>
    refine .aB (LZ C q.eI (by have:=aO.aH q mZ; omega) (Py aO mZ h1) (by omega)) λ_ _=>.aq λ_=>rfl
  ·refine .aB (Ξ:=λr:List Bool × Bool=>r.1.length=g.b3.length/\hn B<=hn r.1/\(r.2=true->hn B<hn r.1)) (Tot.bF (λh=>.aq ?_) (λh=>.aq ⟨h1,af,aI⟩)) λr ao=>.aq ao;have UZ:=aa h;subst UZ;have zp:q.Left.toNat<C.length:=by omega
   have oc:C.getD q.Left.toNat false=false:=by
    unfold idx at av;rw [if_pos N1.1] at av;rw [List.getD_eq_getElem?_getD,av]; rfl
   have:=wO C q.Left.toNat zp oc;exact ⟨by rw [List.length_set]; exact h1,by show hn B<=hn (C.set _ _); omega,λ_=>by show hn B<hn (C.set _ _); omega⟩
 ·obtain ⟨h1,af,aI⟩:=ao;refine .aq ⟨h1,?_⟩;have aa:=Sr r.1;show 2 * (g.b3.length - hn r.1)+r.2.toNat<2 * (g.b3.length - hn B)+true.toNat;cases iP:r.2 with
  | false=>simp only [Bool.toNat_false,Bool.toNat_true]; omega
  | true =>
   have:=aI iP;simp only [Bool.toNat_true]; omega
structure jn (T:Nat) (r:List Int):Prop where
 a:fR iS r
 i:∀ x∈r,0<=x/\x<T
theorem jn.len {T:Nat}{r:List Int}(h:jn T r):r.length<=T:=by
 have:=zO (m:=(List.range T).map λk:Nat=>(k:Int)) (h.a.nd Fv) λx J=>by
  have:=h.i x J;exact List.mem_map.2 ⟨x.toNat,by rw [List.mem_range]; omega,by omega⟩
 grind
theorem jn.nil {T:Nat}:jn T []:=⟨.nil,λx h=>by cases h⟩
theorem jn.put {T:Nat}(dL:T<=100000) {r:List Int}(h:jn T r) {x:Int}(J:0<=x/\x<T):Tot (pU r x) λdm=>jn T dm/\r.length<=dm.length:=by
 have ak:=h.len;refine (D' r x h.a (by omega)).use λdm ec=>⟨⟨ec.1,λy ax=>?_⟩,zO (h.a.nd Fv) λy ax=>(ec.2.2 y).2 (.inl ax)⟩;rcases (ec.2.2 y).1 ax with aQ | rfl
 ·exact h.i y aQ
 grind
def mD (L:List (List Int)) (i:Nat):Nat:=(L.getD i []).length
def ji (L:List (List Int)):Nat:=(L.map List.length).sum
theorem Qm:∀ (L L':List (List Int)),L.length=L'.length->(∀ i,mD L i<=mD L' i)->ji L<=ji L'/\((∃ i,mD L i<mD L' i)->ji L<ji L')
 | [],[],_,_=>⟨Nat.le_refl _,λ⟨i,h⟩=>absurd h (Nat.lt_irrefl _)⟩
 | a::L,b::L',ak,h=>by
  obtain ⟨h1,af⟩:=Qm L L' (by simpa using ak) λi=>by simpa [mD] using h (i+1)
  have aR:a.length<=b.length:=by simpa [mD] using h 0
  have cz:ji (a::L)=a.length+ji L:=by simp [ji]
  have cf:ji (b::L')=b.length+ji L':=by simp [ji]
  rw [cz,cf];refine ⟨by omega,λ⟨i,hi⟩=>?_⟩;cases i with
  | zero =>
   have:a.length<b.length:=by simpa [mD] using hi
   omega
  | succ i =>
   have:=af ⟨i,by simpa [mD] using hi⟩;omega
def Sets (T:Nat) (L:List (List Int)):Prop:=∀ r∈L,jn T r
theorem Ql {T:Nat}:∀ {L:List (List Int)},Sets T L->ji L<=L.length * T
 | [],_=>by simp [ji]
 | a::L,h=>by
  have h1:=(h a (by simp)).len;have af:=Ql (L:=L) λr ao=>h r (by simp [ao]);have cz:ji (a::L)=a.length+ji L:=by simp [ji]
  rw [cz,List.length_cons,Nat.succ_mul]; omega
structure pc (T:Nat) (L L':List (List Int)):Prop where
 n:L'.length=L.length
 s:Sets T L'
 u:∀ i,mD L i<=mD L' i
theorem pc.refl {T:Nat}{L:List (List Int)}(h:Sets T L):pc T L L:=⟨rfl,h,λ_=>Nat.le_refl _⟩
theorem pc.trans {T:Nat}{A B C:List (List Int)}(h:pc T A B) (aQ:pc T B C):pc T A C:=⟨aQ.n.trans h.n,aQ.s,λi=>Nat.le_trans (h.u i) (aQ.u i)⟩
theorem pc.set {T:Nat}{L:List (List Int)}{k:Nat}{r dm:List Int}(aC:Sets T L) (hk:L[k]?=some r) (h:jn T dm) (ak:r.length<=dm.length):pc T L (L.set k dm):=by
 have fy:=(List.getElem?_eq_some_iff.1 hk).1;refine ⟨List.length_set ..,λx J=>?_,λi=>?_⟩
 ·rcases List.mem_or_eq_of_mem_set J with aQ | aQ
  ·exact aC x aQ
  grind
 grind [mD]
theorem WN {L:List (List Int)}{k:Nat}{r:List Int}(h:L[k]?=some r):mD L k=r.length:=by
 grind [mD]
theorem WL {α:Type}{l:List α}{i:Int}{y:α}(h:idx l i=some y):l[i.toNat]?=some y:=by
 grind [idx]
theorem L5 (T:Nat) (dL:T<=1000) (a0 aE:List (List Int)) (aF:a0.length<=9600) (he:aE.length=a0.length) (aR:Sets T a0) (h1:Sets a0.length aE):Tot (Am a0 aE) λr=>r.length=a0.length/\Sets T r:=by
 unfold Am;refine .aB (Ξ:=λr:List (List Int)=>r.length=a0.length/\Sets T r) ?_ λr ao=>.aq ao;have av:a0.length * T<=9600 * 1000:=Nat.mul_le_mul aF dL;refine Tot.loop (λs=>s.1.length=a0.length/\Sets T s.1) (λs=>2 * (a0.length * T - ji s.1)+s.2.toNat) ⟨rfl,aR⟩ (by
  show 2 * (a0.length * T - ji _)+1<1000000000000000000;omega) λs aC=>?_
 obtain ⟨L,f⟩:=s;obtain ⟨ak,aC⟩:=aC;simp only at ak aC ⊢;refine Tot.bF (λaW=>?_) (λ_=>.aq ⟨ak,aC⟩);subst aW;refine .aB (Ξ:=λr:List (List Int) × Bool=>pc T L r.1/\(r.2=true->∃ i,mD L i<mD r.1 i)) ?_ λr ao=>?_
 ·refine Tot.upto (λs=>s.2.2) L.length (λ_ s=>pc T L s.1/\(s.2.1=true->∃ i,mD L i<mD s.1 i)) rfl (by omega) ⟨.refl aC,λh=>by cases h⟩ λk s hk h8 bf=>?_;obtain ⟨C,f,i⟩:=s;obtain ⟨hu,sL⟩:=bf;simp only at h8 hu sL ⊢;subst h8;rw [eR k (by omega)];have N_:=hu.n;refine Tot.br (λaT=>?_) (λdU=>.aq ⟨hu,sL⟩);have NM:k<C.length:=by omega
  have hb:k<aE.length:=by omega
  have ab_:C[k]?=some C[k]:=List.getElem?_eq_getElem NM;have qu:=h1 _ (List.getElem_mem hb);rw [eu hb,eu NM];generalize aE[k]=row at *;generalize C[k]=nj at *;simp only [Option.bind_some];have l8:=qu.len;refine .aB (Ξ:=λD:List (List Int)=>pc T C D) ?_ λD jK=>?_
  ·refine Tot.upto (λs=>s.2) row.length (λ_ s=>pc T C s.1) rfl (by omega) (.refl hu.s) λj s ah h8 bf=>?_;obtain ⟨D,i⟩:=s;simp only at h8 bf ⊢;subst h8;rw [eR j (by omega)];have T6:=bf.n;refine Tot.br (λaT=>?_) (λ_=>.aq bf);have aT:j<row.length:=by omega
   have ax:=qu.i _ (List.getElem_mem aT);rw [eu aT];generalize row[j]=y at *;simp only [Option.bind_some];refine .aB (Ξ:=λE:List (List Int)=>pc T C E) ?_ λE k8=>.aq ⟨aT,rfl,k8⟩;refine Tot.count (λs=>s.2) T (λs=>∃ n:Nat,s.2=(n:Int)/\pc T C s.1) ⟨0,rfl,bf⟩ (by show (T:Int) - 0<_; omega) λs aC=>?_;obtain ⟨E,i⟩:=s;obtain ⟨n,EF,k8⟩:=aC;simp only at EF k8 ⊢;subst EF;have abW:=k8.n;obtain ⟨z,aY,WI⟩:=oo (l:=E) (i:=y) ax.1 (by omega);have pJ:=k8.s z WI;have vy:=pJ.len;have Iy:k<E.length:=by omega
   have Vf:E[k]?=some E[k]:=List.getElem?_eq_getElem Iy;rw [aY];simp only [Option.bind_some];refine Tot.br (λaT=>?_) (λ_=>.aq k8);have aT:n<z.length:=by omega
   rw [eR n (by omega),eu Iy,eu aT];simp only [Option.bind_some];refine .aB ((k8.s _ (List.getElem_mem Iy)).put (by omega) (pJ.i _ (List.getElem_mem aT))) λdm ec=>.aq ⟨⟨n+1,rfl,?_⟩,by show (n:Int)<((n+1:Nat):Int); omega,by show ((n+1:Nat):Int)<=T; omega⟩;exact k8.trans (.set k8.s Vf ec.1 ec.2)
  ·have T6:=jK.n;have NN:k<D.length:=by omega
   have ab':D[k]?=some D[k]:=List.getElem?_eq_getElem NN;have zy:=hu.trans jK;refine .aB (Ξ:=λc:Bool=>c=true->∃ i,mD L i<mD D i) ?_ λc aa=>.aq ⟨by omega,rfl,zy,aa⟩;refine Tot.bF (λaW=>.aq λ_=>?_) (λ_=>?_)
   ·obtain ⟨i,hi⟩:=sL aW;exact ⟨i,Nat.lt_of_lt_of_le hi (jK.u i)⟩
   ·rw [eu NN];refine Tot.aV (.aq λh=>⟨k,?_⟩);have aI:=jK.u k;have bK:=hu.u k
    grind [WN]
 ·obtain ⟨hu,aW⟩:=ao;have B4:=hu.n;obtain ⟨aI,bK⟩:=Qm L r.1 B4.symm hu.u;have cH:=Ql hu.s;rw [show r.1.length=a0.length by omega] at cH;refine .aq ⟨⟨by show r.1.length=_; omega,hu.s⟩,?_⟩;show 2 * (a0.length * T - ji r.1)+r.2.toNat<2 * (a0.length * T - ji L)+true.toNat;cases iP:r.2 with
  | false=>simp only [Bool.toNat_false,Bool.toNat_true]; omega
  | true =>
   grind
theorem mK.sym {g:bO}(aO:hf g) {m:List State}(hm:mK g m) {st:State}(b1:st∈m) {v:Move}(hv:v∈st.eV):0<=v.Sym/\(v.Sym<1000->v.Sym<g.ba.length)/\(1000<=v.Sym->v.Sym - 1000<g.b3.length):=by
 have aw:=aO.kW;rcases W8.1 (hm.aX st b1 v hv).s with h | h
 ·exact ⟨h.1,λ_=>h.2,λaQ=>by omega⟩
 ·exact ⟨by omega,λaQ=>by omega,λ_=>by omega⟩
theorem uY.go {g:bO}{m:List State}(hm:mK g m) {t:Trans}(h:uY m t):Tot (rr m t.State t.fF) λr=>0<=r/\r<m.length:=by
 obtain ⟨st,v,h1,af,aI,_⟩:=h;exact (D_ m t.State t.fF hm.xH).use λr ao=>ao.yes hm h1 af aI
theorem PZ {T:Nat}{L:List (List Int)}{r:List Int}(h:Sets T L) (ao:jn T r):Sets T (L++[r]):=λx J=>by
 rcases List.mem_append.1 J with J | J
 ·exact h x J
 ·rw [List.mem_singleton.1 J]; exact ao
theorem Sg (g:bO) (aO:hf g) {m:List State}(hm:mK g m):Tot (C8 m) λr=>∃ dC,qH m=some dC/\wu m dC/\r.length=dC.length/\Sets g.ba.length r:=by
 have aw:=aO.kW;obtain ⟨dC,qk,iG⟩:=Sj hm;have xh:=iG.n;unfold C8;rw [qk];refine Tot.aV (.aB (Ξ:=λr:List (List Int)=>r.length=dC.length/\Sets g.ba.length r) ?_ λr ao=>.aq ⟨dC,rfl,iG,ao⟩);refine Tot.upto (λs=>s.2) dC.length (λk s=>s.1.length=k/\Sets g.ba.length s.1) rfl (by omega) ⟨rfl,λr h=>by cases h⟩ λk s hk he bf=>?_;obtain ⟨L,i⟩:=s;obtain ⟨h1,af⟩:=bf;simp only at he h1 af ⊢;subst he;rw [eR k (by omega)];refine Tot.br (λaT=>?_) (λdU=>.aq ⟨by show L.length=_; omega,af⟩);have aT:k<dC.length:=by omega
 have gm:=iG.ok _ (List.getElem_mem aT);rw [eu aT];generalize dC[k]=t at *;simp only [Option.bind_some];refine .aB (gm.go hm) λto B_=>?_;obtain ⟨st,b1,nM⟩:=oo B_.1 B_.2;have dj:=hm.qC st nM;have vl:=hm.xH st nM;rw [b1];simp only [Option.bind_some];refine .aB (RZ _ (by have:=dj.len aO; omega)) λc _=>?_;refine .aB (Ξ:=jn g.ba.length) (Tot.bF (λ_=>?_) (λ_=>.aq .nil)) λAs zu=>?_
 ·refine .aB (Ξ:=λ_=>True) (Tot.ap (by simp [lim]) trivial) λ_ _=>.aq ⟨List.pairwise_singleton ..,λx J=>?_⟩;rw [List.mem_singleton.1 J]; omega
 refine .aB (Ξ:=jn g.ba.length) ?_ λr ao=>?_
 ·refine Tot.upto (λs=>s.2) st.eV.length (λk s=>jn g.ba.length s.1) rfl (by omega) zu λj s ah he bf=>?_;obtain ⟨r,i⟩:=s;simp only at he bf ⊢;subst he;rw [eR j (by omega)];refine Tot.br (λaT=>?_) (λ_=>.aq bf);have aT:j<st.eV.length:=by omega
  have hv:=hm.sym aO nM (List.getElem_mem aT);rw [eu aT];generalize st.eV[j]=v at *;simp only [Option.bind_some];refine .aB (Ξ:=jn g.ba.length) ?_ λr ao=>.aq ⟨aT,rfl,ao⟩;refine .aB (Ξ:=jn g.ba.length) (Tot.br (λh=>?_) (λ_=>.aq bf)) λr ao=>.aq ao;exact .aB (bf.put (by omega) ⟨hv.1,hv.2.1 h⟩) λr ao=>.aq ao.1
 ·refine .aB (Ξ:=λ_=>True) (Tot.ap (by simp [lim]; omega) trivial) λ_ _=>.aq ⟨aT,rfl,by simp; omega,PZ af ao⟩
theorem Sh (g:bO) (aO:hf g) {m:List State}(hm:mK g m) {dC:List Trans}(qk:qH m=some dC) (iG:wu m dC):Tot (C9 g m) λr=>r.length=dC.length/\Sets dC.length r:=by
 have aw:=aO.kW;have kO:=aO.dz;have xh:=iG.n;unfold C9;rw [qk];refine Tot.aV (.aB (LY g aO) λB fm=>.aB (Ξ:=λr:List (List Int)=>r.length=dC.length/\Sets dC.length r) ?_ λr ao=>.aq ao);refine Tot.upto (λs=>s.2) dC.length (λk s=>s.1.length=k/\Sets dC.length s.1) rfl (by omega) ⟨rfl,λr h=>by cases h⟩ λk s hk he bf=>?_;obtain ⟨L,i⟩:=s;obtain ⟨h1,af⟩:=bf;simp only at he h1 af ⊢;subst he;rw [eR k (by omega)];refine Tot.br (λaT=>?_) (λdU=>.aq ⟨by show L.length=_; omega,af⟩);have aT:k<dC.length:=by omega
 have gm:=iG.ok _ (List.getElem_mem aT);rw [eu aT];generalize dC[k]=t at *;simp only [Option.bind_some];refine .aB (gm.go hm) λto B_=>?_;obtain ⟨st,b1,nM⟩:=oo B_.1 B_.2;have qv:=WL b1;have vl:=hm.xH st nM;rw [b1];simp only [Option.bind_some];refine .aB (Ξ:=jn dC.length) ?_ λr ao=>?_
 ·refine Tot.upto (λs=>s.2) st.eV.length (λk s=>jn dC.length s.1) rfl (by omega) .nil λj s ah he bf=>?_;obtain ⟨r,i⟩:=s;simp only at he bf ⊢;subst he;rw [eR j (by omega)];refine Tot.br (λaT=>?_) (λ_=>.aq bf);have aT:j<st.eV.length:=by omega
  have ER:=List.getElem_mem aT;have hv:=hm.sym aO nM ER;rw [eu aT];generalize st.eV[j]=v at *;simp only [Option.bind_some];refine .aB (Ξ:=jn dC.length) ?_ λr ao=>.aq ⟨aT,rfl,ao⟩;refine .aB (Ξ:=λc:Bool=>c=true->1000<=v.Sym) (Tot.br (λh=>?_) (λ_=>.aq λh=>by cases h)) λc aa=>?_
  ·have hw:aL (v.Sym - 1000)=v.Sym - 1000:=by
    have:=hv.2.2 h;rw [cJ]; omega
   rw [hw];obtain ⟨b,av,_⟩:=oo (l:=B) (i:=v.Sym - 1000) (by omega) (by have:=hv.2.2 h; omega);rw [av];exact Tot.aV (.aq λ_=>h)
  ·refine .aB (Ξ:=jn dC.length) (Tot.bF (λh=>?_) (λ_=>.aq bf)) λr ao=>.aq ao;have vj:=iG.fp to.toNat st v qv ER (aa h);rw [show ((to.toNat:Nat):Int)=to by omega] at vj;refine .aB (A_ dC to v.Sym xh) λz aY=>?_;exact .aB (bf.put (by omega) ⟨aY.2.2 vj,aY.2.1⟩) λr ao=>.aq ao.1
 ·refine .aB (Ξ:=λ_=>True) (Tot.ap (by simp [lim]; omega) trivial) λ_ _=>.aq ⟨aT,rfl,by simp; omega,PZ af ao⟩
theorem Si (g:bO) (aO:hf g) {m:List State}(hm:mK g m) {dC:List Trans}(qk:qH m=some dC) (iG:wu m dC):Tot (C_ g m) λr=>r.length=dC.length/\Sets dC.length r:=by
 have aw:=aO.kW;have kO:=aO.dz;have ue:=aO.h';have xh:=iG.n;unfold C_;rw [qk];refine Tot.aV (.aB (LY g aO) λB fm=>.aB (Ξ:=λr=>r=List.replicate dC.length ([]:List Int)) (Tot.mk (by simp [lim]; omega) (by simp)) λZC Ue=>.aB (Ξ:=λr:List (List Int)=>r.length=dC.length/\Sets dC.length r) ?_ λr ao=>.aq ao);subst Ue;have Zz:∀ {L:List (List Int)},(L.length=dC.length/\Sets dC.length L)->∀ {z:Int}{r dm:List Int},idx L z=some r->jn dC.length dm->(L.set z.toNat dm).length=dC.length/\Sets dC.length (L.set z.toNat dm):=λ{L} h6 {z r dm} _ ec=>⟨by rw [List.length_set]; exact h6.1,λx J=>by
  rcases List.mem_or_eq_of_mem_set J with aQ | aQ
  ·exact h6.2 x aQ
  ·rw [aQ]; exact ec⟩
 refine Tot.upto (λs=>s.2) dC.length (λk s=>s.1.length=dC.length/\Sets dC.length s.1) rfl (by omega) ⟨by simp,λr h=>by rw [List.eq_of_mem_replicate h]; exact .nil⟩ λk s hk he bf=>?_;obtain ⟨L,i⟩:=s;simp only at he bf ⊢;subst he;rw [eR k (by omega)];refine Tot.br (λaT=>?_) (λdU=>.aq bf);have aT:k<dC.length:=by omega
 have gm:=iG.ok _ (List.getElem_mem aT);rw [eu aT];generalize dC[k]=t at *;simp only [Option.bind_some];refine .aB (Ξ:=λr:List (List Int)=>r.length=dC.length/\Sets dC.length r) ?_ λr ao=>.aq ⟨aT,rfl,ao⟩;refine Tot.upto (λs=>s.2) g.bj.length (λk s=>s.1.length=dC.length/\Sets dC.length s.1) rfl (by omega) bf λp s au he bf=>?_;obtain ⟨L,i⟩:=s;simp only at he bf ⊢;subst he;rw [eR p (by omega)];refine Tot.br (λEE=>?_) (λdU=>.aq bf);have EE:p<g.bj.length:=by omega
 have mZ:=List.getElem_mem EE;rw [eu EE];generalize g.bj[p]=q at *;have bg:=aO.hq q mZ;have B4:=aO.aH q mZ;have lM:=Py aO mZ fm;simp only [Option.bind_some];refine .aB (Ξ:=λr:List (List Int)=>r.length=dC.length/\Sets dC.length r) ?_ λr ao=>.aq ⟨EE,rfl,ao⟩;refine Tot.bF (λ_=>.aq bf) (λ_=>.aB (Ξ:=λr:List (List Int)=>r.length=dC.length/\Sets dC.length r) ?_ λr ao=>.aq ao);refine Tot.upto (λs=>s.2) q.eI.length (λk s=>s.1.length=dC.length/\Sets dC.length s.1) rfl (by omega) bf λj s ah he bf=>?_;obtain ⟨L,i⟩:=s;simp only at he bf ⊢;subst he;rw [eR j (by omega)];refine Tot.br (λeE=>?_) (λdU=>.aq bf);have eE:j<q.eI.length:=by omega
 rw [eu eE];generalize q.eI[j]=y at *;simp only [Option.bind_some];refine .aB (Ξ:=λr:List (List Int)=>r.length=dC.length/\Sets dC.length r) ?_ λr ao=>.aq ⟨eE,rfl,ao⟩;refine .aB (Ξ:=λ_=>True) (Tot.br (λ_=>.aq trivial) (λ_=>?_)) λc _=>Tot.bF (λ_=>.aq bf) (λ_=>?_)
 ·refine .aB (Ξ:=λr=>r=q.eI.drop (j+1)) (Tot.sub ⟨by omega,by omega,by omega⟩ ?_) λr ao=>?_
  ·rw [List.take_of_length_le]
   ·congr 1
   ·rw [List.length_drop]; omega
  ·subst ao;exact .aB (LZ B _ (by rw [List.length_drop]; omega) (λs aC=>lM s (List.mem_of_mem_drop aC)) (by omega)) λ_ _=>.aq trivial
 refine .aB (Ξ:=λr=>r.length<=8) (Tot.sub ⟨by omega,by omega,by omega⟩ (by rw [List.length_take,List.length_drop]; omega)) λr ao=>?_;obtain ⟨st,_,b1,_⟩:=gm;have IU:=nb b1;refine .aB (L6 hm t.State r ⟨by omega,IU.2.1⟩ (by omega)) λz aY=>?_;refine .aB (Ξ:=λr:List (List Int)=>r.length=dC.length/\Sets dC.length r) (Tot.bF (λ_=>?_) (λ_=>.aq bf)) λr ao=>.aq ao;refine .aB (A_ dC z y xh) λn aF=>?_;refine .aB (Ξ:=λr:List (List Int)=>r.length=dC.length/\Sets dC.length r) (Tot.br (λaR=>?_) (λ_=>.aq bf)) λr ao=>.aq ao;obtain ⟨As,zu,zw⟩:=oo (l:=L) aR (by rw [bf.1]; exact aF.2.1);rw [zu];refine Tot.aV (.aB ((bf.2 As zw).put (by omega) ⟨by omega,by omega⟩) λdm ec=>.aq (Zz bf zu ec.1))
theorem R9 (g:bO) (aO:hf g) {m:List State}(hm:mK g m):Tot (Aj g m) λr=>∃ dC,qH m=some dC/\wu m dC/\r.length=dC.length/\Sets g.ba.length r:=by
 have aw:=aO.kW;unfold Aj;refine .aB (Sg g aO hm) λs' h1=>?_;obtain ⟨dC,qk,iG,IC,xg⟩:=h1;have xh:=iG.n;refine .aB (Sh g aO hm qk iG) λj1 af=>.aB (L5 g.ba.length (by omega) s' j1 (by omega) (by omega) xg (by rw [IC]; exact af.2)) λAu aI=>?_;refine .aB (Si g aO hm qk iG) λx9 bK=>.aB (L5 g.ba.length (by omega) Au x9 (by omega) (by omega) aI.2 (by rw [aI.1,IC]; exact bK.2)) λDh cH=>?_;exact .aq ⟨dC,qk,iG,by omega,cH.2⟩
def q1 (g:bO) (p:Int):Prop:=0<p/\p<g.bj.length
theorem Ba (g:bO) (aO:hf g) (K:List Item) (ak:K.length<=1000000):Tot (C1 g K) λr=>r.length<=540/\∀ p∈r,q1 g p:=by
 unfold C1;refine .aB (Hg g aO K ak) λc aa=>?_;have ha:=tx aO aa.1 λx J=>((aa.2 x).1 J).jf;refine .aB (Ξ:=λr:List Int=>r.length<=540/\∀ p∈r,q1 g p) ?_ λr ao=>.aq ao;refine Tot.upto (λs=>s.2) c.length (λk s=>s.1.length<=k/\∀ p∈s.1,q1 g p) rfl (by omega) ⟨Nat.le_refl 0,λp h=>by cases h⟩ λk s hk he bf=>?_;obtain ⟨L,i⟩:=s;obtain ⟨h1,af⟩:=bf;simp only at he h1 af ⊢;subst he;rw [eR k (by omega)];refine Tot.br (λaT=>?_) (λdU=>.aq ⟨by show L.length<=_; omega,af⟩);have aT:k<c.length:=by omega
 have hi:=((aa.2 _).1 (List.getElem_mem aT)).jf;rw [eu aT];generalize c[k]=x at *;obtain ⟨q,bg,aI,bK⟩:=hi;simp only [Option.bind_some];refine .aB (Ξ:=λL:List Int=>L.length<=k+1/\∀ p∈L,q1 g p) ?_ λr ao=>.aq ⟨aT,rfl,ao⟩;refine .aB (Ξ:=λc:Bool=>c=true->0<x.Prod) (Tot.br (λh=>?_) (λ_=>.aq λh=>by cases h)) λc aa=>?_
 ·rw [bg]; exact Tot.aV (.aq λ_=>h)
 refine .aB (Ξ:=λL:List Int=>L.length<=k+1/\∀ p∈L,q1 g p) (Tot.bF (λh=>?_) (λ_=>.aq ⟨by omega,af⟩)) λr ao=>.aq ao;refine .aB (Ξ:=λ_=>True) (Tot.ap (by simp [lim]; omega) trivial) λ_ _=>.aq ⟨by simp; omega,λp au=>?_⟩;rcases List.mem_append.1 au with au | au
 ·exact af p au
 ·rw [List.mem_singleton.1 au]; exact ⟨aa h,(nb bg).2.1⟩
theorem R_ (g:bO) (aO:hf g) {m:List State}(hm:mK g m) {dC:List Trans}(qk:qH m=some dC) (iG:wu m dC) (q p:Int):Tot (C2 g m q p) λr=>r.length<=9600/\∀ x∈r,0<=x/\x<dC.length:=by
 have xh:=iG.n;have ue:=aO.h';have kO:=aO.dz;unfold C2;refine .aB (Ξ:=λc:Bool=>c=false->0<=p/\p<g.bj.length) (Tot.br (λ_=>.aq λh=>by cases h) (λ_=>Tot.br (λ_=>.aq λh=>by cases h) (λ_=>Tot.br (λ_=>.aq λh=>by cases h) (λh=>.aq λaQ=>by have:=of_decide_eq_false aQ; omega)))) λc aa=>Tot.bF (λ_=>.aq ⟨Nat.zero_le _,λx h=>by cases h⟩) (λh=>?_);obtain ⟨aR,h1⟩:=aa h;rw [qk];refine Tot.aV ?_;refine .aB (Ξ:=λr:List Int=>r.length<=9600/\∀ x∈r,0<=x/\x<dC.length) ?_ λr ao=>.aq ao;obtain ⟨hq,EK,VI⟩:=oo aR h1;have B4:=aO.aH hq VI;refine Tot.upto (λs=>s.2) dC.length (λk s=>s.1.length<=k/\∀ x∈s.1,0<=x/\x<dC.length) rfl (by omega) ⟨Nat.le_refl 0,λp h=>by cases h⟩ λk s hk he bf=>?_;obtain ⟨L,i⟩:=s;obtain ⟨af,aI⟩:=bf;simp only at he af aI ⊢;subst he;rw [eR k (by omega)];refine Tot.br (λaT=>?_) (λdU=>.aq ⟨by show L.length<=_; omega,aI⟩);have aT:k<dC.length:=by omega
 have gm:=iG.ok _ (List.getElem_mem aT);rw [eu aT,EK];generalize dC[k]=t at *;obtain ⟨st,_,b1,_⟩:=gm;have IU:=nb b1;simp only [Option.bind_some];refine .aB (Ξ:=λL:List Int=>L.length<=k+1/\∀ x∈L,0<=x/\x<dC.length) ?_ λr ao=>.aq ⟨aT,rfl,ao⟩;refine .aB (Ξ:=λ_=>True) (Tot.br (λh=>?_) (λ_=>.aq trivial)) λc aa=>?_
 ·exact .aB (L6 hm t.State hq.eI ⟨by omega,IU.2.1⟩ (by omega)) λ_ _=>.aq trivial
 refine .aB (Ξ:=λL:List Int=>L.length<=k+1/\∀ x∈L,0<=x/\x<dC.length) (Tot.bF (λh=>?_) (λ_=>.aq ⟨by omega,aI⟩)) λr ao=>.aq ao;refine .aB (Ξ:=λ_=>True) (Tot.ap (by simp [lim]; omega) trivial) λ_ _=>.aq ⟨by simp; omega,λp au=>?_⟩;rcases List.mem_append.1 au with au | au
 ·exact aI p au
 ·rw [List.mem_singleton.1 au]; exact ⟨by omega,by omega⟩
structure yN (g:bO) (l:k2):Prop where
 p:q1 g l.Prod
 t:jn g.ba.length l.ba
theorem R4 (g:bO) (aO:hf g) {m:List State}(hm:mK g m):Tot (CZ g m) λr=>r.length<=81000/\∀ l∈r,yN g l:=by
 have aw:=aO.kW;have xd:=hm.nT;unfold CZ;refine .aB (R9 g aO hm) λF aN=>?_;obtain ⟨dC,qk,iG,abX,jL⟩:=aN;have xh:=iG.n;refine .aB (Ξ:=λr:List k2=>r.length<=81000/\∀ l∈r,yN g l) ?_ λr ao=>.aq ao;refine Tot.upto (λs=>s.2) m.length (λk s=>s.1.length<=540 * k/\∀ l∈s.1,yN g l) rfl (by omega) ⟨Nat.le_refl 0,λp h=>by cases h⟩ λk s hk he bf=>?_;obtain ⟨L,i⟩:=s;obtain ⟨h1,af⟩:=bf;simp only at he h1 af ⊢;subst he;rw [eR k (by omega)];refine Tot.br (λaT=>?_) (λdU=>.aq ⟨by show L.length<=_; omega,af⟩);have aT:k<m.length:=by omega
 have dj:=hm.qC _ (List.getElem_mem aT);rw [eu aT];generalize m[k]=st at *;refine Tot.aV (.aB (Ba g aO st.Kernel (by have:=dj.len aO; omega)) λE k8=>?_);obtain ⟨abV,T7⟩:=k8;refine .aB (Ξ:=λL:List k2=>L.length<=540 * (k+1)/\∀ l∈L,yN g l) ?_ λr ao=>.aq ⟨aT,rfl,ao⟩;refine Tot.upto (λs=>s.2) E.length (λj s=>s.1.length<=540 * k+j/\∀ l∈s.1,yN g l) rfl (by omega) ⟨h1,af⟩ λj s ah he bf=>?_;obtain ⟨L,i⟩:=s;obtain ⟨h1,af⟩:=bf;simp only at he h1 af ⊢;subst he;rw [eR j (by omega)];refine Tot.br (λeE=>?_) (λdU=>.aq ⟨by show L.length<=_; omega,af⟩);have eE:j<E.length:=by omega
 have au:=T7 _ (List.getElem_mem eE);rw [eu eE];generalize E[j]=p at *;simp only [Option.bind_some];refine .aB (R_ g aO hm qk iG k p) λB fm=>?_;obtain ⟨abS,T4⟩:=fm;refine .aB (Ξ:=jn g.ba.length) ?_ λS bl=>?_
 ·refine Tot.upto (λs=>s.2) B.length (λ_ s=>jn g.ba.length s.1) rfl (by omega) .nil λb s av he bf=>?_;obtain ⟨S,i⟩:=s;simp only at he bf ⊢;subst he;rw [eR b (by omega)];refine Tot.br (λzq=>?_) (λdU=>.aq bf);have zq:b<B.length:=by omega
  have J:=T4 _ (List.getElem_mem zq);rw [eu zq];generalize B[b]=x at *;obtain ⟨row,qu,zw⟩:=oo (l:=F) J.1 (by omega);have l9:=jL row zw;have l8:=l9.len;simp only [Option.bind_some,qu];refine .aB (Ξ:=jn g.ba.length) ?_ λS bl=>.aq ⟨zq,rfl,bl⟩;refine Tot.upto (λs=>s.2) row.length (λ_ s=>jn g.ba.length s.1) rfl (by omega) bf λz s aY he bf=>?_;obtain ⟨S,i⟩:=s;simp only at he bf ⊢;subst he;rw [eR z (by omega)];refine Tot.br (λqs=>?_) (λdU=>.aq bf);have qs:z<row.length:=by omega
  rw [eu qs];exact Tot.aV (.aB (bf.put (by omega) (l9.i _ (List.getElem_mem qs))) λr ao=>.aq ⟨qs,rfl,ao.1⟩)
 ·refine .aB (Ξ:=λ_=>True) (Tot.ap (by simp [lim]; omega) trivial) λ_ _=>.aq ⟨eE,rfl,by simp; omega,λl ak=>?_⟩;rcases List.mem_append.1 ak with ak | ak
  ·exact af l ak
  ·rw [List.mem_singleton.1 ak]; exact ⟨au,bl⟩
def ow (c:Cell):Nat:=c.bj.length+(if 0<=c.j6 then 1 else 0)+(if c.lY then 1 else 0)
theorem Y4 {x:Option Int}{c:Cell}(ak:c.bj.length<=1000) (e:x=(((bif decide (0<=c.j6) then
some (aL ((c.bj.length:Int)+1))
else
some (c.bj.length:Int))).bind λjt =>
((bif c.lY then
some (aL (jt+1))
else
some jt)).bind λiv =>
some iv)):x=some (ow c:Int):=by
 subst e;have hw:aL ((c.bj.length:Int)+1)=(c.bj.length:Int)+1:=by rw [cJ]; omega
 have Wc:aL ((c.bj.length:Int)+1+1)=(c.bj.length:Int)+1+1:=by rw [cJ]; omega
 unfold ow;by_cases h:0<=c.j6
 ·cases af:c.lY <;> simp [h,hw,Wc]
 ·cases af:c.lY <;> simp [h,hw]
theorem Mp (c:Cell) (ak:c.bj.length<=1000):Af c=some (ow c:Int):=Y4 ak (by unfold Af; rfl)
structure o8 (g:bO) (n:Nat) (c:Cell):Prop where
 s:0<=c.State/\c.State<n
 t:0<=c.bX/\c.bX<g.ba.length
 f:-1<=c.j6/\c.j6<n
 p:fR iS c.bj
 q:∀ p∈c.bj,q1 g p
 Y0:0<ow c
theorem o8.len {g:bO}(aO:hf g) {n:Nat}{c:Cell}(h:o8 g n c):c.bj.length<=60:=by
 have:=aO.h';have:=jn.len (T:=g.bj.length) ⟨h.p,λx J=>⟨by have:=(h.q x J).1; omega,(h.q x J).2⟩⟩;omega
def yB (a b:Cell):Prop:=a.State<b.State\/(a.State=b.State/\a.bX<b.bX)
structure AP (g:bO) (n:Nat) (l:List Cell):Prop where
 ok:∀ c∈l,o8 g n c
 acU:l.Pairwise yB
 n:l.length<=6000
theorem A' (g:bO) (aO:hf g) {m:List State}(hm:mK g m) (qD:List k2) (ak:qD.length<=81000) (hk:∀ l∈qD,yN g l):Tot (CY g m qD) (AP g m.length):=by
 have aw:=aO.kW;have xd:=hm.nT;have ue:=aO.h';unfold CY;refine .aB (Ξ:=AP g m.length) ?_ λr ao=>.aq ao;refine Tot.upto (λs=>s.2) m.length (λk s=>s.1.length<=40 * k/\(∀ c∈s.1,o8 g m.length c)/\s.1.Pairwise yB/\∀ c∈s.1,c.State<k) rfl (by omega) ⟨Nat.le_refl 0,λp h=>(by cases h),.nil,λp h=>by cases h⟩ λk s xa he bf=>?_;obtain ⟨L,i⟩:=s;obtain ⟨h1,af,aI,bK⟩:=bf;simp only at he h1 af aI bK ⊢;subst he;rw [eR k (by omega)];refine Tot.br (λaT=>?_) (λdU=>.aq ⟨af,aI,by show L.length<=_; omega⟩);have aT:k<m.length:=by omega
 have dj:=hm.qC _ (List.getElem_mem aT);rw [eu aT];generalize m[k]=st at *;have ab0:=dj.len aO;refine .aB (Ξ:=λL:List Cell=>L.length<=40 * (k+1)/\(∀ c∈L,o8 g m.length c)/\L.Pairwise yB/\∀ c∈L,c.State<(k+1:Nat)) ?_ λr ao=>.aq ⟨aT,rfl,ao⟩;refine Tot.upto (λs=>s.2) g.ba.length (λj s=>s.1.length<=40 * k+j/\(∀ c∈s.1,o8 g m.length c)/\s.1.Pairwise yB/\∀ c∈s.1,c.State<k\/(c.State=k/\c.bX<j)) rfl (by omega) ⟨h1,af,aI,λc aa=>.inl (bK c aa)⟩ λj s ah he bf=>?_;obtain ⟨L,i⟩:=s;obtain ⟨h1,af,aI,bK⟩:=bf;simp only at he h1 af aI bK ⊢;subst he;rw [eR j (by omega)];refine Tot.br (λeE=>?_) (λdU=>.aq ⟨by show L.length<=_; omega,af,aI,λc aa=>by rcases bK c aa with h | h <;> omega⟩);refine .aB (Ξ:=λL:List Cell=>L.length<=40 * k+(j+1)/\(∀ c∈L,o8 g m.length c)/\L.Pairwise yB/\∀ c∈L,c.State<k\/(c.State=k/\c.bX<(j+1:Nat))) ?_ λr ao=>.aq ⟨by omega,rfl,ao⟩;refine .aB (D_ m k j hm.xH) λeQ VW=>?_;have VX:=VW.aJ hm;refine .aB (Ξ:=λ_=>True) ?_ λac _=>?_
 ·refine Tot.upto (λs=>s.2) st.Kernel.length (λ_ _=>True) rfl (by omega) trivial λz s aY he _=>?_;obtain ⟨b,i⟩:=s;simp only at he ⊢;subst he;rw [eR z (by omega)];simp only [Option.bind_some];refine Tot.br (λqs=>?_) (λ_=>.aq trivial);have qs:z<st.Kernel.length:=by omega
  rw [eu qs];simp only [Option.bind_some];refine .aB (Ξ:=λ_=>True) (Tot.bF (λ_=>.aq trivial) (λ_=>Tot.br (λ_=>Tot.br (λ_=>.aq trivial) (λ_=>.aq trivial)) (λ_=>.aq trivial))) λ_ _=>.aq ⟨qs,rfl,trivial⟩
 refine .aB (Ξ:=λP:List Int=>fR iS P/\∀ p∈P,q1 g p) ?_ λP cx=>?_
 ·refine Tot.upto (λs=>s.2) qD.length (λ_ s=>fR iS s.1/\∀ p∈s.1,q1 g p) rfl (by omega) ⟨.nil,λp h=>by cases h⟩ λz s aY he bf=>?_;obtain ⟨P,i⟩:=s;obtain ⟨g1,g2⟩:=bf;simp only at he g1 g2 ⊢;subst he;rw [eR z (by omega)];refine Tot.br (λqs=>?_) (λdU=>.aq ⟨g1,g2⟩);have qs:z<qD.length:=by omega
  have h6:=hk _ (List.getElem_mem qs);rw [eu qs];generalize qD[z]=l at *;have V3:=h6.t.len;have Um:=jn.len (T:=g.bj.length) ⟨g1,λx J=>⟨by have:=(g2 x J).1; omega,(g2 x J).2⟩⟩;simp only [Option.bind_some];refine .aB (Ξ:=λP:List Int=>fR iS P/\∀ p∈P,q1 g p) ?_ λr ao=>.aq ⟨qs,rfl,ao⟩;refine .aB (Ξ:=λ_=>True) (Tot.br (λ_=>.aB (L2 l.ba j (by omega)) λ_ _=>.aq trivial) (λ_=>.aq trivial)) λc _=>?_;refine .aB (Ξ:=λP:List Int=>fR iS P/\∀ p∈P,q1 g p) (Tot.bF (λ_=>?_) (λ_=>.aq ⟨g1,g2⟩)) λr ao=>.aq ao;refine .aB (D' P l.Prod g1 (by omega)) λr ao=>.aq ⟨ao.1,λp au=>?_⟩;rcases (ao.2.2 p).1 au with h | rfl
  ·exact g2 p h
  ·exact h6.p
 ·have Um:=jn.len (T:=g.bj.length) ⟨cx.1,λx J=>⟨by have:=(cx.2 x J).1; omega,(cx.2 x J).2⟩⟩;rw [Mp _ (by show P.length<=_; omega)];refine Tot.aV (.aB (Ξ:=λL:List Cell=>L.length<=40 * k+(j+1)/\(∀ c∈L,o8 g m.length c)/\L.Pairwise yB/\∀ c∈L,c.State<k\/(c.State=k/\c.bX<(j+1:Nat))) (Tot.br (λaR=>?_) (λ_=>.aq ⟨by omega,af,aI,λc aa=>by rcases bK c aa with h | h <;> omega⟩)) λr ao=>.aq ao);refine .aB (Ξ:=λ_=>True) (Tot.ap (by simp [lim]; omega) trivial) λ_ _=>.aq ⟨by simp; omega,λc aa=>?_,List.pairwise_append.2 ⟨aI,List.pairwise_singleton ..,λa aP b av=>?_⟩,λc aa=>?_⟩
  ·rcases List.mem_append.1 aa with aa | aa
   ·exact af c aa
   ·rw [List.mem_singleton.1 aa];exact ⟨⟨by show (0:Int)<=k; omega,by show (k:Int)<_; omega⟩,⟨by show (0:Int)<=j; omega,by show (j:Int)<_; omega⟩,VX,cx.1,cx.2,by omega⟩
  ·rw [List.mem_singleton.1 av];rcases bK a aP with h | h
   ·exact .inl h
   ·exact .inr h
  ·rcases List.mem_append.1 aa with aa | aa
   ·rcases bK c aa with h | h
    ·exact .inl h
    ·exact .inr ⟨h.1,by omega⟩
   ·rw [List.mem_singleton.1 aa];exact .inr ⟨rfl,by show (j:Int)<_; omega⟩
open Go Go.Own
theorem iL.W9 {m:fJ}{T L:Nat}(h:iL m T L):k3 m (3+T) m.cb.length 0 0 :=
 ⟨h.gF,h.lo,h.hi,by have:=h.ty; omega,rfl,by rw [h.hz]; decide,by rw [h.hq]; exact Nat.le_refl 0,by rw [h.hq]; exact λp au=>absurd au (by simp),h.lvl,h.jw⟩
theorem t77 (s:Source) (av:rO s):Tot (vY s) λr=>r.2.1=0->hf r.1:=by
 unfold vY;refine .aB (t103 s av) λc aa=>Tot.bF (λ_=>.aq λh=>absurd h (by decide)) (λim=>?_);have ok:Ll s:=aa (by simpa using im);refine .aB (Tot.mk (by decide) (rfl:List.replicate (3:Int).toNat false=List.replicate (3:Int).toNat false)) λa7 js=>?_;have U9:=av.za;have B4:=av.aH
 -- declarations
 refine Tot.aB (Ξ:=λr=>iL r.1 (1001 * 1000) 0) ?_ λbT cH=>?_
 ·refine Tot.count (λz=>z.2.2) s.Decls.length (λz=>0<=z.2.2/\z.2.2<=s.Decls.length/\iL z.1 (1001 * z.2.2.toNat) 0/\z.1.ct<=z.2.2) ⟨Int.le_refl 0,by show (0:Int)<=_; omega,⟨by show a7.length=3; rw [<- js]; rfl,Nat.le_refl 3,Nat.le_refl 3,Nat.le_refl 0,Nat.le_refl 0,rfl,rfl,Int.le_refl 0,by show ∀ t∈[_,_,_],0<=bX.Level t; simp⟩,Int.le_refl 0⟩ (by show (s.Decls.length:Int) - 0<_; omega) λz aY=>?_;obtain ⟨m,st,i⟩:=z;obtain ⟨aR,h1,hm,pB⟩:=aY;simp only at aR h1 hm pB ⊢;have hw:aL (i+1)=i+1:=by rw [cJ]; omega
  rw [hw];have IB:=hm.lvl;refine Tot.br (λaT=>?_) (λ_=>.aq (hm.mono (by omega) (Nat.le_refl _)));refine .aB (Tot.hj (Φ:=λy=>y∈s.Decls) aR aT λy _ ax=>ax) λd aS=>?_;have jK:=av.decls d aS;have zl:=jK.n;refine .aB (Ξ:=λ_=>True) (Tot.bF (λ_=>.aq trivial) (λ_=>.aq trivial)) λik _=>.aB (Ξ:=λj=>0<=j/\j<=i+1) (Tot.bF (λ_=>.aq (by rw [cJ]; omega)) (λ_=>.aq (by omega))) λju ze=>?_;refine Tot.aB (Ξ:=λr=>iL r.1 (1001 * i.toNat+1000) 0/\r.1.ct<=i+1) ?_ λeg sH=>.aq ⟨⟨?_,?_,?_,?_⟩,?_,?_⟩
  ·refine Tot.count (λz=>z.2.2) d.eM.length (λz=>0<=z.2.2/\z.2.2<=d.eM.length/\iL z.1 (1001 * i.toNat+z.2.2.toNat) 0/\z.1.ct<=i+1) ⟨Int.le_refl 0,by show (0:Int)<=_; omega,⟨hm.gF,hm.lo,hm.hi,hm.ty,hm.fz,hm.hq,hm.hz,ze.1,hm.jw⟩,ze.2⟩ (by show (d.eM.length:Int) - 0<_; omega) λz aY=>?_;obtain ⟨m,st,k⟩:=z;obtain ⟨g0,g1,hm,pB⟩:=aY;simp only at g0 g1 hm pB ⊢;have qw:aL (k+1)=k+1:=by rw [cJ]; omega
   rw [qw];refine Tot.br (λxb=>?_) (λ_=>.aq ⟨hm.mono (by omega) (Nat.le_refl _),pB⟩);have E5:Tot (idx d.eM k) λy=>y∈d.eM:=Tot.hj g0 xb λy _ ax=>ax;refine Tot.aB (Ξ:=λj=>iL j.1 (1001 * i.toNat+k.toNat+1) 0/\j.1.ct<=i+1) ?_ λj ah=>.aq ⟨⟨?_,?_,?_,ah.2⟩,?_,?_⟩
   ·refine Tot.bF (λ_=>?_) (λ_=>?_)
    ·refine .aB E5 λx J=>.aB (t104 m d x hm.gF (by have:=hm.hi; omega) (by have:=hm.ty; omega) (ok.decls d aS x J)) λm' aO=>.aq ⟨hm.grow aO,by show m'.ct<=_; rw [aO.lvl]; exact pB⟩
    ·refine Tot.aB (Ξ:=λj=>iL j (1001 * i.toNat+k.toNat+1) 0/\j.ct<=i+1) ?_ λj ah=>.aB E5 λ_ _=>.aq ah;refine Tot.bF (λ_=>?_) (λ_=>.aq ⟨hm.mono (by omega) (Nat.le_refl _),pB⟩);exact .aB E5 λ_ _=>.aB E5 λ_ _=>.aB (t105 m _ _) λm' iq=>.aq ⟨(hm.same iq.1).mono (by omega) (Nat.le_refl _),by rw [iq.1.jw]; exact pB⟩
   ·show 0<=k+1; omega
   ·show k+1<=(d.eM.length:Int); omega
   ·show iL j.1 (1001 * i.toNat+(k+1).toNat) 0;exact ah.1.mono (by omega) (Nat.le_refl _)
   ·show k<k+1; omega
   ·show k+1<=(d.eM.length:Int); omega
  ·show 0<=i+1; omega
  ·show i+1<=(s.Decls.length:Int); omega
  ·show iL eg.1 (1001 * (i+1).toNat) 0;exact sH.1.mono (by omega) (Nat.le_refl _)
  ·exact sH.2
  ·show i<i+1; omega
  ·show i+1<=(s.Decls.length:Int); omega
 -- what stands on the left
 refine Tot.aB (Ξ:=λr=>iL r (1001 * 1000) 1000) ?_ λcX HK=>?_
 ·refine Tot.count (λz=>z.2) s.dG.length (λz=>0<=z.2/\z.2<=s.dG.length/\iL z.1 (1001 * 1000) z.2.toNat) ⟨Int.le_refl 0,by show (0:Int)<=_; omega,cH⟩ (by show (s.dG.length:Int) - 0<_; omega) λz aY=>?_;obtain ⟨m,i⟩:=z;obtain ⟨aR,h1,hm⟩:=aY;simp only at aR h1 hm ⊢;have hw:aL (i+1)=i+1:=by rw [cJ]; omega
  rw [hw];refine Tot.br (λaT=>?_) (λ_=>.aq (hm.mono (Nat.le_refl _) (by omega)));have vi:=hm.hi;have vk:=hm.fz;refine Tot.aB (Ξ:=λj=>iL j (1001 * 1000) (i.toNat+1)) ?_ λj ah=>.aq ⟨⟨?_,?_,?_⟩,?_,?_⟩
  ·refine .aB (Tot.hj (Φ:=λ_=>True) aR aT λy _ ax=>trivial) λr ao=>.aB (t106 m _ (by simp only [dK]; omega)) λt _=>?_;refine Tot.aB (Ξ:=λj=>iL j (1001 * 1000) i.toNat) ?_ λiR pn=>?_
   ·exact Tot.bF (λ_=>.aB (t105 m _ _) λm' iq=>.aq (hm.same iq.1)) (λ_=>.aq hm)
   ·have acq:=pn.fz;refine .aB (t107 iR _ (by simp only [dK]; omega)) λk _=>?_;refine Tot.aB (Ξ:=λl=>l.length<=i.toNat+1) ?_ λl ak=>.aq ⟨pn.gF,pn.lo,pn.hi,pn.ty,ak,pn.hq,pn.hz,pn.lvl,pn.jw⟩;refine Tot.bF (λ_=>?_) (λ_=>.aq (by omega));exact .aB (Ξ:=λ_=>True) (Tot.ap (by simp [lim]; omega) trivial) λ_ _=>.aq (by simp; omega)
  ·show 0<=i+1; omega
  ·show i+1<=(s.dG.length:Int); omega
  ·show iL j (1001 * 1000) (i+1).toNat;exact ah.mono (Nat.le_refl _) (by omega)
  ·show i<i+1; omega
  ·show i+1<=(s.dG.length:Int); omega
 -- types and starts
 refine Tot.aB (Ξ:=λr=>iL r (1001 * 1000) 1000) ?_ λhd tK=>?_
 ·refine Tot.count (λz=>z.2) s.Decls.length (λz=>0<=z.2/\z.2<=s.Decls.length/\iL z.1 (1001 * 1000) 1000) ⟨Int.le_refl 0,by show (0:Int)<=_; omega,HK⟩ (by show (s.Decls.length:Int) - 0<_; omega) λz aY=>?_;obtain ⟨m,i⟩:=z;obtain ⟨aR,h1,hm⟩:=aY;simp only at aR h1 hm ⊢;have hw:aL (i+1)=i+1:=by rw [cJ]; omega
  rw [hw];refine Tot.br (λaT=>?_) (λ_=>.aq hm);refine Tot.aB (Ξ:=λr=>iL r (1001 * 1000) 1000) ?_ λoz TL=>.aq ⟨⟨?_,?_,TL⟩,?_,?_⟩
  ·have mX:i.toNat<s.Decls.length:=by omega
   have hi:idx s.Decls i=some s.Decls[i.toNat]:=by simp [idx,aR,mX]
   rw [hi];generalize aS:s.Decls[i.toNat]=d;have jW:d∈s.Decls:=by rw [<- aS]; exact List.getElem_mem mX
   have zl:=(av.decls d jW).n;refine Tot.count (λz=>z.2) d.eM.length (λz=>0<=z.2/\z.2<=d.eM.length/\iL z.1 (1001 * 1000) 1000) ⟨Int.le_refl 0,by show (0:Int)<=_; omega,hm⟩ (by show (d.eM.length:Int) - 0<_; omega) λz aY=>?_;obtain ⟨m,k⟩:=z;obtain ⟨g0,g1,hm⟩:=aY;simp only at g0 g1 hm ⊢;have qw:aL (k+1)=k+1:=by rw [cJ]; omega
   rw [qw];refine Tot.aV (Tot.br (λxb=>?_) (λ_=>.aq hm));have vk:=hm.fz;refine Tot.aB (Ξ:=λj=>iL j (1001 * 1000) 1000) ?_ λj ah=>.aq ⟨⟨?_,?_,ah⟩,?_,?_⟩
   ·refine Tot.aV (.aB (Tot.hj (Φ:=λ_=>True) g0 xb λ_ _ _=>trivial) λx _=>?_);refine .aB (Ξ:=λ_=>True) (Tot.aV (Tot.bF (λ_=>.aB (t107 m _ (by simp only [dK]; omega)) λ_ _=>.aq trivial) (λ_=>.aq trivial))) λc _=>?_;refine Tot.aB (Ξ:=λj=>iL j (1001 * 1000) 1000) ?_ λj ah=>.aq ah;exact Tot.bF (λ_=>.aB (t105 m _ _) λm' iq=>.aq (hm.same iq.1)) (λ_=>.aq hm)
   ·show 0<=k+1; omega
   ·show k+1<=(d.eM.length:Int); omega
   ·show k<k+1; omega
   ·show k+1<=(d.eM.length:Int); omega
  ·show 0<=i+1; omega
  ·show i+1<=(s.Decls.length:Int); omega
  ·show i<i+1; omega
  ·show i+1<=(s.Decls.length:Int); omega
 -- the start
 have sQ:=ok.pos;refine Tot.aB (Ξ:=λ_=>True) (Tot.bF (λ_=>.aB (Ξ:=λ_=>True) (Tot.hj (by decide) (by omega) λ_ _ _=>trivial) λ_ _=>.aq trivial) (λ_=>.aq trivial)) λxz _=>?_;have acu:=tK.fz;refine .aB (t107 hd xz (by simp only [dK]; omega)) λmH ra=>?_;have TS:-1<=mH/\mH<hd.cb.length:=by rcases ra with h | h <;> omega
 -- the alternatives
 have h6:hd.cb.length<=1000:=tK.fz;generalize Uf:hd.cb.length=L at h6 TS;refine Tot.aB (Ξ:=λr=>k3 r (3+1001 * 1000+1001 * 1000000) L (1001 * 1000000) (1+1001 * 1000000)/\1<=r.aG.bj.length) ?_ λbu TT=>?_
 ·have ub:=tK.W9;rw [Uf] at ub;refine Tot.count (λz=>z.2) s.dG.length (λz=>0<=z.2/\z.2<=s.dG.length/\k3 z.1 (3+1001 * 1000+1001 * (1000 * z.2.toNat)) L (1001 * (1000 * z.2.toNat)) (1+1001 * (1000 * z.2.toNat))/\1<=z.1.aG.bj.length) ⟨Int.le_refl 0,by show (0:Int)<=_; omega,⟨ub.gF,ub.lo,ub.hi,ub.ty,ub.fz,ub.hz,Nat.le_refl 1,λp au=>?_,ub.lvl,ub.jw⟩,Nat.le_refl 1⟩ (by show (s.dG.length:Int) - 0<_; omega) λz aY=>?_
  ·rw [List.mem_singleton.1 au];have acd:=tK.hz;have l7:=tK.lo;refine ⟨⟨Int.le_refl 0,by show (0:Int)<=L+hd.b_; omega⟩,λy ax=>?_,⟨by show (-1:Int)<=-1; omega,by show (-1:Int)<_; omega⟩⟩;have ax:y∈[aL (1001+mH)]:=ax;rw [List.mem_singleton.1 ax];have:aL (1001+mH)=1001+mH:=by rw [cJ]; omega
   rw [this];exact .inr (by show 1000<=1001+mH/\1001+mH<=1000+((L:Int)+hd.b_); omega)
  ·obtain ⟨m,i⟩:=z;obtain ⟨aR,h1,hm,vn⟩:=aY;simp only at aR h1 hm vn ⊢;have hw:aL (i+1)=i+1:=by rw [cJ]; omega
   rw [hw];refine Tot.br (λaT=>?_) (λ_=>.aq ⟨hm.mono (by omega) (by omega) (by omega),vn⟩);refine Tot.aB (Ξ:=λr=>k3 r (3+1001 * 1000+1001 * (1000 * (i.toNat+1))) L (1001 * (1000 * (i.toNat+1))) (1+1001 * (1000 * (i.toNat+1)))/\1<=r.aG.bj.length) ?_ λkC Eo=>.aq ⟨⟨?_,?_,?_,Eo.2⟩,?_,?_⟩
   ·have mX:i.toNat<s.dG.length:=by omega
    have hi:idx s.dG i=some s.dG[i.toNat]:=by simp [idx,aR,mX]
    rw [hi];generalize aS:s.dG[i.toNat]=d;have jW:d∈s.dG:=by rw [<- aS]; exact List.getElem_mem mX
    have zl:=(av.rules d jW).n;refine Tot.count (λz=>z.2) d.eL.length (λz=>0<=z.2/\z.2<=d.eL.length/\k3 z.1 (3+1001 * 1000+1001 * (1000 * i.toNat+z.2.toNat)) L (1001 * (1000 * i.toNat+z.2.toNat)) (1+1001 * (1000 * i.toNat+z.2.toNat))/\1<=z.1.aG.bj.length) ⟨Int.le_refl 0,by show (0:Int)<=_; omega,hm,vn⟩ (by show (d.eL.length:Int) - 0<_; omega) λz aY=>?_;obtain ⟨m,k⟩:=z;obtain ⟨g0,g1,hm,vn⟩:=aY;simp only at g0 g1 hm vn ⊢;have qw:aL (k+1)=k+1:=by rw [cJ]; omega
    rw [qw];refine Tot.aV (Tot.br (λxb=>?_) (λ_=>.aq ⟨hm.mono (by omega) (by omega) (by omega),vn⟩));refine Tot.aV (Tot.aV (.aB (Tot.hj (Φ:=λy=>y∈d.eL) g0 xb λ_ _ h=>h) λa aP=>?_));refine .aB (t108 m d.Left a hm (by omega) (by omega) (by omega) (by omega) ((av.rules d jW).alts a aP) (ok.rules d jW a aP)) λm' iq=>.aq ⟨⟨?_,?_,?_,iq.2⟩,?_,?_⟩
    ·show 0<=k+1; omega
    ·show k+1<=(d.eL.length:Int); omega
    ·show k3 m' (3+1001 * 1000+1001 * (1000 * i.toNat+(k+1).toNat)) L (1001 * (1000 * i.toNat+(k+1).toNat)) (1+1001 * (1000 * i.toNat+(k+1).toNat));exact iq.1.mono (by omega) (by omega) (by omega)
    ·show k<k+1; omega
    ·show k+1<=(d.eL.length:Int); omega
   ·show 0<=i+1; omega
   ·show i+1<=(s.dG.length:Int); omega
   ·show k3 kC (3+1001 * 1000+1001 * (1000 * (i+1).toNat)) L (1001 * (1000 * (i+1).toNat)) (1+1001 * (1000 * (i+1).toNat));exact Eo.1.mono (by omega) (by omega) (by omega)
   ·show i<i+1; omega
   ·show i+1<=(s.dG.length:Int); omega
 obtain ⟨po,TU⟩:=TT;refine Tot.qg (λh=>.aq λaQ=>absurd aQ h) (λhe=>?_);have abM:=po.fz;have abK:=po.hi;have abO:=po.ty;have abL:=po.hz;have abN:=po.Aq
 -- nonterminals
 refine Tot.aB (Ξ:=λl=>l.length=1+L) ?_ λuN HN=>?_
 ·refine Tot.count (λz=>z.2) bu.cb.length (λz=>0<=z.2/\z.2<=bu.cb.length/\z.1.length=1+z.2.toNat) ⟨Int.le_refl 0,by show (0:Int)<=_; omega,rfl⟩ (by show (bu.cb.length:Int) - 0<_; omega) λz aY=>?_;obtain ⟨l,i⟩:=z;obtain ⟨aR,h1,ak⟩:=aY;simp only at aR h1 ak ⊢;have hw:aL (i+1)=i+1:=by rw [cJ]; omega
  rw [hw];refine Tot.br (λaT=>?_) (λ_=>.aq (by show l.length=1+L; omega));refine .aB (Tot.hj (Φ:=λ_=>True) aR aT λ_ _ _=>trivial) λqQ _=>.aB (t109 _ _ (by show bu.cL.length<=_; simp only [dK]; omega)) λyr TV=>?_;have abQ:yr=-1\/(0<=yr/\yr<bu.cL.length):=TV;refine .aB (Ξ:=λ_=>True) (Tot.br (λh=>.aB (Ξ:=λ_=>True) (Tot.hj h (by omega) λ_ _ _=>trivial) λ_ _=>.aq trivial) (λ_=>.aq trivial)) λuq _=>?_;refine .aB (Ξ:=λ_=>True) (Tot.ap (by simp [lim]; omega) trivial) λ_ _=>.aq ⟨⟨?_,?_,?_⟩,?_,?_⟩
  ·show 0<=i+1; omega
  ·show i+1<=(bu.cb.length:Int); omega
  ·show (l++[_]).length=1+(i+1).toNat;simp; omega
  ·show i<i+1; omega
  ·show i+1<=(bu.cb.length:Int); omega
 refine Tot.aB (Ξ:=λl=>(l.length:Int)=1+L+bu.b_) ?_ λkZ MW=>?_
 ·refine Tot.count (λz=>z.2) (bu.b_+1) (λz=>1<=z.2/\z.2<=bu.b_+1/\(z.1.length:Int)=1+L+(z.2 - 1)) ⟨Int.le_refl 1,by show (1:Int)<=_; omega,by show (uN.length:Int)=1+L+(1 - 1); omega⟩ (by show bu.b_+1 - 1<_; omega) λz aY=>?_;obtain ⟨l,i⟩:=z;obtain ⟨aR,h1,ak⟩:=aY;simp only at aR h1 ak ⊢;have hw:aL (i+1)=i+1:=by rw [cJ]; omega
  rw [hw];refine Tot.br (λaT=>?_) (λ_=>.aq (by show (l.length:Int)=1+L+bu.b_; omega));refine .aB (t110 i (by omega) (by omega)) λGv abR=>.aB (Ξ:=λ_=>True) (Tot.cat (by show 1+Gv.size<=_; omega) trivial) λwj _=>?_;refine .aB (Ξ:=λ_=>True) (Tot.ap (by simp [lim]; omega) trivial) λ_ _=>.aq ⟨⟨?_,?_,?_⟩,?_,?_⟩
  ·show 1<=i+1; omega
  ·show i+1<=bu.b_+1; omega
  ·show ((l++[_]).length:Int)=1+L+(i+1 - 1);simp; omega
  ·show i<i+1; omega
  ·show i+1<=bu.b_+1; omega
 -- numbers
 have r5:=po.gF;refine Tot.aB (Ξ:=λl=>l.length=bu.aG.ba.length/\∀ t∈l,0<=t.Level) ?_ λmf TW=>?_
 ·refine Tot.count (λz=>z.2.2) bu.aG.ba.length (λz=>3<=z.2.2/\z.2.2<=bu.aG.ba.length/\z.1.length=bu.aG.ba.length/\∀ t∈z.1,0<=t.Level) ⟨Int.le_refl 3,by have:=po.lo; show (3:Int)<=_; omega,rfl,po.jw⟩ (by show (bu.aG.ba.length:Int) - 3<_; omega) λz aY=>?_;obtain ⟨l,n,i⟩:=z;obtain ⟨aR,h1,ak,hv⟩:=aY;simp only at aR h1 ak hv ⊢;have hw:aL (i+1)=i+1:=by rw [cJ]; omega
  rw [hw];refine Tot.br (λaT=>?_) (λ_=>.aq ⟨ak,hv⟩);refine Tot.aB (Ξ:=λj=>j.1.length=bu.aG.ba.length/\∀ t∈j.1,0<=t.Level) ?_ λj ah=>.aq ⟨⟨?_,?_,ah⟩,?_,?_⟩
  ·refine .aB (Tot.hj (Φ:=λ_=>True) (by omega) (by rw [r5]; omega) λ_ _ _=>trivial) λ_ _=>?_;refine Tot.aB (Ξ:=λj=>j.1.length=bu.aG.ba.length/\∀ t∈j.1,0<=t.Level) ?_ λj ah=>.aq ah;refine Tot.bF (λ_=>?_) (λ_=>.aq ⟨ak,hv⟩);refine .aB (Tot.hj (Φ:=λy=>y∈l) (by omega) aT λ_ _ h=>h) λy ax=>.aq ⟨by show (l.set _ _).length=_; simp [ak],λt aw=>?_⟩;rcases ON aw with aw | rfl
   ·exact hv t aw
   ·exact (hv y ax:0<=y.Level)
  ·show 3<=i+1; omega
  ·show i+1<=(bu.aG.ba.length:Int); omega
  ·show i<i+1; omega
  ·show i+1<=(bu.aG.ba.length:Int); omega
 -- limits
 obtain ⟨MX,TX⟩:=TW;refine Tot.aB (Ξ:=λc=>c=false->mf.length<=40/\kZ.length<=24/\bu.aG.bj.length<=60) ?_ λA_ HH=>?_
 ·refine Tot.br (λ_=>.aq λh=>by cases h) (λh1=>Tot.br (λ_=>.aq λh=>by cases h) (λaf=>.aq λh=>?_));have aI:=of_decide_eq_false h;omega
 refine Tot.aB (Ξ:=λc=>c=false->A_=false/\∀ p∈bu.aG.bj,p.eI.length<=8) ?_ λAH HI=>?_
 ·refine Tot.count (λz=>z.2) bu.aG.bj.length (λz=>0<=z.2/\z.2<=bu.aG.bj.length/\(z.1=false->A_=false/\∀ (j:Nat) (p:Prod),(j:Int)<z.2->bu.aG.bj[j]?=some p->p.eI.length<=8)) ⟨Int.le_refl 0,by show (0:Int)<=_; omega,λh=>⟨h,λj p ah=>by have ah:(j:Int)<0:=ah; omega⟩⟩ (by show (bu.aG.bj.length:Int) - 0<_; omega) λz aY=>?_;obtain ⟨c,i⟩:=z;obtain ⟨aR,h1,ak⟩:=aY;simp only at aR h1 ak ⊢;have hw:aL (i+1)=i+1:=by rw [cJ]; omega
  rw [hw];refine Tot.br (λaT=>?_) (λdU=>.aq λh=>⟨(ak h).1,λp au=>?_⟩)
  ·refine Tot.aB (Ξ:=λfS=>fS=false->c=false/\∀ p,bu.aG.bj[i.toNat]?=some p->p.eI.length<=8) ?_ λfS fr=>.aq ⟨⟨?_,?_,λh=>?_⟩,?_,?_⟩
   ·refine Tot.bF (λ_=>.aq λh=>by cases h) (λU2=>.aB (Tot.hj (Φ:=λy=>idx bu.aG.bj i=some y) aR aT λ_ h _=>h) λy ax=>.aq λh=>⟨U2,λp au=>?_⟩);have af:=(pL ax).2.2;rw [au] at af; cases af;have:=of_decide_eq_false h;omega
   ·show 0<=i+1; omega
   ·show i+1<=(bu.aG.bj.length:Int); omega
   ·obtain ⟨aE,a2⟩:=fr h;obtain ⟨hg,iD⟩:=ak aE;refine ⟨hg,λj p ah au=>?_⟩;have ah:(j:Int)<i+1:=ah;by_cases Vm:(j:Int)<i
    ·exact iD j p Vm au
    ·have:j=i.toNat:=by omega
     subst this;exact a2 p au
   ·show i<i+1; omega
   ·show i+1<=(bu.aG.bj.length:Int); omega
  ·obtain ⟨j,ah,rfl⟩:=List.mem_iff_getElem.1 au;exact (ak h).2 j _ (by omega) (List.getElem?_eq_getElem ah)
 refine Tot.bF (λ_=>.aq λh=>absurd h (by decide)) (λaa=>.aq λ_=>?_);obtain ⟨aE,a2⟩:=HI aa;obtain ⟨hg,iD,lC⟩:=HH aE;have l7:=po.lo;refine ⟨⟨?_,hg⟩,⟨?_,iD⟩,⟨TU,lC⟩,λp au=>?_,a2,TX⟩
 ·show 3<=mf.length; omega
 ·show 1<=kZ.length; omega
 ·have:=po.hq p au;exact this.mono (by show _<=mf.length; omega) (by show (L:Int)+bu.b_<=((kZ.length:Nat):Int) - 1; omega)
theorem t62 (s:Source) (av:rO s):Tot (x3 s) λr=>r.2=true->hf r.1:=by
 unfold x3;exact .aB (t77 s av) λr ao=>.aq λh=>ao (of_decide_eq_true h)
theorem R3 (s:Source) (av:rO s):Tot (x0 s) λr=>r.2.2=true->hf r.1/\mK r.1 r.2.1:=by
 unfold x0;refine .aB (t62 s av) λr ao=>Tot.bF (λ_=>.aq λh=>by cases h) (λh=>?_);have aO:=ao (by simpa using h);refine .aB (R8 r.1 aO) λm hm=>.aq λh=>⟨aO,?_⟩;have h:m.2=0:=of_decide_eq_true h;rcases hm with hm | hm
 ·exact hm.2
 ·omega
structure GB (g:bO) (m:List State) (cs:List Cell):Prop where
 sG:hf g
 acN:mK g m
 ce:AP g m.length cs
theorem qf (s:Source) (av:rO s):Tot (vT s) λr=>r.2.2.2=true->GB r.1 r.2.1 r.2.2.1:=by
 unfold vT;refine .aB (R3 s av) λr ao=>Tot.bF (λ_=>.aq λh=>by cases h) (λh=>?_);obtain ⟨aO,hm⟩:=ao (by simpa using h);exact .aB (R4 r.1 aO hm) λqD NR=>.aB (A' r.1 aO hm qD NR.1 NR.2) λcs hE=>.aq λ_=>⟨aO,hm,hE⟩
def zL (g:bO) (p:Int):Int × Int:=match idx g.bj p with
 | some q=>match idx g.ba q.Prec with
  | some t=>(t.Level,t.fv)
  | none=>(0,0)
 | none=>(0,0)
def dec (g:bO) (p t:Int):Int:=match idx g.ba t with
 | some k=>if (zL g p).1=0\/k.Level=0 then 0 else if (zL g p).1<k.Level then 1 else if k.Level<(zL g p).1 then 2 else if k.fv=1 then 2 else if k.fv=2 then 1 else 3
 | none=>0
theorem S' (g:bO) (aO:hf g) (p:Int) (au:0<=p/\p<g.bj.length):C' g p=some (zL g p):=by
 obtain ⟨q,bg,hm⟩:=oo au.1 au.2;have av:=(aO.hq q hm).prec;unfold C' zL;have d1:decide (p<0)=false:=decide_eq_false (by omega);have d2:decide ((g.bj.length:Int)<=p)=false:=decide_eq_false (by omega);rw [d1,d2,bg];simp only [cond_false,Option.bind_some];by_cases h:q.Prec<0
 ·rw [decide_eq_true h,Jl (.inl h)]; rfl
 ·obtain ⟨t,aw,_⟩:=oo (l:=g.ba) (i:=q.Prec) (by omega) av.2;rw [decide_eq_false h,aw]; rfl
theorem S_ (g:bO) (aO:hf g) (p t:Int) (au:0<=p/\p<g.bj.length) (aw:0<=t/\t<g.ba.length):C3 g p t=some (dec g p t):=by
 obtain ⟨k,hk,hm⟩:=oo aw.1 aw.2;unfold C3 dec;rw [S' g aO p au,hk];have d1:decide (t<0)=false:=decide_eq_false (by omega);have d2:decide ((g.ba.length:Int)<=t)=false:=decide_eq_false (by omega);rw [d1,d2];generalize zL g p=x;simp only [cond_false,Option.bind_some];by_cases h1:x.1=0
 ·simp [h1]
 ·by_cases af:k.Level=0
  ·simp [h1,af]
  ·rw [if_neg (by omega)];simp only [h1,af,decide_false,cond_false,Option.bind_some];by_cases aI:x.1<k.Level
   ·simp [aI]
   ·by_cases bK:k.Level<x.1
    ·simp [aI,bK]
    ·by_cases cH:k.fv=1
     ·simp [aI,bK,cH]
     ·by_cases ei:k.fv=2 <;> simp [aI,bK,cH,ei]
def sz (g:bO) (c:Cell):Act:=match c.bj with
 | []=>if c.lY=true then ⟨3,0⟩ else ⟨1,c.j6⟩
 | p::_=>if c.lY=true then ⟨3,0⟩ else if c.j6<0 then ⟨2,p⟩ else if dec g p c.bX=2 then ⟨2,p⟩ else if dec g p c.bX=3 then ⟨4,0⟩ else ⟨1,c.j6⟩
def y8 (g:bO) (c:Cell):List fj:=match c.bj with
 | []=>[]
 | p::r=>r.map (λx=>(⟨c.State,c.bX,p,x⟩:fj))++(if c.lY=true\/(0<=c.j6/\dec g p c.bX=0) then [(⟨c.State,c.bX,-1,p⟩:fj)] else [])
structure sv (g:bO) (n:Nat) (a:Act):Prop where
 k:0<=a.Kind/\a.Kind<=4
 gY:a.Kind=0->a.N=0
 nT:a.Kind=1->0<=a.N/\a.N<n
 rm:a.Kind=2->q1 g a.N
 Xc:a.Kind=3->a.N=0
 acO:a.Kind=4->a.N=0
theorem Rj {g:bO}{n:Nat}{c:Cell}(h:o8 g n c):sv g n (sz g c)/\(sz g c).Kind≠0:=by
 have B9:=h.Y0;have aW:=h.f;have a3:sv g n ⟨3,0⟩:=⟨⟨by decide,by decide⟩,λh=>(by cases h),λh=>(by cases h),λh=>(by cases h),λ_=>rfl,λh=>by cases h⟩;have a4:sv g n ⟨4,0⟩:=⟨⟨by decide,by decide⟩,λh=>(by cases h),λh=>(by cases h),λh=>(by cases h),λ_=>rfl,λ_=>rfl⟩;have aE:0<=c.j6->sv g n ⟨1,c.j6⟩:=λaR=>⟨⟨by show (0:Int)<=1; decide,by show (1:Int)<=4; decide⟩,λh=>(by cases h),λ_=>⟨aR,aW.2⟩,λh=>(by cases h),λh=>(by cases h),λh=>by cases h⟩;have a2:∀ p∈c.bj,sv g n ⟨2,p⟩:=λp au=>⟨⟨by show (0:Int)<=2; decide,by show (2:Int)<=4; decide⟩,λh=>(by cases h),λh=>(by cases h),λ_=>h.q p au,λh=>(by cases h),λh=>by cases h⟩;unfold sz;unfold ow at B9;cases cx:c.bj with
 | nil =>
  simp only;rw [cx] at B9;by_cases h1:c.lY=true
  ·rw [if_pos h1]; exact ⟨a3,by decide⟩
  ·rw [if_neg h1];rw [if_neg h1] at B9;refine ⟨aE ?_,by show (1:Int)≠0; decide⟩;by_cases af:0<=c.j6
   ·exact af
   ·rw [if_neg af] at B9; simp at B9
 | cons p r =>
  simp only;have au:=a2 p (by rw [cx]; simp);split
  ·exact ⟨a3,by decide⟩
  ·split
   ·exact ⟨au,by show (2:Int)≠0; decide⟩
   ·split
    ·exact ⟨au,by show (2:Int)≠0; decide⟩
    ·split
     ·exact ⟨a4,by decide⟩
     ·exact ⟨aE (by omega),by show (1:Int)≠0; decide⟩
theorem L8 {g:bO}(aO:hf g) {n:Nat}{c:Cell}(h:o8 g n c):(y8 g c).length<=60:=by
 have ak:=h.len aO;unfold y8;cases cx:c.bj with
 | nil=>simp
 | cons p r =>
  rw [cx,List.length_cons] at ak;simp only [List.length_append,List.length_map];split
  ·simp; omega
  ·simp; omega
theorem wU (g:bO) (aO:hf g) {n:Nat}(c:Cell) (h:o8 g n c):x1 g c=some (sz g c,y8 g c):=by
 have ak:=h.len aO
 suffices aC:Tot (x1 g c) λr=>r=(sz g c,y8 g c) by
  obtain ⟨r,ao,e⟩:=aC; rw [ao,e]
 unfold x1 sz y8;cases cx:c.bj with
 | nil =>
  simp only;refine .aB (Ξ:=λl:List fj=>l=[]) ?_ λl ak=>?_
  ·refine Tot.loop (λs=>s=(([]:List fj),(1:Int))) (λ_=>0) rfl (by show 0<1000000000000000000; omega) λs aC=>?_;subst aC;exact .aq rfl
  ·subst ak;cases h1:c.lY
   ·exact .aq (by simp)
   ·exact .aq (by simp)
 | cons p r =>
  rw [cx,List.length_cons] at ak;simp only;have hy:idx (p::r) 0=some p:=rfl;refine .aB (Ξ:=λl:List fj=>l=r.map (λx=>(⟨c.State,c.bX,p,x⟩:fj))) ?_ λl ak=>?_
  ·refine Tot.count (λs=>s.2) ((r.length:Int)+1) (λs=>∃ k:Nat,k<=r.length/\s.2=((k+1:Nat):Int)/\s.1=(r.take k).map (λx=>(⟨c.State,c.bX,p,x⟩:fj))) ⟨0,Nat.zero_le _,rfl,rfl⟩ (by show (r.length:Int)+1 - 1<_; omega) λs aC=>?_;obtain ⟨l,i⟩:=s;obtain ⟨k,hk,he,bf⟩:=aC;simp only at he bf ⊢;subst he bf;rw [eR (k+1) (by omega),hy];refine Tot.br (λaT=>?_) (λdU=>.aq ?_)
   ·rw [List.length_cons] at aT;have aT:k<r.length:=by omega
    have cz:idx (p::r) ((k+1:Nat):Int)=some r[k]:=by
     simp only [idx,if_pos (show (0:Int)<=((k+1:Nat):Int) by omega),Int.toNat_natCast,List.getElem?_cons_succ];exact List.getElem?_eq_getElem aT
    rw [cz];refine Tot.aV (Tot.aV (.aB (Ξ:=λ_=>True) (Tot.ap (by simp [lim]; omega) trivial) λ_ _=>.aq ⟨⟨k+1,by omega,rfl,?_⟩,by show ((k+1:Nat):Int)<((k+1+1:Nat):Int); omega,by show ((k+1+1:Nat):Int)<=(r.length:Int)+1; omega⟩));show _=(r.take (k+1)).map _;rw [lW aT,List.map_append]; rfl
   ·rw [List.length_cons] at dU;rw [List.take_of_length_le (by omega)]; rfl
  ·subst ak;have au:=h.q p (by rw [cx]; simp);have Hq:=S_ g aO p c.bX ⟨by have:=au.1; omega,au.2⟩ h.t;have dl:decide (((p::r).length:Int)=0)=false:=decide_eq_false (by simp; omega);simp only [hy,Hq,dl,cond_false,Option.bind_some];generalize vh:dec g p c.bX=v;refine ⟨_,?_,rfl⟩;have Nk:da (r.map (λx=>(⟨c.State,c.bX,p,x⟩:fj))) [(⟨c.State,c.bX,(-1),p⟩:fj)]=some (r.map (λx=>(⟨c.State,c.bX,p,x⟩:fj))++[⟨c.State,c.bX,(-1),p⟩]):=by
    unfold da; rw [if_pos (by simp [lim]; omega)]
   cases h1:c.lY
   ·by_cases af:c.j6<0
    ·have aI:¬ (0<=c.j6):=by omega
     simp [af,aI]
    ·have aI:0<=c.j6:=by omega
     by_cases bK:v=0
     ·simp [af,aI,bK,Nk]
     ·by_cases cH:v=2
      ·simp [af,aI,cH]
      ·by_cases ei:v=3
       ·simp [af,aI,ei]
       ·simp [af,aI,bK,cH,ei]
   ·simp [Nk]
def rowOf (g:bO) (l:List Cell):List Act:=l.foldl (λrow c=>row.set c.bX.toNat (sz g c)) (List.replicate g.ba.length ⟨0,0⟩)
def iC (cs:List Cell) (q:Nat):List Cell:=cs.filter λc=>decide (c.State=(q:Int))
def go (m:List State) (q s:Int):Int:=(rr m q s).getD (-1)
theorem go_eq {g:bO}{m:List State}(hm:mK g m) (q s:Int):rr m q s=some (go m q s)/\GoTo m q s (go m q s):=by
 obtain ⟨r,ao,h⟩:=D_ m q s hm.xH;unfold go;rw [ao];exact ⟨rfl,h⟩
theorem PB (g:bO):∀ (l:List Cell),(rowOf g l).length=g.ba.length:=λl=>by
 suffices h:∀ (l:List Cell) (r:List Act),(l.foldl (λrow c=>row.set c.bX.toNat (sz g c)) r).length=r.length by
  unfold rowOf; rw [h]; simp
 intro l
 induction l with
 | nil=>intro r; rfl
 | cons c l aU=>intro r; rw [List.foldl_cons,aU,List.length_set]
theorem X9 (g:bO) (l:List Cell) (c:Cell):rowOf g (l++[c])=(rowOf g l).set c.bX.toNat (sz g c):=by
 unfold rowOf; rw [List.foldl_append]; rfl
theorem X6 {g:bO}{n:Nat}:∀ {l:List Cell},(∀ c∈l,o8 g n c)->∀ a∈rowOf g l,sv g n a:=by
 intro l h
 suffices aC:∀ (l:List Cell) (r:List Act),(∀ c∈l,o8 g n c)->(∀ a∈r,sv g n a)->∀ a∈l.foldl (λrow c=>row.set c.bX.toNat (sz g c)) r,sv g n a by
  refine aC l _ h λa aP=>?_;rw [List.eq_of_mem_replicate aP];exact ⟨⟨by decide,by decide⟩,λ_=>rfl,λh=>(by cases h),λh=>(by cases h),λh=>(by cases h),λh=>by cases h⟩
 intro l
 induction l with
 | nil=>intro r _ ao; exact ao
 | cons c l aU =>
  intro r ak ao;rw [List.foldl_cons];refine aU _ (λd aS=>ak d (by simp [aS])) λa aP=>?_;rcases List.mem_or_eq_of_mem_set aP with h | h
  ·exact ao a h
  ·rw [h]; exact (Rj (ak c (by simp))).1
def wX (g:bO) (m:List State) (q:Nat):List Int:=(List.range g.b3.length).map λa:Nat=>go m q (1000+(a:Int))
def l2 (g:bO) (l:List Cell):List fj:=l.flatMap (y8 g)
theorem Hk {g:bO}(aO:hf g) {n:Nat}:∀ {l:List Cell},(∀ c∈l,o8 g n c)->(l2 g l).length<=60 * l.length
 | [],_=>by simp [l2]
 | c::l,h=>by
  have h1:=L8 aO (h c (by simp));have af:=Hk aO (l:=l) λd aS=>h d (by simp [aS]);unfold l2 at af ⊢;rw [List.flatMap_cons,List.length_append,List.length_cons];omega
theorem Qj {α:Type}{l:List α}{k:Nat}(h:k<l.length) (p:α->Bool):(l.take (k+1)).filter p=(l.take k).filter p++(if p l[k] then [l[k]] else []):=by
 rw [lW h,List.filter_append];congr 1;rw [List.filter_cons]
 split <;> simp
structure GF (g:bO) (m:List State) (cs:List Cell) (d:gS):Prop where
 a:d.cO=(List.range m.length).map λq=>rowOf g (iC cs q)
 o:d.d'=(List.range m.length).map λq=>wX g m q
theorem R0 (g:bO) (m:List State) (cs:List Cell) (et:GB g m cs):Tot (Ab g m cs) λr=>GF g m cs r.1/\r.2=(List.range m.length).flatMap λq=>l2 g (iC cs q):=by
 obtain ⟨aO,hm,aa⟩:=et;have aw:=aO.kW;have aF:=aO.dz;have xd:=hm.nT;have Ii:=aa.n;unfold Ab;refine .aB (Ξ:=λr:List (List Act) × List (List Int) × List fj=>r.1=(List.range m.length).map (λq=>rowOf g (iC cs q))/\r.2.1=(List.range m.length).map (λq=>wX g m q)/\r.2.2=(List.range m.length).flatMap λq=>l2 g (iC cs q)) ?_ λr ao=>.aq ⟨⟨ao.1,ao.2.1⟩,ao.2.2⟩;have sL:∀ q,(l2 g (iC cs q)).length<=360000:=λq=>by
  have h1:=Hk aO (l:=iC cs q) λc vd=>aa.ok c ((List.mem_filter.1 vd).1);have af:=List.length_filter_le (λc:Cell=>decide (c.State=(q:Int))) cs;unfold iC at h1 ⊢;omega
 have Ip:∀ k,((List.range k).flatMap λq=>l2 g (iC cs q)).length<=360000 * k:=λk=>by
  induction k with
  | zero=>simp
  | succ k aU =>
   rw [List.range_succ,List.flatMap_append,List.length_append];have:=sL k;simp only [List.flatMap_cons,List.flatMap_nil,List.append_nil];omega
 refine Tot.upto (λs=>s.2.2.2) m.length (λk s=>s.1=(List.range k).map (λq=>rowOf g (iC cs q))/\s.2.1=(List.range k).map (λq=>wX g m q)/\s.2.2.1=(List.range k).flatMap λq=>l2 g (iC cs q)) rfl (by omega) ⟨rfl,rfl,rfl⟩ λk s hk he bf=>?_;obtain ⟨A,G,C,i⟩:=s;obtain ⟨h1,af,aI⟩:=bf;simp only at he h1 af aI ⊢;subst he h1 af aI;rw [eR k (by omega)];refine Tot.br (λaT=>?_) (λdU=>.aq ?_)
 ·have aT:k<m.length:=by omega
  refine .aB (Ξ:=λr=>r=List.replicate g.ba.length (⟨0,0⟩:Act)) (Tot.mk (by simp [lim]; omega) (by simp)) λtq gG=>?_;subst gG;have ab9:=Ip k;refine .aB (Ξ:=λr:List fj × List Act=>r.1=(List.range k).flatMap (λq=>l2 g (iC cs q))++l2 g (iC cs k)/\r.2=rowOf g (iC cs k)) ?_ λr ao=>?_
  ·refine Tot.upto (λs=>s.2.2) cs.length (λj s=>s.1=(List.range k).flatMap (λq=>l2 g (iC cs q))++l2 g (iC (cs.take j) k)/\s.2.1=rowOf g (iC (cs.take j) k)) rfl (by omega) ⟨by simp [iC,l2],by simp [iC,rowOf]⟩ λj s ah he bf=>?_;obtain ⟨C,R,i⟩:=s;obtain ⟨h1,af⟩:=bf;simp only at he h1 af ⊢;subst he h1 af;rw [eR j (by omega)];refine Tot.br (λeE=>?_) (λdU=>.aq ?_)
   ·have eE:j<cs.length:=by omega
    have w7:=aa.ok _ (List.getElem_mem eE);have sM:=Qj eE (λc:Cell=>decide (c.State=(k:Int)));have acE:(l2 g (iC (cs.take j) k)).length<=360000:=by
     have h1:=Hk aO (l:=iC (cs.take j) k) λc vd=>aa.ok c (List.mem_of_mem_take ((List.mem_filter.1 vd).1));have af:=List.length_filter_le (λc:Cell=>decide (c.State=(k:Int))) (cs.take j);rw [List.length_take] at af;unfold iC at h1 ⊢;omega
    rw [eu eE];generalize cs[j]=c at *;simp only [Option.bind_some];refine .aB (Ξ:=λr:List fj × List Act=>r.1=(List.range k).flatMap (λq=>l2 g (iC cs q))++l2 g (iC (cs.take (j+1)) k)/\r.2=rowOf g (iC (cs.take (j+1)) k)) ?_ λr ao=>.aq ⟨eE,rfl,ao⟩;refine .aB (Ξ:=λr:List fj × List Act=>r.1=(List.range k).flatMap (λq=>l2 g (iC cs q))++l2 g (iC (cs.take (j+1)) k)/\r.2=rowOf g (iC (cs.take (j+1)) k)) (Tot.br (λaC=>?_) (λaC=>.aq ?_)) λr ao=>.aq ao
    ·rw [decide_eq_true aC,if_pos rfl] at sM;rw [wU g aO c w7];simp only [Option.bind_some];have l8:=PB g (iC (cs.take j) k);obtain ⟨a0,w0,_⟩:=oo (l:=rowOf g (iC (cs.take j) k)) (i:=c.bX) w7.t.1 (by rw [l8]; exact w7.t.2);rw [w0];have ha:=L8 aO w7;refine Tot.aV (.aB (Ξ:=λ_=>True) (Tot.ap (by rw [List.length_append]; simp only [lim]; omega) trivial) λ_ _=>.aq ⟨?_,?_⟩)
     ·show _=_++l2 g ((cs.take (j+1)).filter _);rw [sM];unfold l2;rw [List.flatMap_append,List.append_assoc];simp [iC]
     ·show _=rowOf g ((cs.take (j+1)).filter _);rw [sM,X9]; rfl
    ·have:(if (decide (c.State=(k:Int)))=true then [c] else [])=[]:=by simp [aC]
     rw [this,List.append_nil] at sM;unfold iC;rw [sM];exact ⟨rfl,rfl⟩
   ·have e:cs.take j=cs:=List.take_of_length_le (by omega);rw [e];exact ⟨rfl,rfl⟩
  ·obtain ⟨C,R⟩:=r;obtain ⟨h1,af⟩:=ao;simp only at h1 af ⊢;subst h1 af;refine .aB (Ξ:=λr=>r=List.replicate g.b3.length (0:Int)) (Tot.mk (by simp [lim]; omega) (by simp)) λGI Ua=>?_;subst Ua;refine .aB (Ξ:=λr:List Int=>r=wX g m k) ?_ λr ao=>?_
   ·refine Tot.upto (λs=>s.2) g.b3.length (λj s=>s.1.length=g.b3.length/\∀ i:Nat,i<j->s.1[i]?=some (go m k (1000+(i:Int)))) rfl (by omega) ⟨by simp,λi hi=>absurd hi (Nat.not_lt_zero _)⟩ λj s ah he bf=>?_;obtain ⟨L,i⟩:=s;obtain ⟨h1,af⟩:=bf;simp only at he h1 af ⊢;subst he;rw [eR j (by omega)];refine Tot.br (λeE=>?_) (λdU=>.aq ?_)
    ·have eE:j<L.length:=by omega
     have hw:aL (1000+(j:Int))=1000+(j:Int):=by rw [cJ]; omega
     rw [hw,(go_eq hm k _).1,eu eE];refine Tot.aV (Tot.aV (.aq ⟨by omega,rfl,?_,λi hi=>?_⟩))
     ·show (L.set _ _).length=_;rw [List.length_set]; exact h1
     ·show (L.set (j:Int).toNat _)[i]?=_;rw [Int.toNat_natCast,PW eE];by_cases e:i=j
      ·subst e; rw [if_pos rfl]
      ·rw [if_neg e]; exact af i (by omega)
    ·show L=wX g m k;refine List.ext_getElem? λi=>?_;unfold wX;by_cases hi:i<g.b3.length
     ·rw [af i (by omega),List.getElem?_map,List.getElem?_range hi]; rfl
     ·rw [List.getElem?_eq_none (by omega),List.getElem?_eq_none (by simp; omega)]
   ·subst ao;refine .aB (Ξ:=λ_=>True) (Tot.ap (by simp [lim]; omega) trivial) λ_ _=>.aB (Ξ:=λ_=>True) (Tot.ap (by simp [lim]; omega) trivial) λ_ _=>.aq ⟨aT,rfl,?_,?_,?_⟩
    ·show _=(List.range (k+1)).map _;rw [List.range_succ,List.map_append]; rfl
    ·show _=(List.range (k+1)).map _;rw [List.range_succ,List.map_append]; rfl
    ·show _=(List.range (k+1)).flatMap _;rw [List.range_succ,List.flatMap_append]; simp
 ·have:k=m.length:=by omega
  subst this;exact ⟨rfl,rfl,rfl⟩
structure sx (g:bO) (n:Nat) (d:gS):Prop where
 gY:0<n/\n<=150
 sG:hf g
 a:d.cO.length=n
 jH:∀ r∈d.cO,r.length=g.ba.length/\∀ a∈r,sv g n a
 o:d.d'.length=n
 xP:∀ r∈d.d',r.length=g.b3.length/\∀ v∈r,-1<=v/\v<n
theorem GF.aJ {g:bO}{m:List State}{cs:List Cell}{d:gS}(h:GF g m cs d) (et:GB g m cs):sx g m.length d:=by
 obtain ⟨aO,hm,aa⟩:=et;refine ⟨⟨hm.gY,hm.nT⟩,aO,by rw [h.a]; simp,λr ao=>?_,by rw [h.o]; simp,λr ao=>?_⟩
 ·rw [h.a] at ao;obtain ⟨q,_,rfl⟩:=List.mem_map.1 ao;exact ⟨PB g _,X6 λc vd=>aa.ok c (List.mem_filter.1 vd).1⟩
 ·rw [h.o] at ao;obtain ⟨q,_,rfl⟩:=List.mem_map.1 ao;refine ⟨by simp [wX],λv hv=>?_⟩;obtain ⟨a,_,rfl⟩:=List.mem_map.1 hv;exact (go_eq hm q _).2.aJ hm
theorem XW {g:bO}(aO:hf g) {n:Nat}{cs:List Cell}(aa:AP g n cs) {f:Cell->Option Int}(aW:∀ c:Cell,c.bj.length<=1000->f c=some (ow c:Int)):Tot (b4 (R:=Int) (λ(s1:Int × Int) =>
(bif decide (s1.2<(cs.length:Int)) then
((idx cs s1.2).bind λbC =>
(f bC).bind λbQ =>
((bif decide (1<bQ) then
some (aL (s1.1+1))
else
some s1.1)).bind λff =>
some ff).bind λkQ =>
some (.inl (kQ,aL (s1.2+1)))
else
some (.inr s1.1))) (0,0)) λr=>r=((cs.filter λc=>decide (1<ow c)).length:Int):=by
 have Ii:=aa.n;refine Tot.upto (λs=>s.2) cs.length (λk s=>s.1=(((cs.take k).filter λc=>decide (1<ow c)).length:Int)) rfl (by omega) rfl λk s hk he bf=>?_;obtain ⟨z,i⟩:=s;simp only at he bf ⊢;subst he bf;rw [eR k (by omega)];refine Tot.br (λaT=>?_) (λdU=>.aq ?_)
 ·have aT:k<cs.length:=by omega
  have U4:=aa.ok _ (List.getElem_mem aT);have sM:=Qj aT (λc:Cell=>decide (1<ow c));have sL:=List.length_filter_le (λc:Cell=>decide (1<ow c)) (cs.take k);rw [List.length_take] at sL;rw [eu aT];generalize cs[k]=c at *;have ha:=U4.len aO;rw [show (some c).bind=λ(f:Cell->Option Int)=>f c from rfl]
  simp only [aW c (by omega),Option.bind_some];refine .aB (Ξ:=λz:Int=>z=(((cs.take (k+1)).filter λc=>decide (1<ow c)).length:Int)) ?_ λr ao=>.aq ⟨aT,rfl,ao⟩;rw [sM];refine .aB (Ξ:=λz:Int=>z=(((cs.take k).filter (λc=>decide (1<ow c))++if decide (1<ow c)=true then [c] else []).length:Int)) (Tot.br (λh=>.aq ?_) (λh=>.aq ?_)) λr ao=>.aq ao
  ·have:1<ow c:=by omega
   rw [eR _ (by omega)];simp [this]
  ·have:¬ 1<ow c:=by omega
   simp [this]
 ·have e:cs.take k=cs:=List.take_of_length_le (by omega);rw [e]; rfl
theorem tC {g:bO}(aO:hf g) {n:Nat}{cs:List Cell}(aa:AP g n cs):Tot (CT cs) λr=>r=((cs.filter λc=>decide (1<ow c)).length:Int):=by
 unfold CT;exact .aB (XW aO aa Mp) λr ao=>.aq ao
theorem RW (s:Source) (av:rO s):Tot (s7 s) λr=>r.2.2.2=true->∃ n,sx r.1 n r.2.1:=by
 unfold s7;refine .aB (qf s av) λr ao=>Tot.bF (λ_=>.aq λh=>by cases h) (λh=>?_);have et:=ao (by simpa using h);exact .aB (R0 _ _ _ et) λd aS=>.aB (tC et.sG et.ce) λ_ _=>.aq λ_=>⟨_,aS.1.aJ et⟩
theorem S9 (a:Act):Ah a=uz a:=by
 grind [Ah,uz]
theorem Mo (n:Int):Ad n=xZ n:=by
 grind [Ad,xZ]
theorem Y8 (a:Act):Tot (uz a) λ_=>True:=by
 unfold uz
 repeat' first | apply Tot.bi | refine Tot.bF (λ_=>?_) (λ_=>?_) | exact Tot.aq trivial | apply Tot.aq
theorem Y9 (n:Int):Tot (xZ n) λ_=>True:=by
 grind [xZ,Tot.aq]
def pb (l:List Int) (v:Int):Prop:=(l=[]/\v=-1)\/(v∈l/\∀ x∈l,l.count x<l.count v\/(l.count x=l.count v/\v<=x))
theorem pb.uniq {l:List Int}{v w:Int}(h:pb l v) (aQ:pb l w):v=w:=by
 rcases h with ⟨h1,af⟩ | ⟨h1,af⟩ <;> rcases aQ with ⟨aI,bK⟩ | ⟨aI,bK⟩
 ·omega
 ·subst h1; cases aI
 ·subst aI; cases h1
 ·have a:=af w aI;have b:=bK v h1;omega
theorem wQ (l:List Int) (y x:Int):(l++[y]).count x=l.count x+(if y=x then 1 else 0):=by
 rw [List.count_append];by_cases e:y=x
 ·subst e; simp
 ·rw [if_neg e,List.count_eq_zero.2 λhm=>e (List.mem_singleton.1 hm).symm]
theorem SU {l:List Int}{x:Int}(h:x∈l):0<l.count x:=List.count_pos_iff.2 h
theorem pb.snoc {l:List Int}{b y:Int}(h:pb l b) (aR:∀ x∈l,0<=x) (ax:0<=y):pb (l++[y]) (if b<0\/(l++[y]).count b<(l++[y]).count y\/((l++[y]).count y=(l++[y]).count b/\y<b) then y else b):=by
 refine .inr ?_;rcases h with ⟨rfl,rfl⟩ | ⟨av,hm⟩
 ·rw [if_pos (.inl (by decide))];refine ⟨by simp,λx J=>?_⟩;rw [List.nil_append,List.mem_singleton] at J;subst J; exact .inr ⟨rfl,Int.le_refl _⟩
 ·have Ew:=aR b av;have key:∀ x∈l++[y],x∈l\/x=y:=λx J=>by simpa using J
  have wS:(l++[y]).count y=l.count y+1:=by rw [wQ,if_pos rfl]
  by_cases Np:b=y
  ·subst Np;rw [if_neg (by omega)];refine ⟨by simp,λx J=>?_⟩;rw [wS];by_cases e:x=b
   ·subst e; exact .inr ⟨wS,Int.le_refl _⟩
   ·rw [wQ,if_neg (λh=>e h.symm)];rcases key x J with J | J
    ·have:=hm x J; omega
    ·exact absurd J e
  ·have j_:(l++[y]).count b=l.count b:=by rw [wQ,if_neg (λh=>Np h.symm)]; rfl
   by_cases aa:b<0\/(l++[y]).count b<(l++[y]).count y\/((l++[y]).count y=(l++[y]).count b/\y<b)
   ·rw [if_pos aa];rw [j_,wS] at aa;refine ⟨by simp,λx J=>?_⟩;rw [wS];by_cases e:x=y
    ·subst e; exact .inr ⟨wS,Int.le_refl _⟩
    ·rw [wQ,if_neg (λh=>e h.symm)];rcases key x J with J | J
     ·have:=hm x J; omega
     ·exact absurd J e
   ·rw [if_neg aa];rw [j_,wS] at aa;refine ⟨by simp [av],λx J=>?_⟩;rw [j_];by_cases e:x=y
    ·subst e; rw [wS]; omega
    ·rw [wQ,if_neg (λh=>e h.symm)];rcases key x J with J | J
     ·have:=hm x J; omega
     ·exact absurd J e
theorem JA {x:Int}(h:-1<=x/\x<=1000000):sj x=true:=by unfold sj; rw [decide_eq_true]; omega
theorem y7 (l:List Int) (ak:l.length<=100000) (aR:∀ x∈l,0<=x/\x<=1000000):Tot (vV l) (pb l):=by
 unfold vV;refine .aB (Ξ:=pb l) ?_ λr ao=>.aq ao;refine Tot.upto (λs=>s.2.2) l.length (λk s=>s.1.length=k/\(∀ x,(o2 s.1 x).getD 0=((l.take k).count x:Int))/\pb (l.take k) s.2.1) rfl (by omega) ⟨rfl,λx=>by simp [o2],.inl ⟨rfl,rfl⟩⟩ λk s hk he bf=>?_;obtain ⟨m,b,i⟩:=s;obtain ⟨h1,af,aI⟩:=bf;simp only at he h1 af aI ⊢;subst he;rw [eR k (by omega)];refine Tot.br (λaT=>?_) (λdU=>.aq ?_)
 ·have aT:k<l.length:=by omega
  have ax:=aR _ (List.getElem_mem aT);have gm:=lW aT;have Nf:∀ x∈l.take k,0<=x/\x<=1000000:=λx J=>aR x (List.mem_of_mem_take J);have ha:=List.count_le_length (a:=l[k]) (l:=l.take k);rw [eu aT];generalize l[k]=y at *;have av:-1<=b/\b<=1000000:=by
   rcases aI with ⟨_,rfl⟩ | ⟨h,_⟩
   ·omega
   ·have:=Nf b h; omega
  rw [List.length_take] at ha;have cz:sl sj 0 m y=some ((l.take k).count y:Int):=by unfold sl; rw [if_pos (JA ⟨by omega,ax.2⟩),af]
  have cf:aL (((l.take k).count y:Int)+1)=(((l.take k).count y+1:Nat):Int):=eR _ (by omega);have fO:zN sj m y (((l.take k).count y+1:Nat):Int)=some ((y,(((l.take k).count y+1:Nat):Int))::m):=by
   unfold zN;rw [JA ⟨by omega,ax.2⟩,Bool.true_and,if_pos (decide_eq_true (by simp only [lim]; omega))]
  have NT:∀ x,(o2 ((y,(((l.take k).count y+1:Nat):Int))::m) x).getD 0=((l.take (k+1)).count x:Int):=λx=>by
   rw [gm,wQ];unfold o2;by_cases e:y=x
   ·subst e; rw [if_pos rfl,if_pos rfl]; rfl
   ·rw [if_neg e,if_neg e,af]; rfl
  have mR:∀ x,(-1<=x/\x<=1000000)->sl sj 0 ((y,(((l.take k).count y+1:Nat):Int))::m) x=some ((l.take (k+1)).count x:Int):=λx J=>by unfold sl; rw [if_pos (JA J),NT]
  have aC:=aI.snoc (y:=y) (λx J=>(Nf x J).1) ax.1;rw [<- gm] at aC;have im:=List.count_le_length (a:=y) (l:=l.take (k+1));have tX:=List.count_le_length (a:=b) (l:=l.take (k+1));rw [List.length_take] at im tX;simp only [Option.bind_some,cz,cf,fO,mR y ⟨by omega,ax.2⟩,mR b av];have hw:aL (((l.take (k+1)).count y:Int) - ((l.take (k+1)).count b:Int))=((l.take (k+1)).count y:Int) - ((l.take (k+1)).count b:Int):=by rw [cJ]; omega
  rw [hw];refine .aB (Ξ:=λr:List (Int × Int) × Int=>r.1=(y,(((l.take k).count y+1:Nat):Int))::m/\pb (l.take (k+1)) r.2) ?_ λr ao=>.aq ⟨aT,rfl,by rw [ao.1]; simp [h1],by rw [ao.1]; exact NT,ao.2⟩;refine .aB (Ξ:=λc:Bool=>c=decide (b<0\/(l.take (k+1)).count b<(l.take (k+1)).count y\/((l.take (k+1)).count y=(l.take (k+1)).count b/\y<b))) ?_ λc aa=>?_
  ·refine Tot.br (λh=>.aq (decide_eq_true (.inl h)).symm) (λh=>Tot.br (λaQ=>.aq (decide_eq_true (.inr (.inl (by omega)))).symm) (λaQ=>Tot.br (λaf=>.aq ?_) (λaf=>.aq (decide_eq_false (by omega)).symm)));exact decide_eq_decide.2 (by omega)
  ·subst aa;refine .aB (Ξ:=λz=>z=(if b<0\/(l.take (k+1)).count b<(l.take (k+1)).count y\/((l.take (k+1)).count y=(l.take (k+1)).count b/\y<b) then y else b)) (Tot.br (λh=>.aq (if_pos h).symm) (λh=>.aq (if_neg h).symm)) λz aY=>.aq ⟨rfl,?_⟩
   show pb _ z;rw [aY]; exact aC
 ·have e:l.take k=l:=List.take_of_length_le (by omega);rw [e] at aI;exact aI
theorem y6 (l:List Int) (ak:l.length<=100000) (aR:∀ x∈l,0<=x/\x<=1000000):Tot (vU l) (pb l):=by
 unfold vU;refine .aB (Ξ:=λr:List Int=>fR iS r/\r.length<=l.length/\∀ x,x∈r↔x∈l) ?_ λD jK=>?_
 ·refine Tot.upto (λs=>s.2) l.length (λk s=>fR iS s.1/\s.1.length<=k/\∀ x,x∈s.1↔x∈l.take k) rfl (by omega) ⟨.nil,Nat.le_refl 0,λx=>by simp⟩ λk s hk he bf=>?_;obtain ⟨r,i⟩:=s;obtain ⟨h1,af,aI⟩:=bf;simp only at he h1 af aI ⊢;subst he;rw [eR k (by omega)];refine Tot.br (λaT=>?_) (λdU=>.aq ?_)
  ·have aT:k<l.length:=by omega
   have gm:=lW aT;rw [eu aT];generalize l[k]=y at *;refine Tot.aV (.aB (D' r y h1 (by omega)) λdm ec=>.aq ⟨aT,rfl,ec.1,by have:=ec.2.1; show dm.length<=k+1; omega,λx=>?_⟩);rw [gm,List.mem_append,List.mem_singleton,<- aI];exact ec.2.2 x
  ·have e:l.take k=l:=List.take_of_length_le (by omega);rw [e] at aI;exact ⟨h1,by omega,aI⟩
 ·obtain ⟨T5,abU,Er⟩:=jK;refine .aB (Ξ:=λr:Int=>pb l r) ?_ λr ao=>.aq ao;refine Tot.upto (λs=>s.2.2) D.length (λk s=>(k=0/\s.1=-1/\s.2.1=0)\/(s.1∈D.take k/\s.2.1=(l.count s.1:Int)/\∀ x∈D.take k,l.count x<l.count s.1\/(l.count x=l.count s.1/\s.1<=x))) rfl (by omega) (.inl ⟨rfl,rfl,rfl⟩) λk s hk he bf=>?_;obtain ⟨b,n,i⟩:=s;simp only at he bf ⊢;subst he;rw [eR k (by omega)];refine Tot.br (λaT=>?_) (λdU=>.aq ?_)
  ·have aT:k<D.length:=by omega
   have gm:=lW aT;have EV:=List.getElem_mem aT;have ug:∀ x∈D.take k,x<D[k]:=λx J=>by
    obtain ⟨j,ah,rfl⟩:=List.mem_iff_getElem.1 J;rw [List.length_take] at ah;rw [List.getElem_take];exact OM.1 (LJ T5 (by omega) aT (by omega))
   rw [eu aT];generalize D[k]=y at *;have EU:=(Er y).1 EV;refine .aB (Ξ:=λr:Int × Int=>r.1∈D.take (k+1)/\r.2=(l.count r.1:Int)/\∀ x∈D.take (k+1),l.count x<l.count r.1\/(l.count x=l.count r.1/\r.1<=x)) ?_ λr ao=>.aq ⟨aT,rfl,.inr ao⟩;refine .aB (Ξ:=λz:Int=>z=(l.count y:Int)) ?_ λz aY=>?_
   ·refine Tot.upto (λs=>s.2) l.length (λj s=>s.1=((l.take j).count y:Int)) rfl (by omega) (by simp) λj s ah he bf=>?_;obtain ⟨z,i⟩:=s;simp only at he bf ⊢;subst he bf;rw [eR j (by omega)];refine Tot.br (λeE=>?_) (λdU=>.aq ?_)
    ·have eE:j<l.length:=by omega
     have nN:=lW eE;have ha:=List.count_le_length (a:=y) (l:=l.take j);rw [List.length_take] at ha;rw [eu eE];generalize l[j]=x at *;simp only [Option.bind_some];refine .aB (Ξ:=λz:Int=>z=((l.take (j+1)).count y:Int)) ?_ λz aY=>.aq ⟨eE,rfl,aY⟩;rw [nN,wQ];refine .aB (Ξ:=λz:Int=>z=(((l.take j).count y+if x=y then 1 else 0:Nat):Int)) (Tot.br (λe=>.aq ?_) (λe=>.aq ?_)) λz aY=>.aq aY
     ·rw [if_pos e,eR _ (by omega)]
     ·rw [if_neg e]; rfl
    ·have e:l.take j=l:=List.take_of_length_le (by omega);rw [e]; rfl
   ·subst aY;refine .aB (Ξ:=λr:Int × Int=>r.1∈D.take (k+1)/\r.2=(l.count r.1:Int)/\∀ x∈D.take (k+1),l.count x<l.count r.1\/(l.count x=l.count r.1/\r.1<=x)) ?_ λr ao=>.aq ao;have w8:=SU EU;rw [gm];have key:∀ x∈D.take k++[y],x∈D.take k\/x=y:=λx J=>by simpa using J
    refine Tot.br (λaa=>Tot.aV (.aq ⟨by simp,rfl,λx J=>?_⟩)) (λaa=>?_)
    ·rcases key x J with J | rfl
     ·rcases bf with ⟨rfl,_,_⟩ | ⟨h1,af,aI⟩
      ·simp at J
      ·have:=aI x J; show l.count x<l.count y\/_; omega
     ·exact .inr ⟨rfl,Int.le_refl _⟩
    ·rcases bf with ⟨rfl,_,rfl⟩ | ⟨h1,af,aI⟩
     ·omega
     ·refine .aq ⟨by simp [h1],af,λx J=>?_⟩;rcases key x J with J | rfl
      ·exact aI x J
      ·have:=ug b h1;have aa:¬ ((n:Int)<(l.count x:Int)):=aa;have af:n=(l.count b:Int):=af;show l.count x<l.count b\/(l.count x=l.count b/\b<=x);omega
  ·have e:D.take k=D:=List.take_of_length_le (by omega);rw [e] at bf;rcases bf with ⟨rfl,rfl,_⟩ | ⟨h1,af,aI⟩
   ·have:D=[]:=List.eq_nil_of_length_eq_zero (by omega);refine .inl ⟨?_,rfl⟩;refine List.eq_nil_iff_forall_not_mem.2 λx J=>?_;have:=(Er x).2 J
    subst_vars
    cases this
   ·exact .inr ⟨(Er b).1 h1,λx J=>aI x ((Er x).2 J)⟩
def jy (l:List Int):Int:=(vU l).getD (-1)
def GK (l:List Int):Prop:=l.length<=100000/\∀ x∈l,0<=x/\x<=1000000
theorem Fq {l:List Int}(h:GK l):vV l=some (jy l)/\vU l=some (jy l)/\pb l (jy l):=by
 obtain ⟨v,hv,h1⟩:=y7 l h.1 h.2;obtain ⟨w,hw,af⟩:=y6 l h.1 h.2;have e:jy l=w:=by unfold jy; rw [hw]; rfl
 have cf:=h1.uniq af
 grind
def ix {α:Type}(keep:α->Bool) (val:α->Int) (l:List α):List ca:=(l.zipIdx.filter λp=>keep p.1).map λp=>(⟨(p.2:Nat),val p.1⟩:ca)
theorem FF {α:Type}(keep:α->Bool) (val:α->Int) (l:List α) (x:α):ix keep val (l++[x])=ix keep val l++(if keep x=true then [(⟨l.length,val x⟩:ca)] else []):=by
 grind [ix]
theorem vZ {α:Type}(keep:α->Bool) (val:α->Int) (l:List α):(ix keep val l).length<=l.length:=by
 grind [ix,List.length_zipIdx]
theorem W7 {α:Type}{keep:α->Bool}{val:α->Int}{l:List α}{p:ca}:p∈ix keep val l↔∃ (k:Nat) (x:α),l[k]?=some x/\keep x=true/\p=⟨k,val x⟩:=by
 unfold ix;rw [List.mem_map];constructor
 ·grind
 ·rintro ⟨k,x,h1,af,rfl⟩;exact ⟨(x,k),by rw [List.mem_filter,List.mem_zipIdx_iff_getElem?]; exact ⟨h1,af⟩,rfl⟩
def red (r:List Act):List Int:=(r.filter λa=>decide (a.Kind=2)).map (·.N)
theorem Px (r:List Act) (a:Act):red (r++[a])=red r++(if a.Kind=2 then [a.N] else []):=by
 grind [red]
theorem Kd (r:List Act):(red r).length<=r.length:=by
 grind [red]
def mQ (a:Act):Int:=(uz a).getD 0
theorem L_ (a:Act):Ah a=some (mQ a)/\uz a=some (mQ a):=by
 obtain ⟨c,aa,_⟩:=Y8 a
 grind [mQ,S9]
def lP (d:Int) (a:Act):Bool:=!decide (a.Kind=0)&&(!decide (a.Kind=2)||!decide (a.N=d))
def lT (r:List Act):Row:=⟨jy (red r),ix (lP (jy (red r))) mQ r⟩
def lQ (d v:Int):Bool:=decide (0<=v)&&!decide (v=d)
def pos (c:List Int):List Int:=c.filter λv=>decide (0<=v)
theorem Pr (r:List Int) (a:Int):pos (r++[a])=pos r++(if 0<=a then [a] else []):=by
 grind [pos]
def lp (c:List Int):Row:=⟨jy (pos c),ix (lQ (jy (pos c))) id c⟩
def ee (d:gS) (a:Nat):List Int:=d.d'.map λr=>r.getD a 0
theorem Pw {g:bO}{n:Nat}(aO:hf g) {r:List Act}(ak:r.length=g.ba.length) (h:∀ a∈r,sv g n a):GK (red r):=by
 have aw:=aO.kW;have au:=aO.h';have:=Kd r;refine ⟨by omega,λx J=>?_⟩;unfold red at J;obtain ⟨a,aP,rfl⟩:=List.mem_map.1 J;rw [List.mem_filter] at aP;have hk:=(h a aP.1).rm (of_decide_eq_true aP.2);have h1:=hk.1;have af:=hk.2;omega
theorem Pq {c:List Int}(ak:c.length<=150) (h:∀ v∈c,v<150):GK (pos c):=by
 have:=List.length_filter_le (λv:Int=>decide (0<=v)) c;refine ⟨by unfold pos; omega,λx J=>?_⟩
 grind [pos]
theorem tD (g:bO) (n:Nat) (d:gS) (aS:sx g n d):Tot (CU d) λr=>r=d.cO.map lT:=by
 have aO:=aS.sG;have aw:=aO.kW;have aF:=aS.gY;have aP:=aS.a;unfold CU;refine .aB (Ξ:=λr:List Row=>r=d.cO.map lT) ?_ λr ao=>.aq ao;refine Tot.upto (λs=>s.2) d.cO.length (λk s=>s.1=(d.cO.take k).map lT) rfl (by omega) rfl λk s hk he bf=>?_;obtain ⟨R,i⟩:=s;simp only at he bf ⊢;subst he bf;rw [eR k (by omega)];refine Tot.br (λaT=>?_) (λdU=>.aq ?_)
 ·have aT:k<d.cO.length:=by omega
  have gm:=lW aT;obtain ⟨l8,sR⟩:=aS.jH _ (List.getElem_mem aT);simp only [eu aT,Option.bind_some];generalize d.cO[k]=r at *;have nM:=Pw aO l8 sR;obtain ⟨wU,Bh,_⟩:=Fq nM;refine .aB (Ξ:=λl:List Int=>l=red r) ?_ λl ak=>?_
  ·refine Tot.upto (λs=>s.2) r.length (λj s=>s.1=red (r.take j)) rfl (by omega) rfl λj s ah he bf=>?_;obtain ⟨L,i⟩:=s;simp only at he bf ⊢;subst he bf;rw [eR j (by omega)];refine Tot.br (λeE=>?_) (λdU=>.aq ?_)
   ·have eE:j<r.length:=by omega
    have nN:=lW eE;have hlen:=Kd (r.take j);rw [List.length_take] at hlen;simp only [eu eE,Option.bind_some];generalize r[j]=a at *;refine .aB (Ξ:=λL:List Int=>L=red (r.take (j+1))) ?_ λr ao=>.aq ⟨eE,rfl,ao⟩;rw [nN,Px];refine .aB (Ξ:=λL:List Int=>L=red (r.take j)++(if a.Kind=2 then [a.N] else [])) (Tot.br (λh=>?_) (λh=>.aq ?_)) λr ao=>.aq ao
    ·rw [if_pos h];exact .aB (Ξ:=λ_=>True) (Tot.ap (by simp [lim]; omega) trivial) λ_ _=>.aq rfl
    grind
   grind
  ·subst ak;rw [wU];refine Tot.aV (.aB (Ξ:=λl:List ca=>l=ix (lP (jy (red r))) mQ r) ?_ λl ak=>?_)
   ·generalize jy (red r)=D;refine Tot.upto (λs=>s.2) r.length (λj s=>s.1=ix (lP D) mQ (r.take j)) rfl (by omega) rfl λj s ah he bf=>?_;obtain ⟨L,i⟩:=s;simp only at he bf ⊢;subst he bf;rw [eR j (by omega)];refine Tot.br (λeE=>?_) (λdU=>.aq ?_)
    ·have eE:j<r.length:=by omega
     have nN:=lW eE;have hlen:=vZ (lP D) mQ (r.take j);have eZ:(r.take j).length=j:=by rw [List.length_take]; omega
     rw [List.length_take] at hlen;simp only [eu eE,Option.bind_some];generalize r[j]=a at *;rw [(L_ a).1];refine .aB (Ξ:=λL:List ca=>L=ix (lP D) mQ (r.take (j+1))) ?_ λr ao=>.aq ⟨eE,rfl,ao⟩;rw [nN,FF,eZ];refine .aB (Ξ:=λc:Bool=>c=lP D a) (Tot.bF (λh=>?_) (λh=>.aq ?_)) λc aa=>?_
     ·refine Tot.bF (λaf=>.aq ?_) (λaf=>.aq ?_)
      all_goals grind [lP]
     ·grind [lP]
     subst aa;refine .aB (Ξ:=λL:List ca=>L=ix (lP D) mQ (r.take j)++(if lP D a=true then [(⟨j,mQ a⟩:ca)] else [])) (Tot.bF (λh=>?_) (λh=>.aq ?_)) λr ao=>.aq ao
     ·rw [if_pos h];exact Tot.aV (.aB (Ξ:=λ_=>True) (Tot.ap (by simp [lim]; omega) trivial) λ_ _=>.aq rfl)
     grind
    grind
   ·subst ak;refine .aB (Ξ:=λ_=>True) (Tot.ap (by simp [lim]; omega) trivial) λ_ _=>.aq ⟨aT,rfl,?_⟩
    grind [lT]
 grind
theorem tB (g:bO) (n:Nat) (d:gS) (aS:sx g n d):Tot (z8 d) λr=>r=d.cO.map lT:=by
 have aO:=aS.sG;have aw:=aO.kW;have aF:=aS.gY;have aP:=aS.a;unfold z8;refine .aB (Ξ:=λr:List Row=>r=d.cO.map lT) ?_ λr ao=>.aq ao;refine Tot.upto (λs=>s.2) d.cO.length (λk s=>s.1=(d.cO.take k).map lT) rfl (by omega) rfl λk s hk he bf=>?_;obtain ⟨R,i⟩:=s;simp only at he bf ⊢;subst he bf;rw [eR k (by omega)];refine Tot.br (λaT=>?_) (λdU=>.aq ?_)
 ·have aT:k<d.cO.length:=by omega
  have gm:=lW aT;obtain ⟨l8,sR⟩:=aS.jH _ (List.getElem_mem aT);simp only [eu aT,Option.bind_some];generalize d.cO[k]=r at *;have nM:=Pw aO l8 sR;obtain ⟨wU,Bh,_⟩:=Fq nM;refine .aB (Ξ:=λl:List Int=>l=red r) ?_ λl ak=>?_
  ·refine Tot.upto (λs=>s.2) r.length (λj s=>s.1=red (r.take j)) rfl (by omega) rfl λj s ah he bf=>?_;obtain ⟨L,i⟩:=s;simp only at he bf ⊢;subst he bf;rw [eR j (by omega)];refine Tot.br (λeE=>?_) (λdU=>.aq ?_)
   ·have eE:j<r.length:=by omega
    have nN:=lW eE;have hlen:=Kd (r.take j);rw [List.length_take] at hlen;simp only [eu eE,Option.bind_some];generalize r[j]=a at *;refine .aB (Ξ:=λL:List Int=>L=red (r.take (j+1))) ?_ λr ao=>.aq ⟨eE,rfl,ao⟩;rw [nN,Px];refine .aB (Ξ:=λL:List Int=>L=red (r.take j)++(if a.Kind=2 then [a.N] else [])) (Tot.br (λh=>?_) (λh=>.aq ?_)) λr ao=>.aq ao
    ·rw [if_pos h];exact .aB (Ξ:=λ_=>True) (Tot.ap (by simp [lim]; omega) trivial) λ_ _=>.aq rfl
    grind
   grind
  ·subst ak;rw [Bh];refine Tot.aV (.aB (Ξ:=λl:List ca=>l=ix (lP (jy (red r))) mQ r) ?_ λl ak=>?_)
   ·generalize jy (red r)=D;refine Tot.upto (λs=>s.2) r.length (λj s=>s.1=ix (lP D) mQ (r.take j)) rfl (by omega) rfl λj s ah he bf=>?_;obtain ⟨L,i⟩:=s;simp only at he bf ⊢;subst he bf;rw [eR j (by omega)];refine Tot.br (λeE=>?_) (λdU=>.aq ?_)
    ·have eE:j<r.length:=by omega
     have nN:=lW eE;have hlen:=vZ (lP D) mQ (r.take j);have eZ:(r.take j).length=j:=by rw [List.length_take]; omega
     rw [List.length_take] at hlen;simp only [eu eE,Option.bind_some];generalize r[j]=a at *;rw [(L_ a).2];refine .aB (Ξ:=λL:List ca=>L=ix (lP D) mQ (r.take (j+1))) ?_ λr ao=>.aq ⟨eE,rfl,ao⟩;rw [nN,FF,eZ];refine .aB (Ξ:=λc:Bool=>c=lP D a) (Tot.bF (λh=>?_) (λh=>.aq ?_)) λc aa=>?_
     ·refine Tot.bF (λaf=>.aq ?_) (λaf=>.aq ?_)
      all_goals grind [lP]
     ·grind [lP]
     subst aa;refine .aB (Ξ:=λL:List ca=>L=ix (lP D) mQ (r.take j)++(if lP D a=true then [(⟨j,mQ a⟩:ca)] else [])) (Tot.bF (λh=>?_) (λh=>.aq ?_)) λr ao=>.aq ao
     ·rw [if_pos h];exact Tot.aV (.aB (Ξ:=λ_=>True) (Tot.ap (by simp [lim]; omega) trivial) λ_ _=>.aq rfl)
     grind
    grind
   ·subst ak;refine .aB (Ξ:=λ_=>True) (Tot.ap (by simp [lim]; omega) trivial) λ_ _=>.aq ⟨aT,rfl,?_⟩
    grind [lT]
 grind
theorem wP (d:gS) (a:Nat):(ee d a).length=d.d'.length:=by simp [ee]
theorem Ea {d:gS}{a q:Nat}(h:q<d.d'.length):(ee d a).take (q+1)=(ee d a).take q++[(d.d'[q]).getD a 0]:=by
 rw [lW (by rw [wP]; exact h)];congr 2;simp [ee]
theorem Ma {g:bO}{n:Nat}{d:gS}(aS:sx g n d) {a:Nat}(aP:a<g.b3.length):∀ v∈ee d a,-1<=v/\v<n:=λv hv=>by
 unfold ee at hv;obtain ⟨r,ao,rfl⟩:=List.mem_map.1 hv;obtain ⟨h1,af⟩:=aS.xP r ao;refine af _ ?_;rw [List.getD_eq_getElem?_getD,List.getElem?_eq_getElem (by omega)];exact List.getElem_mem _
theorem E1 {r:List Int}{a:Nat}(h:a<r.length):idx r (a:Int)=some (r.getD a 0):=by
 rw [eu h,List.getD_eq_getElem?_getD,List.getElem?_eq_getElem h]; rfl
theorem Pp (c:List Int):(pos c).length<=c.length:=List.length_filter_le ..
theorem R1 (g:bO) (n:Nat) (d:gS) (aS:sx g n d):Tot (CV d) λr=>r=(List.range g.b3.length).map λa=>lp (ee d a):=by
 have aO:=aS.sG;have aw:=aO.dz;have aF:=aS.gY;have aP:=aS.o;have aR:0<d.d'.length:=by omega
 obtain ⟨VP,_⟩:=aS.xP _ (List.getElem_mem aR);have i0:idx d.d' 0=some d.d'[0]:=eu (k:=0) aR;unfold CV;refine Tot.br (λh=>absurd h (by omega)) (λ_=>?_);rw [i0];refine Tot.aV (.aB (Ξ:=λr:List Row=>r=(List.range g.b3.length).map λa=>lp (ee d a)) ?_ λr ao=>.aq ao);refine Tot.upto (λs=>s.2) g.b3.length (λk s=>s.1=(List.range k).map λa=>lp (ee d a)) rfl (by omega) rfl λk s hk he bf=>?_;obtain ⟨R,i⟩:=s;simp only at he bf ⊢;subst he bf;rw [eR k (by omega)];refine Tot.br (λaT=>?_) (λdU=>.aq ?_)
 ·have h9:k<g.b3.length:=by omega
  have nM:=Pq (c:=ee d k) (by rw [wP]; omega) λv hv=>by have:=(Ma aS h9 v hv).2; omega
  obtain ⟨wU,Bh,_⟩:=Fq nM;have ha:=wP d k;refine .aB (Ξ:=λl:List Int=>l=pos (ee d k)) ?_ λl ak=>?_
  ·refine Tot.upto (λs=>s.2) d.d'.length (λj s=>s.1=pos ((ee d k).take j)) rfl (by omega) rfl λj s ah he bf=>?_;obtain ⟨L,i⟩:=s;simp only at he bf ⊢;subst he bf;rw [eR j (by omega)];refine Tot.br (λeE=>?_) (λdU=>.aq ?_)
   ·have eE:j<d.d'.length:=by omega
    have nN:=Ea (a:=k) eE;have hlen:=Pp ((ee d k).take j);rw [List.length_take] at hlen;obtain ⟨l8,_⟩:=aS.xP _ (List.getElem_mem eE);simp only [eu eE,Option.bind_some,E1 (show k<(d.d'[j]).length by omega)];generalize (d.d'[j]).getD k 0=v at *;refine .aB (Ξ:=λL:List Int=>L=pos ((ee d k).take (j+1))) ?_ λr ao=>.aq ⟨eE,rfl,ao⟩;rw [nN,Pr];refine .aB (Ξ:=λL:List Int=>L=pos ((ee d k).take j)++(if 0<=v then [v] else [])) (Tot.br (λh=>?_) (λh=>.aq ?_)) λr ao=>.aq ao
    ·rw [if_pos h];exact .aB (Ξ:=λ_=>True) (Tot.ap (by simp [lim]; omega) trivial) λ_ _=>.aq rfl
    ·rw [if_neg h,List.append_nil]
   ·have e:(ee d k).take j=ee d k:=List.take_of_length_le (by omega);rw [e]; rfl
  ·subst ak;rw [wU];refine Tot.aV (.aB (Ξ:=λl:List ca=>l=ix (lQ (jy (pos (ee d k)))) id (ee d k)) ?_ λl ak=>?_)
   ·generalize jy (pos (ee d k))=D;refine Tot.upto (λs=>s.2) d.d'.length (λj s=>s.1=ix (lQ D) id ((ee d k).take j)) rfl (by omega) rfl λj s ah he bf=>?_;obtain ⟨L,i⟩:=s;simp only at he bf ⊢;subst he bf;rw [eR j (by omega)];refine Tot.br (λeE=>?_) (λdU=>.aq ?_)
    ·have eE:j<d.d'.length:=by omega
     have nN:=Ea (a:=k) eE;have hlen:=vZ (lQ D) id ((ee d k).take j);have eZ:((ee d k).take j).length=j:=by rw [List.length_take]; omega
     rw [eZ] at hlen;obtain ⟨l8,_⟩:=aS.xP _ (List.getElem_mem eE);simp only [eu eE,Option.bind_some,E1 (show k<(d.d'[j]).length by omega)];generalize (d.d'[j]).getD k 0=v at *;refine .aB (Ξ:=λL:List ca=>L=ix (lQ D) id ((ee d k).take (j+1))) ?_ λr ao=>.aq ⟨eE,rfl,ao⟩;rw [nN,FF,eZ];refine .aB (Ξ:=λc:Bool=>c=lQ D v) (Tot.bF (λh=>.aq ?_) (λh=>.aq ?_)) λc aa=>?_
     ·unfold lQ; rw [h]; rfl
     ·unfold lQ; rw [h]; rfl
     subst aa;refine .aB (Ξ:=λL:List ca=>L=ix (lQ D) id ((ee d k).take j)++(if lQ D v=true then [(⟨j,id v⟩:ca)] else [])) (Tot.bF (λh=>?_) (λh=>.aq ?_)) λr ao=>.aq ao
     ·rw [if_pos h];exact .aB (Ξ:=λ_=>True) (Tot.ap (by simp [lim]; omega) trivial) λ_ _=>.aq rfl
     ·rw [if_neg (by rw [h]; decide),List.append_nil]
    ·have e:(ee d k).take j=ee d k:=List.take_of_length_le (by omega);rw [e]; rfl
   ·subst ak;refine .aB (Ξ:=λ_=>True) (Tot.ap (by simp [lim]; omega) trivial) λ_ _=>.aq ⟨h9,rfl,?_⟩;show _=(List.range (k+1)).map λa=>lp (ee d a);rw [List.range_succ,List.map_append]; rfl
 ·have:k=g.b3.length:=by omega
  subst this; rfl
theorem nz (g:bO) (n:Nat) (d:gS) (aS:sx g n d):Tot (z_ d) λr=>r=(List.range g.b3.length).map λa=>lp (ee d a):=by
 have aO:=aS.sG;have aw:=aO.dz;have aF:=aS.gY;have aP:=aS.o;have aR:0<d.d'.length:=by omega
 obtain ⟨VP,_⟩:=aS.xP _ (List.getElem_mem aR);have i0:idx d.d' 0=some d.d'[0]:=eu (k:=0) aR;have g0:decide ((0:Int)<(d.d'.length:Int))=true:=decide_eq_true (by omega);unfold z_;refine .aB (Ξ:=λr:List Row=>r=(List.range g.b3.length).map λa=>lp (ee d a)) ?_ λr ao=>.aq ao;refine Tot.upto (λs=>s.2) g.b3.length (λk s=>s.1=(List.range k).map λa=>lp (ee d a)) rfl (by omega) rfl λk s hk he bf=>?_;obtain ⟨R,i⟩:=s;simp only at he bf ⊢;subst he bf;rw [eR k (by omega),g0,i0];simp only [cond_true,Option.bind_some];refine Tot.br (λaT=>?_) (λdU=>.aq ?_)
 ·have h9:k<g.b3.length:=by omega
  have nM:=Pq (c:=ee d k) (by rw [wP]; omega) λv hv=>by have:=(Ma aS h9 v hv).2; omega
  obtain ⟨wU,Bh,_⟩:=Fq nM;have ha:=wP d k;refine .aB (Ξ:=λl:List Int=>l=pos (ee d k)) ?_ λl ak=>?_
  ·refine Tot.upto (λs=>s.2) d.d'.length (λj s=>s.1=pos ((ee d k).take j)) rfl (by omega) rfl λj s ah he bf=>?_;obtain ⟨L,i⟩:=s;simp only at he bf ⊢;subst he bf;rw [eR j (by omega)];refine Tot.br (λeE=>?_) (λdU=>.aq ?_)
   ·have eE:j<d.d'.length:=by omega
    have nN:=Ea (a:=k) eE;have hlen:=Pp ((ee d k).take j);rw [List.length_take] at hlen;obtain ⟨l8,_⟩:=aS.xP _ (List.getElem_mem eE);simp only [eu eE,Option.bind_some,E1 (show k<(d.d'[j]).length by omega)];generalize (d.d'[j]).getD k 0=v at *;refine .aB (Ξ:=λL:List Int=>L=pos ((ee d k).take (j+1))) ?_ λr ao=>.aq ⟨eE,rfl,ao⟩;rw [nN,Pr];refine .aB (Ξ:=λL:List Int=>L=pos ((ee d k).take j)++(if 0<=v then [v] else [])) (Tot.br (λh=>?_) (λh=>.aq ?_)) λr ao=>.aq ao
    ·rw [if_pos h];exact .aB (Ξ:=λ_=>True) (Tot.ap (by simp [lim]; omega) trivial) λ_ _=>.aq rfl
    ·rw [if_neg h,List.append_nil]
   ·have e:(ee d k).take j=ee d k:=List.take_of_length_le (by omega);rw [e]; rfl
  ·subst ak;rw [Bh];refine Tot.aV (.aB (Ξ:=λl:List ca=>l=ix (lQ (jy (pos (ee d k)))) id (ee d k)) ?_ λl ak=>?_)
   ·generalize jy (pos (ee d k))=D;refine Tot.upto (λs=>s.2) d.d'.length (λj s=>s.1=ix (lQ D) id ((ee d k).take j)) rfl (by omega) rfl λj s ah he bf=>?_;obtain ⟨L,i⟩:=s;simp only at he bf ⊢;subst he bf;rw [eR j (by omega)];refine Tot.br (λeE=>?_) (λdU=>.aq ?_)
    ·have eE:j<d.d'.length:=by omega
     have nN:=Ea (a:=k) eE;have hlen:=vZ (lQ D) id ((ee d k).take j);have eZ:((ee d k).take j).length=j:=by rw [List.length_take]; omega
     rw [eZ] at hlen;obtain ⟨l8,_⟩:=aS.xP _ (List.getElem_mem eE);simp only [eu eE,Option.bind_some,E1 (show k<(d.d'[j]).length by omega)];generalize (d.d'[j]).getD k 0=v at *;refine .aB (Ξ:=λL:List ca=>L=ix (lQ D) id ((ee d k).take (j+1))) ?_ λr ao=>.aq ⟨eE,rfl,ao⟩;rw [nN,FF,eZ];refine .aB (Ξ:=λc:Bool=>c=lQ D v) (Tot.bF (λh=>.aq ?_) (λh=>.aq ?_)) λc aa=>?_
     ·unfold lQ; rw [h]; rfl
     ·unfold lQ; rw [h]; rfl
     subst aa;refine .aB (Ξ:=λL:List ca=>L=ix (lQ D) id ((ee d k).take j)++(if lQ D v=true then [(⟨j,id v⟩:ca)] else [])) (Tot.bF (λh=>?_) (λh=>.aq ?_)) λr ao=>.aq ao
     ·rw [if_pos h];exact .aB (Ξ:=λ_=>True) (Tot.ap (by simp [lim]; omega) trivial) λ_ _=>.aq rfl
     ·rw [if_neg (by rw [h]; decide),List.append_nil]
    ·have e:(ee d k).take j=ee d k:=List.take_of_length_le (by omega);rw [e]; rfl
   ·subst ak;refine .aB (Ξ:=λ_=>True) (Tot.ap (by simp [lim]; omega) trivial) λ_ _=>.aq ⟨h9,rfl,?_⟩;show _=(List.range (k+1)).map λa=>lp (ee d a);rw [List.range_succ,List.map_append]; rfl
 ·have:k=g.b3.length:=by omega
  subst this; rfl
theorem XT {α:Type}(keep:α->Bool) (val:α->Int) (l:List α):(ix keep val l).Pairwise λa b=>a.At<b.At:=by
 unfold ix;rw [List.pairwise_map];refine List.Pairwise.sublist List.filter_sublist ?_;rw [List.pairwise_iff_getElem];intro i j hi ah ach;simp only [List.getElem_zipIdx];omega
abbrev fG:=List ca
structure lA (r:fG):Prop where
 ml:∀ p∈r,0<=p.At/\p.At<=999
 nd:(r.map (·.At)).Nodup
def Fit (iE:List Int) (r:fG) (b:Nat):Prop:=∀ p∈r,iE.getD (b+p.At.toNat) 0=0
theorem sW {α:Type}{l:List α}{k:Nat}(h:k<l.length):idx l (k:Int)=some l[k]:=by simp [idx,h]
theorem Sk (p:ca) (b:Nat) (iE:List Int) (au:0<=p.At/\p.At<=999) (av:b<=1000000000000) (aa:iE.length<=1000000000000):Tot (Db p b iE) λc=>(c=true↔iE.getD (b+p.At.toNat) 0≠0):=by
 unfold Db;have hw:aL ((b:Int)+p.At)=((b+p.At.toNat:Nat):Int):=by rw [cJ]; omega
 rw [hw];refine .aB (Ξ:=λc=>(c=true↔iE.getD (b+p.At.toNat) 0≠0)) (Tot.br (λh=>?_) (λh=>.aq ?_)) λc aa=>.aq aa
 ·have ak:b+p.At.toNat<iE.length:=by omega
  rw [sW ak];refine Tot.aV (.aq ?_);rw [List.getD_eq_getElem?_getD,List.getElem?_eq_getElem ak];simp
 ·have ak:¬ b+p.At.toNat<iE.length:=by omega
  rw [List.getD_eq_getElem?_getD,List.getElem?_eq_none (by omega)];simp
theorem Sd (iE:List Int) (r:fG) (b:Nat) (ao:∀ p∈r,0<=p.At/\p.At<=999) (ak:r.length<=100000) (av:b<=1000000000000) (aa:iE.length<=1000000000000):Tot (x5 iE r b) λc=>(c=true↔Fit iE r b):=by
 unfold x5 FA Fy;refine .aB (Ξ:=λx=>x=true↔¬ Fit iE r b) (.aB (Ξ:=λx=>(x=-1/\Fit iE r b)\/(0<=x/\¬ Fit iE r b)) ?_ λx J=>.aq ?_) λx J=>.aq ?_
 ·refine Tot.aB (Tot.scan r (λp=>iE.getD (b+p.At.toNat) 0=0) (λx:Int=>0<=x/\¬ Fit iE r b) (by omega) (λs y aR h1 hi hm=>?_) (λs aC=>by simp [aC])) λx J=>?_
  ·refine Tot.br (λ_=>?_) (λh=>absurd h1 h);rw [hi];refine Tot.aV (.aB (Sk y b iE (ao y hm) av aa) λc Nq=>Tot.bF (λh=>.aq ⟨aR,λaW=>(Nq.1 h) (aW y hm)⟩) (λh=>.aq ⟨?_,?_⟩))
   ·rw [cJ]; omega
   ·exact Classical.byContradiction λaF=>by rw [Nq.2 aF] at h; cases h
  ·rcases x with _ | x
   ·exact .aq (.inl ⟨rfl,J⟩)
   ·exact .aq (.inr J)
 ·rcases J with ⟨rfl,aW⟩ | ⟨aR,aW⟩
  ·simp [aW]
  ·simp [aR,aW]
 ·cases x <;> simp_all
theorem q7 (l:List Int) (h:l.length<=100000000000000000):Tot (oY l l) λc=>c=true:=by
 unfold oY;refine Tot.qg (λh=>absurd rfl h) (λ_=>?_);refine Tot.aB (Tot.scan l (λ_=>True) (λ_=>False) h (λs y aR h1 hi hm=>?_) (λs aC=>by simp [aC])) λx J=>?_
 ·refine Tot.br (λ_=>?_) (λh=>absurd h1 h);rw [hi];refine Tot.aV (Tot.aV (Tot.qg (λh=>absurd rfl h) (λ_=>.aq ⟨?_,trivial⟩)));rw [cJ]; omega
 ·rcases x with _ | x
  ·exact .aq rfl
  ·exact (J:False).elim
theorem R6 (a b:Int):uA a b=some (if a<b then -1 else if b<a then 1 else 0):=by
 unfold uA;have h:∀ x,vX x=some false:=λx=>by simp [vX]
 rw [h,h];by_cases h1:a<b
 ·simp [h1]
 ·by_cases af:b<a <;> simp [h1,af]
theorem Sc (a b:Int):C4 [a,b]=some (if a=0 then b else a):=by
 unfold C4;have gK:∀ (f:Int->Option (Int ⊕ (Unit ⊕ Int))),f 0=(if a=0 then some (.inl 1) else some (.inr (.inr a)))->f 1=(if b=0 then some (.inl 2) else some (.inr (.inr b)))->f 2=some (.inr (.inl ()))->b4 f 0=some (if a=0 then (if b=0 then .inl () else .inr b) else .inr a):=by
  intro f x y z;show iter f (999999999999999997+1+1+1) _=_;by_cases aP:a=0
  ·by_cases av:b=0 <;> simp only [iter,x,y,z,aP,av,if_true,if_false]
  ·simp only [iter,x,aP,if_false]
 rw [gK _ ?_ ?_ ?_]
 ·by_cases aP:a=0
  ·by_cases av:b=0 <;> simp [aP,av]
  ·simp [aP]
 ·show (bif decide ((0:Int)<2) then _ else _)=_;have e:idx [a,b] 0=some a:=rfl;simp only [e,Option.bind_some];by_cases aP:a=0 <;> simp [aP];rfl
 ·show (bif decide ((1:Int)<2) then _ else _)=_;have e:idx [a,b] 1=some b:=rfl;simp only [e,Option.bind_some];by_cases av:b=0 <;> simp [av];rfl
 ·rfl
def DM (rows:List fG) (a b:Int):Prop:=∃ x y,idx rows a=some x/\idx rows b=some y/\(y.length<x.length\/(x.length=y.length/\a<b))
theorem E2 {α:Type}{l:List α}{i:Int}(aR:0<=i) (h1:i<l.length):∃ y,idx l i=some y/\y∈l:=by
 have aT:i.toNat<l.length:=by omega
 exact ⟨l[i.toNat],by simp [idx,aR,aT],List.getElem_mem aT⟩
theorem Sb (rows:List fG) (a b:Int) (aP:0<=a/\a<rows.length) (av:0<=b/\b<rows.length):∃ v,vW a b rows=some v/\(v<0↔DM rows a b):=by
 obtain ⟨x,J,_⟩:=E2 aP.1 aP.2;obtain ⟨y,ax,_⟩:=E2 av.1 av.2;unfold vW;rw [J,ax];simp only [Option.bind_some,R6,Sc];have fm:DM rows a b↔(y.length<x.length\/(x.length=y.length/\a<b)):=by
  unfold DM;rw [J,ax];constructor
  ·rintro ⟨x',y',cz,cf,h⟩;cases cz; cases cf; exact h
  ·intro h;exact ⟨x,y,rfl,rfl,h⟩
 refine ⟨_,rfl,?_⟩;rw [fm];by_cases h1:(y.length:Int)<x.length
 ·simp only [h1,if_true];rw [if_neg (by decide)];constructor
  ·intro _; exact .inl (by omega)
  ·intro _; decide
 ·by_cases af:(x.length:Int)<y.length
  ·simp only [h1,af,if_true,if_false];rw [if_neg (by decide)];constructor
   ·intro h; exact absurd h (by decide)
   ·rintro (h | ⟨h,_⟩) <;> omega
  ·simp only [h1,af,if_false,if_true];by_cases aI:a<b
   ·simp only [aI,if_true];constructor
    ·intro _; exact .inr ⟨by omega,trivial⟩
    ·intro _; decide
   ·simp only [aI,if_false];constructor
    ·intro h
     split at h <;> omega
    ·rintro (h | ⟨_,h⟩)
     ·omega
     ·exact h.elim
structure tp (c:fC) (r:fG) (i b:Nat) (v b8:List Int):Prop where
 len:v.length=b8.length
 lo:c.b5.length<=b8.length
 Oo:∀ p∈r,b+p.At.toNat<b8.length
 hi:b8.length=c.b5.length\/∃ p∈r,b8.length=b+p.At.toNat+1
 iE:∀ p∈r,b8.getD (b+p.At.toNat) 0=(i:Int)+1
 Be:∀ k,(∀ p∈r,b+p.At.toNat≠k)->b8.getD k 0=c.b5.getD k 0
 val:∀ p∈r,v.getD (b+p.At.toNat) 0=p.b9
 KK:∀ k,(∀ p∈r,b+p.At.toNat≠k)->v.getD k 0=c.b9.getD k 0
structure Step (r:fG) (i:Nat) (c fS:fC) (b:Nat):Prop where
 fit:Fit c.b5 r b
 least:∀ eC,eC<b->¬ Fit c.b5 r eC
 base:fS.cS=c.cS.set i (b:Int)
 put:tp c r i b fS.b9 fS.b5
theorem Fit.same {iE:List Int}{r dm:fG}(h:∀ p,p∈r↔p∈dm) {b:Nat}:Fit iE r b↔Fit iE dm b :=
 ⟨λf p au=>f p ((h p).2 au),λf p au=>f p ((h p).1 au)⟩
inductive dQ (rows:List fG):List Nat->fC->Prop
 | nil:dQ rows [] ⟨List.replicate rows.length 0,[],[]⟩
 | cons {i b:Nat}{l:List Nat}{c fS:fC}{r:fG}(ao:rows[i]?=some r) (hi:i∉l) (h:dQ rows l c) (aC:Step r i c fS b):dQ rows (i::l) fS
theorem dQ.len {rows:List fG}{l:List Nat}{c:fC}(h:dQ rows l c):c.b9.length=c.b5.length/\c.cS.length=rows.length:=by
 induction h with
 | nil=>simp
 | cons _ _ _ aC aU=>exact ⟨aC.put.len,by rw [aC.base,List.length_set]; exact aU.2⟩
theorem dQ.rest {rows:List fG}{l:List Nat}{c:fC}(h:dQ rows l c):∀ j,j<rows.length->j∉l->c.cS[j]?=some 0:=by
 induction h with
 | nil=>intro j ah _; simp [ah]
 | @cons i b l c fS r ao hi h aC aU =>
  intro j ah aF;rw [aC.base,List.getElem?_set_ne (by rintro rfl; exact aF (by simp))];exact aU j ah λbY=>aF (by simp [bY])
theorem pad (x y:Int) (K:Nat) (dj:aL (x+y)=(K:Int)) (abZ:K<=1000000000) (v b8:List Int) (ak:v.length=b8.length) (av:b8.length<=1000000000) :
  Tot (b4 (R:=List Int × List Int) (λ(s:List Int × List Int) =>
(bif decide ((s.2.length:Int)<=aL (x+y)) then
(da s.2 [0]).bind λc0 =>
(da s.1 [0]).bind λgl =>
some (.inl (s.1++[0],s.2++[0]))
else
some (.inr (s.1,s.2)))) (v,b8)) λr=>r.1.length=r.2.length/\r.2.length=max b8.length (K+1)/\(∀ k,r.1.getD k 0=v.getD k 0)/\∀ k,r.2.getD k 0=b8.getD k 0:=by
 have app:∀ (l:List Int) k,(l++[0]).getD k 0=l.getD k 0:=by
  intro l k;rw [List.getD_eq_getElem?_getD,List.getD_eq_getElem?_getD];by_cases hk:k<l.length
  ·rw [List.getElem?_append_left hk]
  ·rw [List.getElem?_append_right (by omega),List.getElem?_eq_none (l:=l) (by omega)];by_cases aR:k - l.length=0
   ·rw [aR]; rfl
   ·rw [List.getElem?_eq_none (by simp; omega)]
 refine Tot.loop (λs=>s.1.length=s.2.length/\b8.length<=s.2.length/\s.2.length<=max b8.length (K+1)/\(∀ k,s.1.getD k 0=v.getD k 0)/\∀ k,s.2.getD k 0=b8.getD k 0) (λs=>(K+1) - s.2.length) ⟨ak,Nat.le_refl _,Nat.le_max_left _ _,λ_=>rfl,λ_=>rfl⟩ (by show (K+1) - b8.length<1000000000000000000; omega) λs aC=>?_;obtain ⟨h1,af,aI,bK,cH⟩:=aC;rw [dj];refine Tot.br (λhle=>?_) (λacb=>.aq ⟨h1,?_,bK,cH⟩)
 ·refine .aB (Ξ:=λ_=>True) (Tot.ap (by simp [lim]; omega) trivial) λ_ _=>.aB (Ξ:=λ_=>True) (Tot.ap (by simp [lim]; omega) trivial) λ_ _=>.aq ⟨⟨?_,?_,?_,λk=>?_,λk=>?_⟩,?_⟩
  ·show (s.1++[0]).length=(s.2++[0]).length; simp [h1]
  ·show b8.length<=(s.2++[0]).length; simp; omega
  ·show (s.2++[0]).length<=_; simp; omega
  ·exact (app _ _).trans (bK k)
  ·exact (app _ _).trans (cH k)
  ·show (K+1) - (s.2++[0]).length<(K+1) - s.2.length;simp; omega
 ·show s.2.length=_; omega
theorem zd (l:List Int) (K k:Nat) (x:Int) (h:K<l.length):(l.set K x).getD k 0=if k=K then x else l.getD k 0:=by
 rw [List.getD_eq_getElem?_getD,List.getElem?_set];by_cases e:k=K
 ·subst e; simp [h]
 ·simp [e,Ne.symm e,List.getD_eq_getElem?_getD]
theorem tp.more {c:fC}{r:fG}{p:ca}{i b:Nat}{v b8 gz Bd:List Int}(h:tp c r i b v b8) (au:∀ q∈r,q.At.toNat≠p.At.toNat) (ak:gz.length=Bd.length) (hlen:Bd.length=max b8.length (b+p.At.toNat+1)) (hv:∀ k,gz.getD k 0=v.getD k 0) (aa:∀ k,Bd.getD k 0=b8.getD k 0) :
  tp c (r++[p]) i b (gz.set (b+p.At.toNat) p.b9) (Bd.set (b+p.At.toNat) ((i:Int)+1)):=by
 have dj:b+p.At.toNat<Bd.length:=by omega
 have mem:∀ {Q:ca->Prop},(∀ q∈r,Q q)->Q p->∀ q∈r++[p],Q q:=λh1 af q bg=>by
  rcases List.mem_append.1 bg with bg | bg
  ·exact h1 q bg
  ·rw [List.mem_singleton.1 bg]; exact af
 refine ⟨by simp [ak],?_,mem (λq bg=>?_) ?_,?_,mem (λq bg=>?_) ?_,λk hk=>?_,mem (λq bg=>?_) ?_,λk hk=>?_⟩
 ·rw [List.length_set]; have:=h.lo; omega
 ·rw [List.length_set]; have:=h.Oo q bg; omega
 ·rw [List.length_set]; exact dj
 ·rw [List.length_set];by_cases hm:b8.length<=b+p.At.toNat+1
  ·exact .inr ⟨p,by simp,by omega⟩
  ·rcases h.hi with e | ⟨q,bg,e⟩
   ·exact .inl (by omega)
   ·exact .inr ⟨q,by simp [bg],by omega⟩
 ·rw [zd _ _ _ _ dj,if_neg (by have:=au q bg; omega),aa]; exact h.iE q bg
 ·rw [zd _ _ _ _ dj,if_pos rfl]
 ·rw [zd _ _ _ _ dj,if_neg (λe=>hk p (by simp) e.symm),aa]; exact h.Be k λq bg=>hk q (by simp [bg])
 ·rw [zd _ _ _ _ (by rw [ak]; exact dj),if_neg (by have:=au q bg; omega),hv]; exact h.val q bg
 ·rw [zd _ _ _ _ (by rw [ak]; exact dj),if_pos rfl]
 ·rw [zd _ _ _ _ (by rw [ak]; exact dj),if_neg (λe=>hk p (by simp) e.symm),hv]; exact h.KK k λq bg=>hk q (by simp [bg])
theorem tp.nil (c:fC) (i b:Nat) (ak:c.b9.length=c.b5.length):tp c [] i b c.b9 c.b5 :=
 ⟨ak,Nat.le_refl _,λ_ h=>absurd h (by simp),.inl rfl,λ_ h=>absurd h (by simp),λ_ _=>rfl,λ_ h=>absurd h (by simp),λ_ _=>rfl⟩
theorem Fit.My {iE:List Int}{r:fG}{b:Nat}(h:iE.length<=b):Fit iE r b:=λp _=>by
 rw [List.getD_eq_getElem?_getD,List.getElem?_eq_none (by omega)]; rfl
theorem PX {r:fG}{k:Nat}(ao:lA r) (hk:k<r.length):∀ q∈r.take k,q.At.toNat≠(r[k]).At.toNat:=by
 intro q bg e;obtain ⟨j,ah,rfl⟩:=List.mem_iff_getElem.1 bg;rw [List.length_take] at ah;have eZ:j<r.length:=by omega
 rw [List.getElem_take] at e;have h1:=ao.ml _ (List.getElem_mem eZ);have af:=ao.ml _ (List.getElem_mem hk);have ft:=ao.nd;have:=(List.getElem_inj (h₀:=by simpa using eZ) (h₁:=by simpa using hk) ft).1 (by simp only [List.getElem_map]; omega);omega
structure p' (rows:List fG):Prop where
 n:rows.length<=400
 rows:∀ r∈rows,lA r
structure DX (rows:List fG):Prop where
 n:rows.length<=1000
 r:∀ r∈rows,r.length<=1000
theorem Yn (rows:List fG) (fm:DX rows) (i:Nat) (r:fG) (ao:rows[i]?=some r) (lM:lA r) (c:fC) (aa:c.b5.length<=900000) (aR:c.cS[i]?=some 0) (fits:List Int->fG->Int->Option Bool)
  (aW:∀ b:Nat,b<=1000000->Tot (fits c.b5 r b) λx=>(x=true↔Fit c.b5 r b)) :
  Tot (b4 (R:=List Int) (λ(df:List Int) =>
(idx rows (i:Int)).bind λfZ =>
(idx df (i:Int)).bind λfB =>
(fits c.b5 fZ fB).bind λgb =>
(bif !gb then
(idx df (i:Int)).bind λgC =>
some (.inl (df.set (i:Int).toNat (aL (gC+1))))
else
some (.inr df))) c.cS) λB=>∃ b:Nat,B=c.cS.set i (b:Int)/\Fit c.b5 r b/\(∀ eC,eC<b->¬ Fit c.b5 r eC)/\b<=c.b5.length:=by
 have ua:i<c.cS.length:=(List.getElem?_eq_some_iff.1 aR).1;have t_:idx rows (i:Int)=some r:=by simp [idx,ao]
 have VV:c.cS=c.cS.set i 0:=by
  apply List.ext_getElem?;intro k;rw [List.getElem?_set];by_cases e:i=k
  ·subst e; rw [aR]; simp [ua]
  ·simp [e]
 have key:Tot (b4 (R:=List Int) (λ(df:List Int) =>
(idx rows (i:Int)).bind λfZ =>
(idx df (i:Int)).bind λfB =>
(fits c.b5 fZ fB).bind λgb =>
(bif !gb then
(idx df (i:Int)).bind λgC =>
some (.inl (df.set (i:Int).toNat (aL (gC+1))))
else
some (.inr df))) (c.cS.set i 0)) λB=>∃ b:Nat,B=c.cS.set i (b:Int)/\Fit c.b5 r b/\(∀ eC,eC<b->¬ Fit c.b5 r eC)/\b<=c.b5.length:=by
  refine Tot.loop (λs=>∃ b:Nat,s=c.cS.set i (b:Int)/\(∀ eC,eC<b->¬ Fit c.b5 r eC)/\b<=c.b5.length) (λs=>c.b5.length+1 - (s.getD i 0).toNat) ⟨0,rfl,λeC h=>absurd h (Nat.not_lt_zero _),Nat.zero_le _⟩ (by show c.b5.length+1 - _<1000000000000000000; omega) λs aC=>?_;obtain ⟨b,rfl,ak,av⟩:=aC;have VY:idx (c.cS.set i (b:Int)) (i:Int)=some (b:Int):=by
   simp [idx,ua]
  rw [t_,VY];refine Tot.aV (Tot.aV (.aB (aW b (by omega)) λx J=>?_));refine Tot.bF (λh=>Tot.aV (.aq ⟨⟨b+1,?_,λeC l4=>?_,?_⟩,?_⟩)) (λh=>.aq ⟨b,rfl,J.1 (by simpa using h),ak,av⟩)
  ·have hw:aL ((b:Int)+1)=((b+1:Nat):Int):=by rw [cJ]; omega
   rw [hw];show (c.cS.set i (b:Int)).set i _=_;rw [List.set_set]
  ·by_cases e:eC=b
   ·subst e;intro w9;rw [J.2 w9] at h; cases h
   ·exact ak eC (by omega)
  ·have:¬ c.b5.length<=b:=λaQ=>by
    rw [J.2 (Fit.My aQ)] at h; cases h
   omega
  ·have hw:aL ((b:Int)+1)=((b+1:Nat):Int):=by rw [cJ]; omega
   rw [hw];show c.b5.length+1 - ((((c.cS.set i (b:Int)).set i ((b+1:Nat):Int)).getD i 0).toNat)<c.b5.length+1 - ((c.cS.set i (b:Int)).getD i 0).toNat;rw [List.set_set];have g:∀ x:Int,(c.cS.set i x).getD i 0=x:=λx=>by simp [List.getD_eq_getElem?_getD,ua]
   rw [g,g];have:¬ c.b5.length<=b:=λaQ=>by
    rw [J.2 (Fit.My aQ)] at h; cases h
   omega
 rw [<- VV] at key;exact key
theorem XV (r:fG) (lM:lA r) (l8:r.length<=1000) (i b:Nat) (hi:i<=100000) (c:fC) (ha:c.b9.length=c.b5.length) (aa:c.b5.length<=900000) (av:b<=c.b5.length)
  (f:List Int × List Int × Int->Option ((List Int × List Int × Int) ⊕ (List Int × List Int)))
  (aW:∀ (v b8:List Int) (k:Nat) (hk:k<r.length),f (v,b8,(k:Int))=(b4 (R:=List Int × List Int) (λ(s:List Int × List Int) =>
(bif decide ((s.2.length:Int)<=aL ((b:Int)+(r[k]).At)) then
(da s.2 [0]).bind λc0 =>
(da s.1 [0]).bind λgl =>
some (.inl (s.1++[0],s.2++[0]))
else
some (.inr (s.1,s.2)))) (v,b8)).bind λeo =>
(idx eo.2 (aL ((b:Int)+(r[k]).At))).bind λrJ =>
(idx eo.1 (aL ((b:Int)+(r[k]).At))).bind λjB =>
some (.inl (eo.1.set (aL ((b:Int)+(r[k]).At)).toNat (r[k]).b9,eo.2.set (aL ((b:Int)+(r[k]).At)).toNat (aL ((i:Int)+1)),aL ((k:Int)+1))))
  (he:∀ (v b8:List Int) (k:Int),¬ k<r.length->f (v,b8,k)=some (.inr (v,b8))) :
  Tot (b4 f (c.b9,c.b5,0)) λx=>tp c r i b x.1 x.2/\x.2.length<=c.b5.length+1000:=by
 refine Tot.count (λs=>s.2.2) r.length (λs=>∃ k:Nat,k<=r.length/\s.2.2=(k:Int)/\tp c (r.take k) i b s.1 s.2.1) ⟨0,Nat.zero_le _,rfl,tp.nil c i b ha⟩ (by show (r.length:Int) - 0<_; omega) λs aC=>?_;obtain ⟨v,b8,kT⟩:=s;obtain ⟨k,hk,rfl,cx⟩:=aC;simp only at cx ⊢;by_cases aT:k<r.length
 ·rw [aW v b8 k aT];have au:=lM.ml _ (List.getElem_mem aT);have dj:aL ((b:Int)+(r[k]).At)=((b+(r[k]).At.toNat:Nat):Int):=by rw [cJ]; omega
  have ab5:b8.length<=1000000:=by
   rcases cx.hi with e | ⟨q,bg,e⟩
   ·omega
   ·have:=lM.ml q (List.mem_of_mem_take bg);omega
  refine .aB (pad _ _ _ dj (by omega) v b8 cx.len (by omega)) λx J=>?_;obtain ⟨h1,af,aI,bK⟩:=J;rw [dj];have zp:b+(r[k]).At.toNat<x.2.length:=by omega
  have Vw:b+(r[k]).At.toNat<x.1.length:=by omega
  rw [sW zp,sW Vw];have We:aL ((i:Int)+1)=(i:Int)+1:=by rw [cJ]; omega
  have qw:aL ((k:Int)+1)=((k+1:Nat):Int):=by rw [cJ]; omega
  rw [We,qw];refine Tot.aV (Tot.aV (.aq ⟨⟨k+1,by omega,rfl,?_⟩,?_,?_⟩))
  ·rw [List.take_add_one,List.getElem?_eq_getElem aT];exact cx.more (PX lM aT) h1 af aI bK
  ·grind
  grind
 ·rw [he v b8 k (by omega)];have:k=r.length:=by omega
  subst this;rw [List.take_length] at cx;refine .aq ⟨cx,?_⟩;show b8.length<=c.b5.length+1000;rcases cx.hi with e | ⟨q,bg,e⟩
  ·omega
  ·have:=lM.ml q bg;omega
theorem lA.snoc {r:fG}{p:ca}(h:lA r) (au:0<=p.At/\p.At<=999) (aF:p.At∉r.map (·.At)):lA (r++[p]):=by
 refine ⟨λq bg=>?_,?_⟩
 ·rcases List.mem_append.1 bg with bg | bg
  ·exact h.ml q bg
  ·rw [List.mem_singleton.1 bg]; exact au
 ·rw [List.map_append,List.nodup_append];refine ⟨h.nd,by simp,λa aP b av e=>?_⟩;have av:b∈[p.At]:=av;rw [List.mem_singleton.1 av] at e;exact aF (e ▸ aP)
theorem lA.nil:lA []:=⟨λ_ h=>absurd h (by simp),by simp⟩
theorem lA.bad {r:fG}{k:Nat}(hk:k<r.length) (h:¬ (0<=(r[k]).At/\(r[k]).At<=999)\/(r[k]).At∈(r.take k).map (·.At)):¬ lA r:=by
 intro ao;rcases h with h | h
 ·exact h (ao.ml _ (List.getElem_mem hk))
 ·obtain ⟨q,bg,e⟩:=List.mem_map.1 h;exact PX ao hk q bg (by have e:q.At=(r[k]).At:=e; rw [e])
theorem X' {rows:List fG}{r:fG}(ao:r∈rows) (h:¬ lA r):¬ p' rows:=λbY=>h (bY.rows r ao)
theorem KE {r:fG}{k:Nat}(h:k<r.length):r.take (k+1)=r.take k++[r[k]]:=by
 rw [List.take_add_one,List.getElem?_eq_getElem h]; rfl
theorem Sa (rows:List fG) (fm:DX rows):Tot (Ak rows) λc=>(c=true↔p' rows):=by
 unfold Ak;have aF:=fm.n;refine Tot.br (λh=>.aq ⟨λh=>(by cases h),λbY=>by have:=bY.n; omega⟩) (λabG=>?_);refine Tot.aB (Tot.scan rows lA (λx:Bool=>x=false/\¬ p' rows) (by omega) (λs r aR h1 hi hm=>?_) (λs aC=>by simp [aC])) λx J=>?_
 ·refine Tot.br (λ_=>?_) (λh=>absurd h1 h);rw [hi];have l8:=fm.r r hm;refine Tot.aV (.aB (Ξ:=hK (λ_=>lA r) (λx:Bool=>x=false/\¬ p' rows)) ?_ λx J=>?_)
  ·refine Tot.count (λs=>s.2) r.length (λs=>∃ k:Nat,k<=r.length/\s.2=(k:Int)/\s.1.length=1000/\lA (r.take k)/\∀ j,j<1000->(s.1.getD j false=true↔(j:Int)∈(r.take k).map (·.At))) ⟨0,Nat.zero_le _,rfl,List.length_replicate ..,lA.nil,λj ah=>by
   show ((List.replicate 1000 false).getD j false=true↔_);rw [List.getD_eq_getElem?_getD,List.getElem?_replicate,if_pos ah];simp⟩ (by show (r.length:Int) - 0<_; omega) λs aC=>?_
   obtain ⟨met,kT⟩:=s;obtain ⟨k,hk,rfl,vl,dd,IG⟩:=aC;simp only at vl IG ⊢;refine Tot.br (λaT=>?_) (λdU=>.aq ?_)
   ·have aT:k<r.length:=by omega
    rw [sW aT];have hw:aL ((k:Int)+1)=((k+1:Nat):Int):=by rw [cJ]; omega
    rw [hw];have et:0<=(r[k]).At/\(r[k]).At<=999->xq 1000 met (r[k]).At=some (met.getD (r[k]).At.toNat false):=by
     intro h;unfold xq;rw [if_pos (by omega)];have:(r[k]).At.toNat<met.length:=by omega
     simp [idx,h.1,this,List.getD_eq_getElem?_getD]
    refine Tot.aV (.aB (Ξ:=λc=>(c=true↔(¬ (0<=(r[k]).At/\(r[k]).At<=999)\/(r[k]).At∈(r.take k).map (·.At)))) ?_ λc aa=>Tot.bF (λh=>.aq ⟨rfl,X' hm (lA.bad aT (aa.1 h))⟩) (λh=>?_))
    ·refine Tot.br (λh=>.aq ⟨λ_=>.inl (by omega),λ_=>rfl⟩) (λh=>Tot.br (λaQ=>.aq ⟨λ_=>.inl (by omega),λ_=>rfl⟩) (λaQ=>?_));have au:0<=(r[k]).At/\(r[k]).At<=999:=by omega
     rw [et au];refine Tot.aV (.aq ?_);rw [IG _ (by omega)];have e:(((r[k]).At.toNat:Nat):Int)=(r[k]).At:=by omega
     rw [e];exact ⟨λh=>.inr h,λh=>h.resolve_left λaF=>aF au⟩
    ·have Vh:(0<=(r[k]).At/\(r[k]).At<=999)/\(r[k]).At∉(r.take k).map (·.At):=by
      refine ⟨Classical.byContradiction λaF=>?_,λaF=>?_⟩
      ·rw [aa.2 (.inl aF)] at h; cases h
      ·rw [aa.2 (.inr aF)] at h; cases h
     obtain ⟨au,aF⟩:=Vh;rw [et au];refine Tot.aV (.aq ⟨⟨k+1,by omega,rfl,by show (met.set _ _).length=_; simp [vl],?_,λj ah=>?_⟩,?_,?_⟩)
     ·rw [KE aT]; exact dd.snoc au aF
     ·show ((met.set (r[k]).At.toNat true).getD j false=true↔_);rw [KE aT,List.map_append,List.mem_append,List.getD_eq_getElem?_getD,List.getElem?_set];by_cases e:(r[k]).At.toNat=j
      ·subst e;have ak:(r[k]).At.toNat<met.length:=by omega
       have cf:(((r[k]).At.toNat:Nat):Int)=(r[k]).At:=by omega
       rw [if_pos rfl,if_pos ak,cf];simp
      ·rw [if_neg e,<- List.getD_eq_getElem?_getD,IG j ah];constructor
       ·exact .inl
       ·rintro (h | h)
        ·exact h
        ·have h:(j:Int)∈[(r[k]).At]:=h;have:=List.mem_singleton.1 h;omega
     ·show (k:Int)<((k+1:Nat):Int); omega
     ·show ((k+1:Nat):Int)<=_; omega
   ·have:k=r.length:=by omega
    subst this;rw [List.take_length] at dd;exact dd
  ·rcases x with _ | x
   ·exact .aq ⟨by rw [cJ]; omega,J⟩
   ·exact .aq J
 ·rcases x with _ | x
  ·have J:∀ r∈rows,lA r:=J;exact .aq ⟨λ_=>⟨by omega,J⟩,λ_=>rfl⟩
  ·obtain ⟨rfl,av⟩:x=false/\¬ p' rows:=J;exact .aq ⟨λh=>(by cases h),λh=>absurd h av⟩
def kv (rows:List fG) (a:Int):Nat:=((idx rows a).map List.length).getD 0
def jv (rows:List fG) (a b:Int):Bool:=decide (kv rows b<kv rows a\/(kv rows a=kv rows b/\a<b))
theorem OK {rows:List fG}{a b:Int}:jv rows a b=true↔(kv rows b<kv rows a\/(kv rows a=kv rows b/\a<b)):=by simp [jv]
theorem JJ {rows:List fG}{a b:Int}:jv rows a b=false↔¬ (kv rows b<kv rows a\/(kv rows a=kv rows b/\a<b)):=by simp [jv]
theorem OL (rows:List fG):SWO (jv rows) where
 irrefl x:=by rw [JJ]; omega
 trans x y z h1 af:=by rw [OK] at *; omega
 ntrans x y z h1 af:=by rw [JJ] at *; omega
theorem JK {rows:List fG}{a b:Int}(h1:jv rows a b=false) (af:jv rows b a=false):a=b:=by
 rw [JJ] at *; omega
theorem L3 (rows:List fG) (a b:Int) (aP:0<=a/\a<rows.length) (av:0<=b/\b<rows.length):∃ v,vW a b rows=some v/\(v<0↔jv rows a b=true):=by
 obtain ⟨v,hv,h⟩:=Sb rows a b aP av;refine ⟨v,hv,h.trans ?_⟩;obtain ⟨x,J,_⟩:=E2 aP.1 aP.2;obtain ⟨y,ax,_⟩:=E2 av.1 av.2;rw [OK];unfold DM kv;rw [J,ax];constructor
 ·rintro ⟨x',y',cz,cf,h⟩;cases cz; cases cf; exact h
 ·intro h;exact ⟨x,y,rfl,rfl,h⟩
theorem Ch {α:Type}{lt lt':α->α->Bool}(x:α):∀ l:List α,(∀ y∈l,lt y x=lt' y x)->ins lt x l=ins lt' x l
 | [],_=>rfl
 | y::l,h=>by
  simp only [ins,h y (by simp)];rw [Ch x l λz aY=>h z (by simp [aY])]
theorem Cj {α:Type}{lt lt':α->α->Bool}:∀ l:List α,(∀ a∈l,∀ b∈l,lt a b=lt' a b)->h_ lt l=h_ lt' l
 | [],_=>rfl
 | x::l,h=>by
  simp only [h_];rw [Cj l λa aP b av=>h a (by simp [aP]) b (by simp [av])];exact Ch x _ λy ax=>h y (by simp [(sX lt' l).mem_iff.1 ax]) x (by simp)
structure p8 (rows:List fG) (o:List Nat):Prop where
 mem:∀ i,i∈o↔∃ r,rows[i]?=some r/\r≠[]
 nd:o.Nodup
 Kb:o.Pairwise λ(a b:Nat)=>jv rows (b:Int) (a:Int)=false
theorem p8.uniq {rows:List fG}{o gj:List Nat}(h:p8 rows o) (aQ:p8 rows gj):o=gj :=
 List.Perm.eq_of_pairwise (le:=λ(a b:Nat)=>jv rows (b:Int) (a:Int)=false) (λa b _ _ h1 af=>by have:=JK af h1; omega) h.Kb aQ.Kb ((List.perm_ext_iff_of_nodup h.nd aQ.nd).2 λi=>(h.mem i).trans (aQ.mem i).symm)
theorem p8.lt {rows:List fG}{o:List Nat}(h:p8 rows o) {i:Nat}(hi:i∈o):i<rows.length:=by
 obtain ⟨r,ao,_⟩:=(h.mem i).1 hi;exact (List.getElem?_eq_some_iff.1 ao).1
theorem p8.len {rows:List fG}{o:List Nat}(h:p8 rows o):o.length<=rows.length:=by
 have:∀ (l m:List Nat),l.Nodup->(∀ x∈l,x∈m)->l.length<=m.length:=by
  intro l
  induction l with
  | nil=>intro m _ _; exact Nat.zero_le _
  | cons x l aU =>
   intro m aS hm;have J:=hm x (by simp);have ob:=List.nodup_cons.1 aS;have:=aU (m.erase x) ob.2 λy ax=>(List.mem_erase_of_ne (λe=>ob.1 (by rw [<- e]; exact ax))).2 (hm y (by simp [ax]));have ak:=List.length_erase_of_mem J;have au:=List.length_pos_of_mem J;simp only [List.length_cons];omega
 have:=this o (List.range rows.length) h.nd λx J=>by simpa using h.lt J
 simpa using this
theorem YE (rows:List fG) (l:List Int) (ak:∀ a∈l,0<=a/\a<rows.length) (aF:l.length<=100000):pX (λa b=>vW a b rows) l=some (h_ (jv rows) l):=by
 have aT:∀ a∈l,∀ b∈l,kx (λa b=>vW a b rows) a b=jv rows a b:=by
  intro a aP b av;obtain ⟨v,hv,h⟩:=L3 rows a b (ak a aP) (ak b av);unfold kx;simp only [hv,Option.getD_some];cases hk:jv rows a b with
  | true=>exact decide_eq_true (h.2 hk)
  | false=>exact decide_eq_false λbY=>by rw [h.1 bY] at hk; cases hk
 unfold pX;rw [if_pos]
 ·rw [Cj l aT]
 ·simp only [Bool.and_eq_true,decide_eq_true_eq,List.all_eq_true];refine ⟨⟨λa aP b av=>?_,?_⟩,by omega⟩
  ·obtain ⟨v,hv,_⟩:=L3 rows a b (ak a aP) (ak b av);rw [hv]; rfl
  ·unfold zU;simp only [List.all_eq_true,Bool.and_eq_true,Bool.or_eq_true,Bool.not_eq_true',decide_eq_true_eq];have bl:=OL rows;intro a aP;refine ⟨by rw [aT a aP a aP]; exact bl.irrefl a,λb av=>⟨?_,λc aa=>⟨?_,?_⟩⟩⟩
   ·rw [aT a aP b av,aT b av a aP];cases h1:jv rows a b with
    | true=>exact .inl (.inl rfl)
    | false =>
     cases af:jv rows b a with
     | true=>exact .inl (.inr rfl)
     | false=>exact .inr (JK h1 af)
   ·rw [aT a aP b av,aT b av c aa,aT a aP c aa];cases h1:jv rows a b with
    | false=>exact .inl rfl
    | true =>
     cases af:jv rows b c with
     | false=>exact .inl rfl
     | true=>exact .inr (bl.trans _ _ _ h1 af)
   ·rw [aT a aP b av,aT b av c aa,aT a aP c aa];cases h1:jv rows a b with
    | true=>exact .inl (.inl rfl)
    | false =>
     cases af:jv rows b c with
     | true=>exact .inl (.inr rfl)
     | false=>exact .inr (bl.ntrans _ _ _ h1 af)
theorem R5 (rows:List fG) (fm:DX rows):Tot (Ag rows) λc=>(¬ p' rows->c=⟨[],[],[]⟩)/\(p' rows->c.b5.length<=900000/\∃ o,p8 rows o/\dQ rows o.reverse c):=by
 unfold Ag;refine .aB (Sa rows fm) λa8 h1=>Tot.bF (λh=>.aq ⟨λ_=>rfl,λdd=>by rw [h1.2 dd] at h; cases h⟩) (λh=>?_);have dd:p' rows:=h1.1 (by simpa using h);refine Tot.use (Φ:=λc=>(¬ p' rows->c=⟨[],[],[]⟩)/\(p' rows->c.b5.length<=900000/\∃ o,p8 rows o/\dQ rows o.reverse c)) (Ψ:=λc=>c.b5.length<=900000/\∃ o,p8 rows o/\dQ rows o.reverse c) ?_ λc aa=>⟨λaF=>absurd dd aF,λ_=>aa⟩;have aF:=dd.n;refine .aB (Ξ:=λl=>l=List.replicate rows.length 0) (Tot.mk (by simp [lim]; omega) (by simp)) λa7 aI=>?_;subst aI;refine .aB (Ξ:=λl=>∃ o:List Nat,l=o.map (λ(j:Nat)=>(j:Int))/\o.Nodup/\o.length<=400/\∀ j,j∈o↔∃ r,rows[j]?=some r/\r≠[]) ?_ λbT cH=>?_
 ·refine Tot.count (λs=>s.2) rows.length (λs=>∃ k:Nat,k<=rows.length/\s.2=(k:Int)/\∃ o:List Nat,s.1=o.map (λ(j:Nat)=>(j:Int))/\o.Nodup/\o.length<=k/\∀ j,j∈o↔j<k/\∃ r,rows[j]?=some r/\r≠[]) ⟨0,Nat.zero_le _,rfl,[],rfl,List.nodup_nil,Nat.le_refl 0,λj=>by simp⟩ (by show (rows.length:Int) - 0<_; omega) λs aC=>?_;obtain ⟨l,kT⟩:=s;obtain ⟨k,hk,rfl,o,rfl,ft,zs,hm⟩:=aC;simp only;have hw:aL ((k:Int)+1)=((k+1:Nat):Int):=by rw [cJ]; omega
  rw [hw];refine Tot.br (λaT=>?_) (λdU=>.aq ⟨o,rfl,ft,by omega,λj=>?_⟩)
  ·have aT:k<rows.length:=by omega
   rw [sW aT];have r_:rows[k]?=some rows[k]:=List.getElem?_eq_getElem aT;have Vr:k∉o:=λh=>by have:=((hm k).1 h).1; omega
   refine .aB (Ξ:=λl=>∃ gj:List Nat,l=gj.map (λ(j:Nat)=>(j:Int))/\gj.Nodup/\gj.length<=k+1/\∀ j,j∈gj↔j<k+1/\∃ r,rows[j]?=some r/\r≠[]) ?_ λl ak=>.aq ⟨⟨k+1,by omega,rfl,ak⟩,?_,?_⟩
   ·refine Tot.aV (.aB (Ξ:=λl=>∃ gj:List Nat,l=gj.map (λ(j:Nat)=>(j:Int))/\gj.Nodup/\gj.length<=k+1/\∀ j,j∈gj↔j<k+1/\∃ r,rows[j]?=some r/\r≠[]) ?_ λl ak=>.aq ak);refine Tot.br (λau=>?_) (λau=>.aq ⟨o,rfl,ft,by omega,λj=>?_⟩)
    ·refine .aB (Ξ:=λ_=>True) (Tot.ap (by simp [lim]; omega) trivial) λ_ _=>.aq ⟨o++[k],by simp,?_,by simp; omega,λj=>?_⟩
     ·rw [List.nodup_append];exact ⟨ft,by simp,λa aP b av e=>Vr (by rw [<- List.mem_singleton.1 av,<- e]; exact aP)⟩
     ·rw [List.mem_append,hm j,List.mem_singleton];constructor
      ·rintro (⟨h1,af⟩ | rfl)
       ·exact ⟨by omega,af⟩
       ·exact ⟨by omega,_,r_,λe=>by rw [e] at au; simp at au⟩
      ·rintro ⟨h1,af⟩;by_cases e:j=k
       ·exact .inr e
       ·exact .inl ⟨by omega,af⟩
    ·rw [hm j];constructor
     ·rintro ⟨h1,af⟩;exact ⟨by omega,af⟩
     ·rintro ⟨h1,r,af,aI⟩;refine ⟨?_,r,af,aI⟩;have:j≠k:=by
       rintro rfl;rw [r_] at af; cases af;have:(rows[j]).length≠0:=λe=>aI (List.eq_nil_of_length_eq_zero e);omega
      omega
   ·show (k:Int)<((k+1:Nat):Int); omega
   ·show ((k+1:Nat):Int)<=_; omega
  ·have:k=rows.length:=by omega
   subst this;rw [hm j];constructor
   ·exact λh=>h.2
   ·rintro ⟨r,ao,h⟩;exact ⟨(List.getElem?_eq_some_iff.1 ao).1,r,ao,h⟩
 obtain ⟨zR,rfl,VD,acC,zr⟩:=cH;have vj:∀ a∈zR.map (λ(j:Nat)=>(j:Int)),0<=a/\a<rows.length:=by
  intro a aP;obtain ⟨j,ah,rfl⟩:=List.mem_map.1 aP;obtain ⟨r,ao,_⟩:=(zr j).1 ah;have:=(List.getElem?_eq_some_iff.1 ao).1;omega
 rw [YE rows _ vj (by simp; omega)];refine Tot.aV ?_
 -- the order, az places
 obtain ⟨o,a1,hOr⟩:∃ o:List Nat,h_ (jv rows) (zR.map λ(j:Nat)=>(j:Int))=o.map (λ(j:Nat)=>(j:Int))/\p8 rows o:=by
  refine ⟨h_ (λa b:Nat=>jv rows (a:Int) (b:Int)) zR,?_,?_⟩
  ·exact (E3 (lt:=λa b:Nat=>jv rows (a:Int) (b:Int)) (lt':=jv rows) (f:=λ(j:Nat)=>(j:Int)) (λa b=>rfl) zR).symm
  ·have bl:=OL rows;have au:=sX (λa b:Nat=>jv rows (a:Int) (b:Int)) zR;refine ⟨λi=>(au.mem_iff).trans (zr i),au.nodup_iff.2 VD,?_⟩;have aC:=E4 (lt:=λa b:Nat=>jv rows (a:Int) (b:Int)) ⟨λx=>bl.irrefl _,λx y z=>bl.trans _ _ _,λx y z=>bl.ntrans _ _ _⟩ zR;exact aC.imp λh=>by simpa using h
 rw [a1];have zs:=hOr.len;refine .aB (Ξ:=λc=>c.b5.length<=900000/\∃ o,p8 rows o/\dQ rows o.reverse c) ?_ λc aa=>.aq aa;refine Tot.count (λs=>s.2) o.length (λs=>∃ k:Nat,k<=o.length/\s.2=(k:Int)/\s.1.b5.length<=1000 * k/\dQ rows (o.take k).reverse s.1) ⟨0,Nat.zero_le _,rfl,Nat.le_refl 0,.nil⟩ (by show (o.length:Int) - 0<_; omega) λs aC=>?_;obtain ⟨c,kT⟩:=s;obtain ⟨k,hk,rfl,ha,h6⟩:=aC;simp only at ha h6 ⊢;have hw:aL ((k:Int)+1)=((k+1:Nat):Int):=by rw [cJ]; omega
 rw [hw];refine Tot.br (λaT=>?_) (λdU=>.aq ⟨by show c.b5.length<=900000; omega,o,hOr,?_⟩)
 ·rw [List.length_map] at aT;have aT:k<o.length:=by omega
  have Iu:idx (o.map λ(j:Nat)=>(j:Int)) (k:Int)=some ((o[k]:Nat):Int):=by
   rw [sW (by simpa using aT)]; simp
  rw [Iu];generalize hi:o[k]=i;have NI:i∈o:=by rw [<- hi]; exact List.getElem_mem aT
  obtain ⟨r,ao,acF⟩:=(hOr.mem i).1 NI;have EA:=hOr.lt NI;have zw:r∈rows:=List.mem_of_getElem? ao;have lM:=dd.rows r zw;have l8:=fm.r r zw;have NW:i∉(o.take k).reverse:=by
   rw [List.mem_reverse];intro h;obtain ⟨j,ah,e⟩:=List.mem_iff_getElem.1 h;rw [List.length_take] at ah;rw [List.getElem_take] at e;have:=(List.getElem_inj (i:=j) (j:=k) (h₀:=by omega) (h₁:=aT) hOr.nd).1 (by rw [e,hi]);omega
  have hlen:=h6.len;refine Tot.aV (.aB (Yn rows fm i r ao lM c (by omega) (h6.rest i EA NW) x5 λb av=>Sd c.b5 r b lM.ml (by omega) (by omega) (by omega)) λB T3=>?_);obtain ⟨b,rfl,w9,Vt,rb⟩:=T3;have t_:idx rows (i:Int)=some r:=by simp [idx,ao]
  rw [t_];refine Tot.aV (.aB (XV r lM l8 i b (by omega) c hlen.1 (by omega) rb _ (λv b8 k hk=>?_) (λv b8 k hk=>?_)) λx J=>?_)
  ·have w3:idx (c.cS.set i (b:Int)) (i:Int)=some (b:Int):=by
    have:i<c.cS.length:=by omega
    simp [idx,this]
   have aS:decide ((k:Int)<(r.length:Int))=true:=decide_eq_true (by omega);simp only [aS,cond_true,sW hk,w3,Option.bind_some]
  ·have aS:decide ((k:Int)<(r.length:Int))=false:=decide_eq_false hk;simp only [aS,cond_false]
  ·obtain ⟨cx,ak⟩:=J;refine .aq ⟨⟨k+1,by omega,rfl,?_,?_⟩,?_,?_⟩
   ·show x.2.length<=1000 * (k+1); omega
   ·rw [List.take_add_one,List.getElem?_eq_getElem aT,hi];show dQ rows ((o.take k)++[i]).reverse _;rw [List.reverse_append];exact .cons ao NW h6 ⟨w9,Vt,rfl,cx⟩
   ·show (k:Int)<((k+1:Nat):Int); omega
   ·show ((k+1:Nat):Int)<=_; omega
 ·rw [List.length_map] at dU;have:k=o.length:=by omega
  subst this;rw [List.take_length] at h6;exact h6
def zQ (b8:List Int):List Nat:=(List.range b8.length).filter λk=>decide (b8.getD k 0≠0)
def Pz (rows:List fG) (i:Nat):Nat:=(rows[i]?.map List.length).getD 0
structure Inv (rows:List fG) (l:List Nat) (c:fC):Prop where
 own:∀ i∈l,∃ (r:fG) (b:Nat),rows[i]?=some r/\c.cS[i]?=some (b:Int)/\∀ p∈r,b+p.At.toNat<c.b5.length/\c.b5.getD (b+p.At.toNat) 0=(i:Int)+1/\c.b9.getD (b+p.At.toNat) 0=p.b9
 KM:∀ k,c.b5.getD k 0≠0->∃ i∈l,∃ (r:fG) (b:Nat),rows[i]?=some r/\c.cS[i]?=some (b:Int)/\∃ p∈r,k=b+p.At.toNat/\c.b5.getD k 0=(i:Int)+1
 zero:∀ k,c.b5.getD k 0=0->c.b9.getD k 0=0
 last:c.b5.length=0\/c.b5.getD (c.b5.length - 1) 0≠0
 least:∀ i∈l,∀ b:Nat,c.cS[i]?=some (b:Int)->∀ eC,eC<b->∃ (r:fG) (p:ca) (sf:Nat),rows[i]?=some r/\p∈r/\sf∈l/\jv rows (sf:Int) (i:Int)=true/\c.b5.getD (eC+p.At.toNat) 0=(sf:Int)+1
 hn:(zQ c.b5).length=(l.map (Pz rows)).sum
theorem JP {b8:List Int}{k:Nat}:k∈zQ b8↔b8.getD k 0≠0:=by
 unfold zQ;rw [List.mem_filter,List.mem_range];constructor
 ·intro h; simpa using h.2
 ·intro h;refine ⟨Classical.byContradiction λhk=>h ?_,by simpa using h⟩;rw [List.getD_eq_getElem?_getD,List.getElem?_eq_none (by omega)]; rfl
theorem OP (b8:List Int):(zQ b8).Nodup:=List.nodup_range.sublist List.filter_sublist
theorem dQ.inv {rows:List fG}(dd:p' rows) {l:List Nat}{c:fC}(h:dQ rows l c) (IP:l.Pairwise λ(a b:Nat)=>jv rows (a:Int) (b:Int)=false):Inv rows l c:=by
 induction h with
 | nil=>exact ⟨λ_ h=>absurd h (by simp),λk h=>absurd rfl h,λ_ _=>rfl,.inl rfl,λ_ h=>absurd h (by simp),rfl⟩
 | @cons i b l c fS r ao hi h6 aC aU =>
  have N0:=List.pairwise_cons.1 IP;have I:=aU N0.2;have lM:=dd.rows r (List.mem_of_getElem? ao);have cx:=aC.put;have hlen:=h6.len;have ua:i<c.cS.length:=by rw [hlen.2]; exact (List.getElem?_eq_some_iff.1 ao).1
  have w3:fS.cS[i]?=some (b:Int):=by rw [aC.base]; simp [ua]
  have w4:∀ j,j≠i->fS.cS[j]?=c.cS[j]?:=λj ah=>by rw [aC.base,List.getElem?_set_ne (Ne.symm ah)]
  have dq:∀ j∈l,j≠i:=λj ah e=>hi (e ▸ ah);have free:∀ k,c.b5.getD k 0≠0->∀ p∈r,b+p.At.toNat≠k:=λk hk p au e=>hk (e ▸ aC.fit p au);have keep:∀ k,c.b5.getD k 0≠0->fS.b5.getD k 0=c.b5.getD k 0:=λk hk=>cx.Be k (free k hk);refine ⟨λj ah=>?_,λk hk=>?_,λk hk=>?_,?_,λj ah hg nC eC aT=>?_,?_⟩
  ·rcases List.mem_cons.1 ah with rfl | ah
   ·exact ⟨r,b,ao,w3,λp au=>⟨cx.Oo p au,cx.iE p au,cx.val p au⟩⟩
   ·obtain ⟨dm,eC,h1,af,aI⟩:=I.own j ah;refine ⟨dm,eC,h1,by rw [w4 j (dq j ah)]; exact af,λp au=>?_⟩;obtain ⟨g1,g2,g3⟩:=aI p au;have NX:c.b5.getD (eC+p.At.toNat) 0≠0:=by rw [g2]; omega
    exact ⟨Nat.lt_of_lt_of_le g1 cx.lo,by rw [keep _ NX]; exact g2,by rw [cx.KK _ (free _ NX)]; exact g3⟩
  ·by_cases au:∃ p∈r,b+p.At.toNat=k
   ·obtain ⟨p,au,rfl⟩:=au;exact ⟨i,by simp,r,b,ao,w3,p,au,rfl,cx.iE p au⟩
   ·have e:=cx.Be k λp BZ e=>au ⟨p,BZ,e⟩;rw [e] at hk ⊢;obtain ⟨j,ah,dm,eC,h1,af,aI⟩:=I.KM k hk;exact ⟨j,by simp [ah],dm,eC,h1,by rw [w4 j (dq j ah)]; exact af,aI⟩
  ·by_cases au:∃ p∈r,b+p.At.toNat=k
   ·obtain ⟨p,au,rfl⟩:=au;rw [cx.iE p au] at hk; omega
   ·have aF:∀ p∈r,b+p.At.toNat≠k:=λp BZ e=>au ⟨p,BZ,e⟩;rw [cx.Be k aF] at hk;rw [cx.KK k aF];exact I.zero k hk
  ·rcases cx.hi with e | ⟨p,au,e⟩
   ·rcases I.last with aR | aR
    ·exact .inl (by omega)
    ·exact .inr (by rw [e,keep _ aR]; exact aR)
   ·refine .inr ?_;rw [e];show fS.b5.getD (b+p.At.toNat+1 - 1) 0≠0;rw [Nat.add_sub_cancel,cx.iE p au]; omega
  ·rcases List.mem_cons.1 ah with rfl | ah
   ·rw [w3] at nC;have iO:b=hg:=by injection nC with e; omega
    subst iO;have NV:=aC.least eC aT;obtain ⟨p,au,aY⟩:∃ p∈r,c.b5.getD (eC+p.At.toNat) 0≠0 :=
     Classical.byContradiction λaF=>NV λp au=>Classical.byContradiction λaY=>aF ⟨p,au,aY⟩
    obtain ⟨sf,Is,_,_,_,_,_,_,_,e⟩:=I.KM _ aY;refine ⟨r,p,sf,ao,au,by simp [Is],?_,by rw [keep _ aY]; exact e⟩;have h1:=N0.1 sf Is;cases af:jv rows (sf:Int) (j:Int) with
    | true=>rfl
    | false=>exact absurd (JK af h1) (by have:=dq sf Is; omega)
   ·rw [w4 j (dq j ah)] at nC;obtain ⟨dm,p,sf,h1,af,aI,bK,cH⟩:=I.least j ah hg nC eC aT;exact ⟨dm,p,sf,h1,af,by simp [aI],bK,by rw [keep _ (by rw [cH]; omega)]; exact cH⟩
  ·have B1:(zQ fS.b5).Perm (r.map (λp=>b+p.At.toNat)++zQ c.b5):=by
    refine (List.perm_ext_iff_of_nodup (OP _) ?_).2 λk=>?_
    ·rw [List.nodup_append];refine ⟨?_,OP _,λx J y ax e=>?_⟩
     ·unfold List.Nodup;rw [List.pairwise_map];have:=lM.nd;unfold List.Nodup at this;rw [List.pairwise_map] at this;refine this.imp_of_mem λ{p q} au bg dq=>?_;have h1:=lM.ml p au;have af:=lM.ml q bg;omega
     ·obtain ⟨p,au,rfl⟩:=List.mem_map.1 J;have h1:=JP.1 ax;rw [<- e] at h1;exact h1 (aC.fit p au)
    ·rw [JP,List.mem_append,JP,List.mem_map];by_cases au:∃ p∈r,b+p.At.toNat=k
     ·obtain ⟨p,au,rfl⟩:=au;rw [cx.iE p au];exact ⟨λ_=>.inl ⟨p,au,rfl⟩,λ_=>by omega⟩
     ·rw [cx.Be k λp BZ e=>au ⟨p,BZ,e⟩];exact ⟨.inr,λh=>h.resolve_left au⟩
   rw [B1.length_eq,List.length_append,List.length_map,I.hn,List.map_cons,List.sum_cons];simp [Pz,ao]
def lH (r:fG) (n:Int):Int × Bool:=match r.find? λp=>decide (p.At=n) with
 | some p=>(p.b9,true)
 | none=>(0,false)
theorem get_none {r:fG}{n:Int}(h:∀ p∈r,p.At≠n):lH r n=(0,false):=by
 unfold lH;rw [List.find?_eq_none.2 λp au=>by simpa using h p au]
theorem get_some {r:fG}(ao:lA r) {p:ca}(au:p∈r):lH r p.At=(p.b9,true):=by
 unfold lH;cases h:r.find? λq=>decide (q.At=p.At) with
 | none=>exact absurd (List.find?_eq_none.1 h p au) (by simp)
 | some q =>
  have h1:q.At=p.At:=by simpa using List.find?_some h
  have af:=List.mem_of_find?_eq_some h;obtain ⟨i,hi,cz⟩:=List.mem_iff_getElem.1 af;obtain ⟨j,ah,cf⟩:=List.mem_iff_getElem.1 au;have:=(List.getElem_inj (h₀:=by simpa using hi) (h₁:=by simpa using ah) ao.nd).1 (by simp only [List.getElem_map]; rw [cz,cf]; exact h1);subst this;rw [cz] at cf;rw [cf]
theorem g19 (r:fG) (n:Int) (ak:r.length<=100000):xW r n=some (lH r n):=by
 suffices h:Tot (xW r n) λx=>x=lH r n by
  obtain ⟨x,J,e⟩:=h; rw [J,e]
 unfold xW;refine Tot.aB (Ξ:=hK (λ_=>lH r n=(0,false)) (λx=>x=lH r n)) ?_ λx J=>?_
 ·refine Tot.count (λs=>s) r.length (λs=>∃ k:Nat,k<=r.length/\s=(k:Int)/\∀ p∈r.take k,p.At≠n) ⟨0,Nat.zero_le _,rfl,λ_ h=>absurd h (by simp)⟩ (by show (r.length:Int) - 0<_; omega) λs aC=>?_;obtain ⟨k,hk,rfl,aF⟩:=aC;refine Tot.br (λh=>?_) (λh=>.aq ?_)
  ·have aT:k<r.length:=by omega
   rw [sW aT];refine Tot.aV (Tot.br (λe=>.aq ?_) (λe=>.aq ⟨⟨k+1,by omega,by rw [cJ]; omega,λp au=>?_⟩,by show (k:Int)<aL _; rw [cJ]; omega,by show aL _<=_; rw [cJ]; omega⟩))
   ·show ((r[k]).b9,true)=lH r n;unfold lH;have aW:r.find? (λp=>decide (p.At=n))=some r[k]:=by
     rw [List.find?_eq_some_iff_getElem];refine ⟨by simpa using e,k,aT,rfl,λj ah=>?_⟩;have:=aF (r[j]'(by omega)) (List.mem_iff_getElem.2 ⟨j,by rw [List.length_take]; omega,by rw [List.getElem_take]⟩);simpa using this
    rw [aW]
   ·rw [KE aT] at au;rcases List.mem_append.1 au with au | au
    ·exact aF p au
    ·rw [List.mem_singleton.1 au]; exact e
  ·have:k=r.length:=by omega
   subst this;rw [List.take_length] at aF;exact get_none aF
 ·rcases x with x | x
  ·exact .aq (Eq.symm J)
  ·exact .aq J
def q_ (rows:List fG) (a n:Int):Int × Bool:=match idx rows a with
 | some r=>lH r n
 | none=>(0,false)
theorem Tz {rows:List fG}(dd:p' rows) {o:List Nat}(hO:p8 rows o) {c:fC}(h6:dQ rows o.reverse c) (bf:Inv rows o.reverse c) (aa:c.b5.length<=900000) (a n:Int):rq c a n=some (q_ rows a n):=by
 have hlen:=h6.len
 suffices h:Tot (rq c a n) λx=>x=q_ rows a n by
  obtain ⟨x,J,e⟩:=h; rw [J,e]
 have OX:(∀ r,idx rows a=some r->∀ p∈r,p.At≠n)->q_ rows a n=(0,false):=by
  intro h;unfold q_;cases hi:idx rows a with
  | none=>rfl
  | some r=>exact get_none (h r hi)
 have out:(a<0\/(c.cS.length:Int)<=a)->idx rows a=none:=by
  intro h;unfold idx;rcases h with h | h
  ·rw [if_neg (by omega)]
  ·split
   ·exact List.getElem?_eq_none (by omega)
   ·rfl
 -- where the pairs of a row stand
 have at_:∀ r,idx rows a=some r->∀ p∈r,0<=a/\∃ b:Nat,c.cS[a.toNat]?=some (b:Int)/\b+p.At.toNat<c.b5.length/\c.b5.getD (b+p.At.toNat) 0=(a.toNat:Int)+1/\c.b9.getD (b+p.At.toNat) 0=p.b9:=by
  intro r ao p au;have aR:0<=a:=by
   by_cases aR:0<=a
   ·exact aR
   ·rw [idx,if_neg aR] at ao; cases ao
  have ec:rows[a.toNat]?=some r:=by rw [idx,if_pos aR] at ao; exact ao
  obtain ⟨dm,b,h1,af,aI⟩:=bf.own a.toNat (List.mem_reverse.2 ((hO.mem _).2 ⟨r,ec,λe=>by rw [e] at au; simp at au⟩));rw [ec] at h1; cases h1;exact ⟨aR,b,af,aI p au⟩
 have fH:∀ r,idx rows a=some r->∀ p∈r,0<=p.At/\p.At<=999:=by
  intro r ao p au;have:r∈rows:=by
   unfold idx at ao
   split at ao
   ·exact List.mem_of_getElem? ao
   ·cases ao
  exact (dd.rows r this).ml p au
 unfold rq;refine .aB (Ξ:=λx:Bool=>(x=true->(a<0\/(c.cS.length:Int)<=a)\/n<0\/(c.b5.length:Int)<=n)/\(x=false->0<=a/\a<c.cS.length/\0<=n/\n<c.b5.length)) ?_ λx J=>Tot.bF (λh=>?_) (λh=>?_)
 ·refine Tot.br (λh=>.aq ⟨λ_=>.inl (.inl h),λh=>(by cases h)⟩) (λh1=>Tot.br (λh=>.aq ⟨λ_=>.inl (.inr h),λh=>(by cases h)⟩) (λaf=>Tot.br (λh=>.aq ⟨λ_=>.inr (.inl h),λh=>(by cases h)⟩) (λaI=>.aq ⟨λh=>.inr (.inr (of_decide_eq_true h)),λh=>?_⟩)));have:=of_decide_eq_false h;omega
 ·refine .aq (Eq.symm (OX λr ao p au e=>?_));obtain ⟨aR,b,av,h1,_⟩:=at_ r ao p au;have af:=fH r ao p au;rcases J.1 h with aQ | aQ | aQ
  ·rw [out aQ] at ao; cases ao
  ·omega
  ·omega
 ·obtain ⟨aR,h1,af,aI⟩:=J.2 h;have halt:a.toNat<rows.length:=by omega
  -- the base
  obtain ⟨b,av,gH⟩:∃ b:Nat,c.cS[a.toNat]?=some (b:Int)/\b<=900000:=by
   by_cases hm:a.toNat∈o
   ·obtain ⟨dm,b,g1,g2,g3⟩:=bf.own a.toNat (List.mem_reverse.2 hm);refine ⟨b,g2,?_⟩;obtain ⟨r,cz,cf⟩:=(hO.mem _).1 hm;rw [cz] at g1; cases g1;obtain ⟨p,au⟩:=List.exists_mem_of_ne_nil _ cf;have:=(g3 p au).1;omega
   ·exact ⟨0,h6.rest _ halt (by simpa using hm),by omega⟩
  have w3:idx c.cS a=some (b:Int):=by rw [idx,if_pos aR]; exact av
  rw [w3];have hw:aL ((b:Int)+n)=((b+n.toNat:Nat):Int):=by rw [cJ]; omega
  have Wd:aL (a+1)=a+1:=by rw [cJ]; have:=dd.n; omega
  refine Tot.aV ?_;rw [hw,Wd];refine .aB (Ξ:=λx:Bool=>(x=true->∀ r,idx rows a=some r->∀ p∈r,p.At≠n)/\(x=false->b+n.toNat<c.b5.length/\c.b5.getD (b+n.toNat) 0=a+1)) (Tot.br (λh=>.aq ⟨λ_ r ao p au e=>?_,λh=>(by cases h)⟩) (λh=>?_)) λx J=>Tot.bF (λh=>.aq (Eq.symm (OX (J.1 h)))) (λh=>?_)
  ·obtain ⟨_,eC,cj,g1,_⟩:=at_ r ao p au;rw [av] at cj;have:b=eC:=by injection cj with cj; omega
   subst this;subst e;omega
  ·have ak:b+n.toNat<c.b5.length:=by omega
   rw [sW ak];have aO:c.b5.getD (b+n.toNat) 0=c.b5[b+n.toNat]:=by rw [List.getD_eq_getElem?_getD,List.getElem?_eq_getElem ak]; rfl
   rw [<- aO];refine Tot.aV (.aq ⟨λh r ao p au e=>?_,λh=>⟨ak,by simpa using h⟩⟩);obtain ⟨_,eC,cj,_,g2,_⟩:=at_ r ao p au;rw [av] at cj;have:b=eC:=by injection cj with cj; omega
   subst this;subst e;rw [g2] at h;have:¬ ((a.toNat:Int)+1=a+1):=by simpa using h
   omega
  ·obtain ⟨ak,he⟩:=J.2 h;have pB:b+n.toNat<c.b9.length:=by omega
   rw [sW pB];refine Tot.aV (.aq ?_);obtain ⟨i,hi,r,eC,cz,cf,p,au,fO,mR⟩:=bf.KM (b+n.toNat) (by rw [he]; omega);rw [he] at mR;have Vj:i=a.toNat:=by omega
   subst Vj;rw [av] at cf;have:b=eC:=by injection cf with cf; omega
   subst this;have sR:idx rows a=some r:=by rw [idx,if_pos aR]; exact cz
   have EK:=fH r sR p au;have ue:p.At=n:=by omega
   obtain ⟨_,eC,cj,_,_,g3⟩:=at_ r sR p au;rw [av] at cj;have:b=eC:=by injection cj with cj; omega
   subst this;unfold q_;rw [sR];show _=lH r n;have NG:=get_some (dd.rows r (List.mem_of_getElem? cz)) au;rw [ue,<- g3,ue,List.getD_eq_getElem?_getD,List.getElem?_eq_getElem pB] at NG;exact NG.symm
structure j7 (x:Sym):Prop where
 lit:x.Lit=true->x.Name.size=1/\0<lD x.Name 0/\lD x.Name 0<=255/\x.bR=0
 num:0<=x.bR/\x.bR<=50000
theorem JZ (x:Sym) (a b:Bool):Par (uw x a b) λr=>r=true->j7 x:=by
 unfold uw;refine Par.bF (λak=>?_) (λak=>?_)
 ·refine .aB (Ξ:=λc=>c=false->x.Name.size=1/\x.bR=0) ?_ λc aa=>Par.bF (λ_=>.aq λh=>by cases h) (λaf=>?_)
  ·refine Par.bF (λ_=>.aq λh=>by cases h) (λ_=>Par.qg (λ_=>.aq λh=>by cases h) (λh1=>.aq λaf=>⟨by omega,?_⟩));simpa using af
  ·obtain ⟨h1,aI⟩:=aa af;refine .aB (Ξ:=λc=>c=lD x.Name 0) (λc aa=>?_) λc aa=>?_
   ·unfold kq at aa
    split at aa
    ·exact (Option.some.inj aa).symm
    ·cases aa
   ·subst aa;refine .aB (Ξ:=λr=>r.2=true->0<lD x.Name 0/\lD x.Name 0<=255) ?_ λr ao=>.aq λh=>⟨λ_=>⟨h1,(ao h).1,(ao h).2,aI⟩,by omega⟩;unfold z7;refine Par.br (λh=>.aq λ_=>by omega) (λ_=>Par.br (λh=>.aq λ_=>by omega) (λ_=>Par.br (λh=>.aq λ_=>by omega) (λ_=>?_)));refine .aB (Ξ:=λc=>c=true->lD x.Name 0=92\/lD x.Name 0=39) (Par.br (λh=>.aq λ_=>.inl h) (λ_=>.aq λh=>.inr (of_decide_eq_true h))) λc aa=>Par.bF (λh=>.aq λ_=>by rcases aa h with h | h <;> omega) (λ_=>?_);refine .aB (Ξ:=λr:Int × Bool=>r.2=true->0<lD x.Name 0/\lD x.Name 0<=255) (Par.br (λh=>.aq λaQ=>?_) (λ_=>.aq λh=>by cases h)) λr ao=>.aq ao;have:lD x.Name 0<=126:=of_decide_eq_true aQ;omega
 ·refine .aB (Ξ:=λc=>c=true->0<=x.bR/\x.bR<=50000) ?_ λc aa=>.aq λh=>⟨λaQ=>(by rw [ak] at aQ; cases aQ),aa h⟩;refine .aB (Ξ:=λ_=>True) (λ_ _=>trivial) λc _=>Par.bF (λ_=>Par.br (λh=>.aq λ_=>by omega) (λ_=>Par.bF (λ_=>Par.br (λh=>.aq λaQ=>⟨by omega,of_decide_eq_true aQ⟩) (λ_=>.aq λh=>by cases h)) (λ_=>.aq λh=>by cases h))) (λ_=>.aq λh=>by cases h)
theorem Pg (x:Sym):Par (ux x) λr=>r=true->j7 x:=by
 unfold ux;refine .aB (Ξ:=λr=>r=true->j7 x) ?_ λr ao=>.aq ao;refine Par.bF (λ_=>Par.bF (λh=>.aq λaQ=>?_) (λ_=>.aq λh=>by cases h)) (λ_=>.aq λh=>by cases h);have h1:x.Lit=false:=by simpa using h
 have af:x.bR=0:=of_decide_eq_true aQ;exact ⟨λh=>(by rw [h1] at h; cases h),by omega⟩
theorem Xy (d:Decl) (aF:d.eM.length<=1000000):Par (xT d) λr=>r=true->∀ x∈d.eM,j7 x:=by
 unfold xT;refine .aB (Ξ:=λ_=>True) (λ_ _=>trivial) λc _=>Par.bF (λ_=>.aq λh=>by cases h) (λ_=>?_);refine .aB (Par.scan d.eM (by omega) (λx=>j7 x) (λr=>r=false) (λs y aR h1 hi hm=>?_) (λs aC=>by simp [aC])) λx J=>?_
 ·refine Par.br (λ_=>?_) (λh=>absurd h1 h);rw [hi];have hw:aL (s+1)=s+1:=by rw [cJ]; omega
  rw [hw];exact .aB (Ξ:=λz=>z=y) (.aq rfl) λz aY=>by
   subst aY;exact .aB (JZ _ _ _) λc aa=>Par.bF (λ_=>.aq rfl) (λaf=>.aq ⟨rfl,aa (by simpa using af)⟩)
 ·rcases x with _ | r
  ·exact .aq λ_=>J
  ·exact .aq λh=>by have:r=false:=J; rw [this] at h; cases h
theorem Xz (a:Alt) (aF:a.ht.length<=1000000):Par (xU a) λr=>r=true->(∀ p∈a.ht,j7 p.Sym)/\j7 a.Prec:=by
 unfold xU;refine .aB (Par.scan a.ht (by omega) (λp=>j7 p.Sym) (λr=>r=false) (λs y aR h1 hi hm=>?_) (λs aC=>by simp [aC])) λx J=>?_
 ·refine Par.br (λ_=>?_) (λh=>absurd h1 h);rw [hi];have hw:aL (s+1)=s+1:=by rw [cJ]; omega
  rw [hw];refine .aB (Ξ:=λz=>z=y) (.aq rfl) λz aY=>?_;subst aY;refine .aB (Ξ:=λc=>c=false->j7 z.Sym) ?_ λc aa=>Par.bF (λ_=>.aq rfl) (λaf=>.aq ⟨rfl,aa af⟩);refine Par.br (λhe=>?_) (λdq=>?_)
  ·refine .aB (JZ _ _ _) λc aa=>Par.bF (λ_=>.aq λh=>by cases h) (λaf=>?_);have dd:=aa (by simpa using af);exact λ_ _ _=>dd
  ·refine Par.qg (λ_=>?_) (λh=>absurd h dq);refine .aB (Pg _) λc aa=>Par.bF (λ_=>.aq λh=>by cases h) (λaf=>?_);have dd:=aa (by simpa using af);exact λ_ _ _=>dd
 ·rcases x with _ | r
  ·have J:∀ p∈a.ht,j7 p.Sym:=J;refine .aB (Ξ:=λc=>c=true->j7 a.Prec) ?_ λc aa=>.aq λh=>⟨J,aa h⟩;refine .aB (Pg _) λc aa=>Par.bF (λaf=>.aq λ_=>aa af) (λ_=>.aB (JZ _ _ _) λc aa=>.aq aa)
  ·exact .aq λh=>by have:r=false:=J; rw [this] at h; cases h
structure Lk (s:Source):Prop where
 decls:∀ d∈s.Decls,∀ x∈d.eM,j7 x
 rules:∀ r∈s.dG,∀ a∈r.eL,(∀ p∈a.ht,j7 p.Sym)/\j7 a.Prec
theorem Xu (s:Source) (av:rO s):Par (xR s) λr=>r=true->Lk s:=by
 unfold xR;refine .aB (Ξ:=hK (λ_=>True) (λr=>r=false)) ?_ λx J=>?_
 ·refine Par.loop (λ_=>True) trivial λj _=>?_;refine Par.br (λ_=>.aB (Ξ:=λ_=>True) (λ_ _=>trivial) λ_ _=>Par.bF (λ_=>.aq rfl) (λ_=>.aq trivial)) (λ_=>.aq trivial)
 ·rcases x with _ | r
  ·refine .aB (Par.scan s.Decls (by have:=av.za; omega) (λd=>∀ x∈d.eM,j7 x) (λr=>r=false) (λi y aR h1 hi hm=>?_) (λs aC=>by simp [aC])) λx J=>?_
   ·refine Par.br (λ_=>?_) (λh=>absurd h1 h);rw [hi];have hw:aL (i+1)=i+1:=by have:=av.za; rw [cJ]; omega
    rw [hw];refine .aB (Ξ:=λz=>z=y) (.aq rfl) λz aY=>?_;subst aY;exact .aB (Xy z (by have:=(av.decls z hm).n; omega)) λc aa=>Par.bF (λ_=>.aq rfl) (λaf=>.aq ⟨rfl,aa (by simpa using af)⟩)
   ·rcases x with _ | r
    ·have aS:∀ d∈s.Decls,∀ x∈d.eM,j7 x:=J;refine .aB (Par.scan s.dG (by have:=av.aH; omega) (λr=>∀ a∈r.eL,(∀ p∈a.ht,j7 p.Sym)/\j7 a.Prec) (λr=>r=false) (λi y aR h1 hi hm=>?_) (λs aC=>by simp [aC])) λx J=>?_
     ·refine Par.br (λ_=>?_) (λh=>absurd h1 h);rw [hi];have hw:aL (i+1)=i+1:=by have:=av.aH; rw [cJ]; omega
      rw [hw];refine .aB (Ξ:=λz=>z=y) (.aq rfl) λz aY=>?_;subst aY;have l8:=(av.rules z hm);refine .aB (Ξ:=λ_=>True) (λ_ _=>trivial) λc _=>Par.bF (λ_=>.aq rfl) (λ_=>?_);refine .aB (Par.scan z.eL (by have:=l8.n; omega) (λa=>(∀ p∈a.ht,j7 p.Sym)/\j7 a.Prec) (λr=>r=false) (λk y aR h1 hi hm=>?_) (λs aC=>by simp [aC])) λx J=>?_
      ·refine Par.br (λ_=>?_) (λh=>absurd h1 h);rw [hi];have hw:aL (k+1)=k+1:=by have:=l8.n; rw [cJ]; omega
       rw [hw];refine .aB (Ξ:=λz=>z=y) (.aq rfl) λz aY=>?_;subst aY;exact .aB (Xz z (by have:=(l8.alts z hm).n; omega)) λc aa=>Par.bF (λ_=>.aq rfl) (λaf=>.aq ⟨rfl,aa (by simpa using af)⟩)
      ·rcases x with _ | r
       ·exact .aq ⟨rfl,J⟩
       ·exact .aq J
     ·rcases x with _ | r
      ·exact .aq λ_=>⟨aS,J⟩
      ·exact .aq λh=>by have:r=false:=J; rw [this] at h; cases h
    ·exact .aq λh=>by have:r=false:=J; rw [this] at h; cases h
  ·exact .aq λh=>by have:r=false:=J; rw [this] at h; cases h
structure yU (T:List bX) (G:List Bool):Prop where
 En:G.length=T.length
 lo:3<=T.length
 hi:T.length<=lim
 CC:∀ t∈T,t.Name.size<=dK/\(t.Lit=true->t.Name.size=1)
 le:∀ t∈T,t.bR<=50000
structure tr (T:List bX) (G:List Bool):Prop where
 aS:∀ (i:Nat) (t:bX),i<3->T[i]?=some t->t.bR<=0
 un:∀ (i j:Nat) (s t:bX),T[i]?=some s->T[j]?=some t->0<s.bR->s.bR=t.bR->i=j
 gF:∀ (i:Nat) (t:bX),3<=i->T[i]?=some t->(G[i]?=some true->0<t.bR)/\(G[i]?=some false->t.bR=0)
structure fE (m:fJ):Prop where
 a:yU m.aG.ba m.cu
 b:m.c3=0->tr m.aG.ba m.cu
 fz:∀ y∈m.cb,y.size<=dK
theorem vz {α:Type}{l:List α}{i:Int}{y:α}(h:idx l i=some y):0<=i/\i.toNat<l.length/\l[i.toNat]?=some y:=by
 unfold idx at h
 split at h
 ·rename_i aR;exact ⟨aR,(List.getElem?_eq_some_iff.1 h).1,h⟩
 ·cases h
theorem yU.set {T:List bX}{G:List Bool}(h:yU T G) {k:Nat}{t t':bX}(hk:T[k]?=some t) (aF:t'.Name=t.Name) (ak:t'.Lit=t.Lit) (hu:t'.bR<=50000) {La:List Bool}(c_:La.length=G.length):yU (T.set k t') La:=by
 have hm:=List.mem_of_getElem? hk;have key:∀ {P:bX->Prop},(∀ s∈T,P s)->P t'->∀ s∈T.set k t',P s:=λh1 af s aC=>by
  rcases List.mem_or_eq_of_mem_set aC with h | h
  ·exact h1 s h
  ·rw [h]; exact af
 exact ⟨by rw [c_,List.length_set]; exact h.En,by rw [List.length_set]; exact h.lo,by rw [List.length_set]; exact h.hi,key h.CC (by rw [aF,ak]; exact h.CC t hm),key h.le hu⟩
theorem yg {α:Type}{l:List α}{k:Nat}{x:α}(hk:k<l.length) (i:Nat):(l.set k x)[i]?=if i=k then some x else l[i]?:=by
 rw [List.getElem?_set];by_cases e:k=i
 ·subst e; simp [hk]
 ·simp [e,Ne.symm e]
theorem tr.FW {T:List bX}{G:List Bool}(h:tr T G) {k:Nat}{t t':bX}(hk:T[k]?=some t) (hu:t'.bR=t.bR):tr (T.set k t') G:=by
 have aT:=(List.getElem?_eq_some_iff.1 hk).1;have key:∀ (i:Nat) (s:bX),(T.set k t')[i]?=some s->∃ cT,T[i]?=some cT/\cT.bR=s.bR:=by
  intro i s aC;rw [yg aT] at aC;by_cases e:i=k
  ·rw [if_pos e] at aC;cases aC;exact ⟨t,by rw [e]; exact hk,hu.symm⟩
  ·rw [if_neg e] at aC;exact ⟨s,aC,rfl⟩
 refine ⟨λi s hi aC=>?_,λi j s s2 aC lf aR he=>?_,λi s hi aC=>?_⟩
 ·obtain ⟨cT,h1,af⟩:=key i s aC;rw [<- af]; exact h.aS i cT hi h1
 ·obtain ⟨cT,h1,af⟩:=key i s aC;obtain ⟨Yg,aI,bK⟩:=key j s2 lf;exact h.un i j cT Yg h1 aI (by omega) (by omega)
 ·obtain ⟨cT,h1,af⟩:=key i s aC;rw [<- af]; exact h.gF i cT hi h1
theorem tr.Yo {T:List bX}{G:List Bool}(h:tr T G) {k:Nat}{t t':bX}(hk:T[k]?=some t) (aI:3<=k) (aO:k<G.length) (aR:0<t'.bR) (aF:∀ (i:Nat) (s:bX),T[i]?=some s->s.bR≠t'.bR):tr (T.set k t') (G.set k true):=by
 have aT:=(List.getElem?_eq_some_iff.1 hk).1;refine ⟨λi s hi aC=>?_,λi j s s2 aC lf au he=>?_,λi s hi aC=>?_⟩
 ·rw [yg aT,if_neg (by omega)] at aC;exact h.aS i s hi aC
 ·rw [yg aT] at aC lf;by_cases cz:i=k
  ·rw [if_pos cz] at aC; cases aC;by_cases cf:j=k
   ·omega
   ·rw [if_neg cf] at lf;exact absurd he.symm (aF j s2 lf)
  ·rw [if_neg cz] at aC;by_cases cf:j=k
   ·rw [if_pos cf] at lf; cases lf;exact absurd he (aF i s aC)
   ·rw [if_neg cf] at lf;exact h.un i j s s2 aC lf au he
 ·rw [yg aT] at aC;rw [yg aO];by_cases cz:i=k
  ·rw [if_pos cz] at aC ⊢;cases aC;exact ⟨λ_=>aR,λh=>by cases h⟩
  ·rw [if_neg cz] at aC ⊢;exact h.gF i s hi aC
theorem s5 (m:fJ) (a:Int) (n:ByteArray):Par (nV m a n) λm'=>rN m m'/\m'.c3≠0:=.of (t105 m a n)
theorem fE.fail {m m':fJ}(h:fE m) (aC:rN m m'/\m'.c3≠0):fE m':=⟨by rw [aC.1.g,aC.1.gF]; exact h.a,λe=>absurd e aC.2,by rw [aC.1.fz]; exact h.fz⟩
theorem Xw (m:fJ) (x:Sym) (aI:3<=m.aG.ba.length) (h:m.aG.ba.length<=lim):Par (uv m x) λr=>r=-1\/(1<=r/\r≠2):=by
 have ak:lim=1000000000000\/lim<=1000000000000000:=by unfold lim; omega
 unfold uv;refine .aB (Ξ:=hK (λ_=>True) (λr:Int=>1<=r/\r≠2)) ?_ λr ao=>?_
 ·refine Par.loop (λs=>1<=s/\s<=m.aG.ba.length) ⟨by decide,by omega⟩ λs aC=>?_
  ·refine Par.br (λaT=>?_) (λ_=>.aq trivial);refine .aB (Ξ:=λc=>c=true->s≠2) ?_ λc aa=>Par.bF (λaQ=>.aq ⟨aC.1,aa aQ⟩) (λ_=>.aq ⟨by rw [cJ]; omega,by rw [cJ]; omega⟩);refine .go λy _=>Par.bF (λ_=>.go λz _=>Par.bF (λ_=>.aq λaQ=>by simpa using aQ) (λ_=>.aq λh=>by cases h)) (λ_=>.aq λh=>by cases h)
 ·rcases r with _ | r
  ·exact .aq (.inl rfl)
  ·exact .aq (.inr ao)
theorem Pe (m:fJ) (n:Int) (aI:3<=m.aG.ba.length) (h:m.aG.ba.length<=lim):Par (vP m n) λr=>r<0->∀ (i:Nat) (t:bX),3<=i->m.aG.ba[i]?=some t->t.bR≠n:=by
 have ak:lim=1000000000000\/lim<=1000000000000000:=by unfold lim; omega
 unfold vP;refine .aB (Ξ:=hK (λ_=>∀ (i:Nat) (t:bX),3<=i->m.aG.ba[i]?=some t->t.bR≠n) (λr:Int=>0<=r)) ?_ λr ao=>?_
 ·refine Par.loop (λs=>3<=s/\s<=m.aG.ba.length/\∀ (i:Nat) (t:bX),3<=i->(i:Int)<s->m.aG.ba[i]?=some t->t.bR≠n) ⟨by decide,by omega,λi t h1 af=>by omega⟩ λs aC=>?_;obtain ⟨h1,af,aC⟩:=aC;refine Par.br (λaT=>?_) (λdU=>.aq λi t hi aw=>aC i t hi ?_ aw)
  ·refine .go λy ax=>?_;obtain ⟨_,_,ax⟩:=vz ax;have hw:aL (s+1)=s+1:=by rw [cJ]; omega
   rw [hw];refine Par.br (λe=>.aq (show (0:Int)<=s by omega)) (λe=>.aq ⟨by omega,by omega,λi t hi zp aw=>?_⟩);by_cases cf:i=s.toNat
   ·subst cf;rw [ax] at aw; cases aw; exact e
   ·exact aC i t hi (by omega) aw
  ·have:=(List.getElem?_eq_some_iff.1 aw).1;omega
 ·rcases r with _ | r
  ·exact .aq λ_=>ao
  ·exact .aq λh=>by have:(0:Int)<=r:=ao; omega
theorem Dq {α:Type}{l:List α}{x:α}(i:Nat) {y:α}(h:(l++[x])[i]?=some y):(i<l.length/\l[i]?=some y)\/(i=l.length/\y=x):=by
 by_cases hi:i<l.length
 ·rw [List.getElem?_append_left hi] at h;exact .inl ⟨hi,h⟩
 ·rw [List.getElem?_append_right (by omega)] at h;by_cases e:i - l.length=0
  ·rw [e] at h;simp at h;exact .inr ⟨by omega,h.symm⟩
  ·have:([x]:List α)[i - l.length]?=none:=by rw [List.getElem?_eq_none]; simp; omega
   rw [this] at h; cases h
theorem Pd (m:fJ) (x:Sym) (hm:fE m) (J:j7 x) (aC:x.Name.size<=dK):Par (vO m x) λr=>fE r.2/\(r.1=1\/3<=r.1):=by
 unfold vO;have ak:lim<=1000000000000000:=by unfold lim; omega
 refine .aB (Xw m x hm.a.lo hm.a.hi) λr ao=>Par.br (λh=>.aq ⟨hm,?_⟩) (λ_=>?_)
 ·show r=1\/3<=r;omega
 refine .aB (Ξ:=λj:fJ × Int=>j.1.aG=m.aG/\j.1.cu=m.cu/\j.1.cb=m.cb/\fE j.1/\j.2<=50000/\(j.1.c3=0->(x.Lit=true->0<j.2/\∀ (i:Nat) (t:bX),m.aG.ba[i]?=some t->t.bR≠j.2)/\(x.Lit=false->j.2=0))) ?_ λj ah=>?_
 ·refine Par.bF (λod=>?_) (λod=>.aq ⟨rfl,rfl,rfl,hm,by show (0:Int)<=_; decide,λ_=>⟨λh=>(by rw [od] at h; cases h),λ_=>rfl⟩⟩);obtain ⟨_,h1,af,_⟩:=J.lit od;refine .aB (Ξ:=λc=>c=lD x.Name 0) (λc aa=>?_) λc aa=>?_
  ·unfold kq at aa
   split at aa
   ·exact (Option.some.inj aa).symm
   ·cases aa
  subst aa;have hw:aL (lD x.Name 0)=lD x.Name 0:=by rw [cJ]; omega
  rw [hw];refine .aB (Pe m (lD x.Name 0) hm.a.lo hm.a.hi) λo a1=>?_;refine .aB (Ξ:=λj:fJ=>j.aG=m.aG/\j.cu=m.cu/\j.cb=m.cb/\fE j/\(j.c3=0->m.c3=0/\o<0)) (Par.br (λh=>.aB (s5 m x.At x.Name) λm' aQ=>.aq ⟨aQ.1.g,aQ.1.gF,aQ.1.fz,hm.fail aQ,λe=>absurd e aQ.2⟩) (λh=>.aq ⟨rfl,rfl,rfl,hm,λe=>⟨e,by omega⟩⟩)) λj ah=>.aq ⟨ah.1,ah.2.1,ah.2.2.1,ah.2.2.2.1,by show lD x.Name 0<=_; omega,λe=>⟨λ_=>⟨h1,λi t aw=>?_⟩,λh=>(by rw [od] at h; cases h)⟩⟩;obtain ⟨cz,cf⟩:=ah.2.2.2.2 e;by_cases aI:3<=i
  ·exact a1 cf i t aI aw
  ·have:=(hm.b cz).aS i t (by omega) aw;show t.bR≠lD x.Name 0;omega
 ·obtain ⟨aO,r5,vk,dL,hle,he⟩:=ah;have Ew:j.1.c3=0->tr m.aG.ba m.cu:=λe=>by have:=dL.b e; rwa [aO,r5] at this
  refine Par.ap λsP=>Par.ap λ_=>.aq ?_;rw [aO] at sP;rw [aO,r5,vk];simp only [List.length_cons,List.length_nil] at sP;have aI:=hm.a.lo;have Iq:=hm.a.En;refine ⟨⟨⟨by simp [Iq],by show 3<=(m.aG.ba++[_]).length; simp; omega,by show (m.aG.ba++[_]).length<=_; simp; omega,λt aw=>?_,λt aw=>?_⟩,λhy=>?_,hm.fz⟩,?_⟩
  ·rcases List.mem_append.1 aw with aw | aw
   ·exact hm.a.CC t aw
   ·rw [List.mem_singleton.1 aw];exact ⟨aC,λh=>(J.lit h).1⟩
  ·rcases List.mem_append.1 aw with aw | aw
   ·exact hm.a.le t aw
   ·rw [List.mem_singleton.1 aw]; exact hle
  ·have Mk:j.1.c3=0:=hy;have av:=Ew Mk;obtain ⟨Ik,BM⟩:=he Mk;refine ⟨λi t hi aw=>?_,λi k s t aC aw aR heq=>?_,λi t hi aw=>?_⟩
   ·rcases Dq i aw with ⟨h1,af⟩ | ⟨h1,_⟩
    ·exact av.aS i t hi af
    ·omega
   ·rcases Dq i aC with ⟨h1,af⟩ | ⟨h1,af⟩
    ·rcases Dq k aw with ⟨bK,cH⟩ | ⟨bK,cH⟩
     ·exact av.un i k s t af cH aR heq
     ·subst cH;have heq:s.bR=j.2:=heq;cases od:x.Lit with
      | true=>exact absurd heq ((Ik od).2 i s af)
      | false=>have:=BM od; omega
    ·subst af;rcases Dq k aw with ⟨bK,cH⟩ | ⟨bK,cH⟩
     ·have heq:j.2=t.bR:=heq;have aR:0<j.2:=aR;cases od:x.Lit with
      | true=>exact absurd heq.symm ((Ik od).2 k t cH)
      | false=>have:=BM od; omega
     ·omega
   ·have Ub:(m.cu++[x.Lit])[i]?=if i=m.aG.ba.length then some x.Lit else m.cu[i]?:=by
     by_cases e:i=m.aG.ba.length
     ·rw [if_pos e,e,<- Iq,List.getElem?_append_right (Nat.le_refl _)]; simp
     ·have:=(List.getElem?_eq_some_iff.1 aw).1;simp at this;rw [if_neg e,List.getElem?_append_left (by omega)]
    show ((m.cu++[x.Lit])[i]?=some true->0<t.bR)/\((m.cu++[x.Lit])[i]?=some false->t.bR=0);rw [Ub];rcases Dq i aw with ⟨h1,af⟩ | ⟨h1,af⟩
    ·rw [if_neg (by omega)];exact av.gF i t hi af
    ·rw [if_pos h1];subst af;exact ⟨λh=>(Ik (Option.some.inj h)).1,λh=>BM (Option.some.inj h)⟩
  ·right;show 3<=aL (((m.aG.ba++[_]).length:Int) - 1);simp only [List.length_append,List.length_cons,List.length_nil];rw [cJ]; omega
theorem xr {α:Type}{l:List α}{i:Int}{y:α}(h:idx l i=some y):y∈l:=List.mem_of_getElem? (vz h).2.2
theorem fE.FW {m:fJ}(h:fE m) {k:Nat}{t t':bX}(hk:m.aG.ba[k]?=some t) (aF:t'.Name=t.Name) (ak:t'.Lit=t.Lit) (hu:t'.bR=t.bR):yU (m.aG.ba.set k t') m.cu/\(m.c3=0->tr (m.aG.ba.set k t') m.cu) :=
 ⟨h.a.set hk aF ak (by rw [hu]; exact h.a.le t (List.mem_of_getElem? hk)) rfl,λe=>(h.b e).FW hk hu⟩
theorem fE.Hv {m m':fJ}(h:fE m) (aC:rN m m'/\m'.c3≠0):fE (⟨(⟨m.aG.ba,m'.aG.b3,m'.aG.bj,m'.aG.cC,m'.aG.cK⟩:bO),m'.cu,m'.cL,m'.cb,m'.c3,m'.dn,m'.dk,m'.ct,m'.b_⟩:fJ) :=
 ⟨by show yU m.aG.ba m'.cu; rw [aC.1.gF]; exact h.a,λe=>absurd e aC.2,by show ∀ y∈m'.cb,_; rw [aC.1.fz]; exact h.fz⟩
theorem Xv (m:fJ) (d:Decl) (x:Sym) (hm:fE m) (J:j7 x) (aC:x.Name.size<=dK):Par (vK m d x) fE:=by
 unfold vK;refine Par.bF (λ_=>?_) (λ_=>?_)
 ·refine .aB (Ξ:=λ_=>True) (λ_ _=>trivial) λk _=>.aB (Ξ:=fE) ?_ λm' hm=>.aq hm;refine Par.br (λ_=>Par.ap λ_=>.aq ⟨hm.a,hm.b,hm.fz⟩) (λ_=>?_);refine .go λy _=>.aB (Ξ:=fE) (Par.bF (λ_=>.aB (s5 m _ _) λm' h=>.aq (hm.fail h)) (λ_=>.aq hm)) λm' hm=>.aq hm
 ·refine .aB (Pd m x hm J aC) λr ao=>?_;obtain ⟨ao,ku⟩:=ao;refine .go λy ax=>?_;refine .aB (Ξ:=fE) ?_ λeO q'=>?_
  ·refine Par.bF (λ_=>?_) (λ_=>.aq ao);refine .aB (Ξ:=fE) (Par.bF (λ_=>.aB (s5 r.2 _ _) λm' h=>.aq (ao.Hv h)) (λ_=>.aq ao)) λde sH=>?_;refine .go λz aY=>?_;obtain ⟨_,_,aY⟩:=vz aY;rw [List.set_set];obtain ⟨h1,af⟩:=sH.FW (t':=(⟨z.Name,z.Lit,z.bR,de.ct,aL (d.Kind - 1),z.Tag⟩:bX)) aY rfl rfl rfl;exact .aq ⟨h1,af,sH.fz⟩
  refine .go λy _=>?_;refine .aB (Ξ:=fE) ?_ λfc u7=>?_
  ·refine Par.br (λsQ=>?_) (λ_=>.aq q');refine .aB (Ξ:=λc:Bool=>c=false->r.1≠1/\∀ (i:Nat) (t:bX),3<=i->eO.aG.ba[i]?=some t->t.bR≠x.bR) ?_ λc aa=>?_
   ·refine Par.br (λ_=>.aq λh=>by cases h) (λh1=>.go λgF _=>Par.bF (λ_=>.aq λh=>by cases h) (λ_=>.aB (Pe eO x.bR q'.a.lo q'.a.hi) λo a1=>.aq λh=>⟨h1,a1 (by have:=of_decide_eq_false h; omega)⟩))
   refine .aB (Ξ:=λj=>fE j/\(j.c3=0->r.1≠1/\∀ (i:Nat) (t:bX),3<=i->j.aG.ba[i]?=some t->t.bR≠x.bR)) (Par.bF (λ_=>.aB (s5 eO _ _) λm' h=>.aq ⟨q'.Hv h,λe=>absurd e h.2⟩) (λh=>.aq ⟨q',λ_=>aa h⟩)) λdZ rW=>?_;obtain ⟨rW,aF⟩:=rW;refine .go λz aY=>.go λgF r5=>.aq ?_;obtain ⟨aR,aT,aY⟩:=vz aY;obtain ⟨_,Vx,r5⟩:=vz r5;have hle:=J.num;refine ⟨rW.a.set (t':=(⟨z.Name,z.Lit,x.bR,z.Level,z.fv,z.Tag⟩:bX)) aY rfl rfl hle.2 (by simp),λe=>?_,rW.fz⟩;obtain ⟨aI,bK⟩:=aF e;have av:=rW.b e;refine av.Yo (t':=(⟨z.Name,z.Lit,x.bR,z.Level,z.fv,z.Tag⟩:bX)) aY (by omega) Vx sQ λi t aw=>?_;by_cases abE:3<=i
   ·grind
   ·have:=av.aS i t (by omega) aw
    grind
  refine .go λy _=>.aB (Ξ:=fE) ?_ λj ah=>.aq ah;refine Par.bF (λ_=>?_) (λ_=>.aq u7);refine .aB (Ξ:=λ_=>True) (λ_ _=>trivial) λc _=>?_;refine .aB (Ξ:=fE) (Par.bF (λ_=>.aB (s5 fc _ _) λm' h=>.aq (u7.Hv h)) (λ_=>.aq u7)) λnf Br=>?_;refine .go λz aY=>?_;obtain ⟨_,_,aY⟩:=vz aY;obtain ⟨h1,af⟩:=Br.FW (t':=(⟨z.Name,z.Lit,z.bR,z.Level,z.fv,d.Tag⟩:bX)) aY rfl rfl rfl;exact .aq ⟨h1,af,Br.fz⟩
theorem Pf (m:fJ) (x:Sym) (hm:fE m) (J:j7 x) (aC:x.Name.size<=dK):Par (s8 m x) λr=>fE r.2:=by
 unfold s8;refine Par.bF (λ_=>.aB (Pd m x hm J aC) λr ao=>.aq ao.1) (λ_=>.aB (Ξ:=λ_=>True) (λ_ _=>trivial) λk _=>Par.bF (λ_=>.aq hm) (λ_=>.aB (Ξ:=λ_=>True) (λ_ _=>trivial) λt _=>Par.bF (λ_=>.aB (s5 m _ _) λm' h=>.aq (hm.fail h)) (λ_=>.aq hm)))
theorem Xx (m:fJ) (left:ByteArray) (a:Alt) (hm:fE m) (av:wk a) (aP:(∀ p∈a.ht,j7 p.Sym)/\j7 a.Prec):Par (vL m left a) fE:=by
 have aF:=av.n;unfold vL;refine .aB (Ξ:=λ_=>True) (λ_ _=>trivial) λa8 _=>?_;refine .aB (Ξ:=λr:fJ × List Int × ByteArray × Int=>fE r.1) ?_ λa7 aI=>?_
 ·refine Par.loop (λs=>fE s.1/\0<=s.2.2.2.2) ⟨hm,Int.le_refl 0⟩ λs aC=>?_;obtain ⟨m1,rt,bF,at_,i⟩:=s;obtain ⟨aC,aR⟩:=aC;simp only at aC aR ⊢;refine Par.br (λaT=>?_) (λ_=>.aq aC);refine .aB (Ξ:=λj:fJ × List Int × ByteArray × Int=>fE j.1) ?_ λj ah=>.aq ⟨ah,by show 0<=aL (i+1); rw [cJ]; omega⟩;refine .go λy ax=>.aB (Ξ:=λj:fJ × List Int × ByteArray × Int=>fE j.1) ?_ λj ah=>.aq ah;have EV:=(xr ax);refine .aB (Ξ:=λj:fJ × List Int × ByteArray × Int=>fE j.1) ?_ λj ah=>.aq ah;refine Par.bF (λ_=>?_) (λ_=>?_)
  ·exact .aB (Pf m1 y.Sym aC (aP.1 y EV) (av.parts y EV).1) λr ao=>Par.ap λ_=>.aq ao
  ·exact .aB (Ξ:=λ_=>True) (λ_ _=>trivial) λj _=>.aq ⟨aC.a,aC.b,aC.fz⟩
 ·refine .aB (Ξ:=λ_=>True) (λ_ _=>trivial) λhq _=>?_;refine .aB (Ξ:=λj:fJ × Int=>fE j.1) ?_ λj ah=>Par.ap λ_=>Par.ap λ_=>.aq ⟨ah.a,ah.b,ah.fz⟩;refine Par.bF (λ_=>?_) (λ_=>.aq aI);refine .aB (Ξ:=λ_=>True) (λ_ _=>trivial) λc _=>.aB (Ξ:=λj:fJ × Int=>fE j.1) ?_ λj ah=>.aq ah;exact Par.bF (λ_=>.aB (Pf a7.1 a.Prec aI aP.2 av.prec) λr ao=>.aq ao) (λ_=>.aB (s5 a7.1 _ _) λm' h=>.aq (aI.fail h))
structure uS (g:bO):Prop where
 aS:∀ (i:Nat) (t:bX),i<3->g.ba[i]?=some t->t.bR<=0
 pos:∀ (i:Nat) (t:bX),3<=i->g.ba[i]?=some t->0<t.bR/\t.bR<=100000
 un:∀ (i j:Nat) (s t:bX),g.ba[i]?=some s->g.ba[j]?=some t->0<s.bR->s.bR=t.bR->i=j
 CC:∀ t∈g.ba,t.Name.size<=dK/\(t.Lit=true->t.Name.size=1)
 dz:∀ x∈g.b3,x.Name.size<=4 * dK
theorem XD (s:Source) (av:rO s):Par (vY s) λr=>r.2.1=0->uS r.1:=by
 have U9:=av.za;have B4:=av.aH;unfold vY;refine .aB (Xu s av) λc aa=>Par.bF (λ_=>.aq λh=>absurd h (by decide)) (λim=>?_);have ok:Lk s:=aa (by simpa using im);refine .aB (Ξ:=λl=>l=List.replicate 3 false) (λa e=>by unfold ni at e; split at e <;> cases e; rfl) λa7 js=>?_;subst js
 -- declarations
 refine .aB (Ξ:=λr:fJ × ByteArray=>fE r.1) ?_ λbT cH=>?_
 ·refine Par.loop (λz=>fE z.1/\0<=z.2.2) ⟨⟨⟨rfl,Nat.le_refl 3,by show 3<=lim; unfold lim; omega,λt aw=>?_,λt aw=>?_⟩,λ_=>⟨λi t hi aw=>?_,λi j a b aP av aR he=>?_,λi t hi aw=>?_⟩,λy ax=>by cases ax⟩,Int.le_refl 0⟩ λz aY=>?_
  ·have aw:t∈[_,_,_]:=aw;simp only [List.mem_cons,List.not_mem_nil,or_false] at aw;rcases aw with rfl | rfl | rfl <;> exact ⟨by decide,λh=>by cases h⟩
  ·have aw:t∈[_,_,_]:=aw;simp only [List.mem_cons,List.not_mem_nil,or_false] at aw;rcases aw with rfl | rfl | rfl <;> decide
  ·have aw:t∈[_,_,_]:=List.mem_of_getElem? aw;simp only [List.mem_cons,List.not_mem_nil,or_false] at aw;rcases aw with rfl | rfl | rfl <;> decide
  ·have aP:a∈[_,_,_]:=List.mem_of_getElem? aP;simp only [List.mem_cons,List.not_mem_nil,or_false] at aP;rcases aP with rfl | rfl | rfl <;> exact absurd aR (by decide)
  ·have:=(List.getElem?_eq_some_iff.1 aw).1;have:i<3:=this;omega
  ·obtain ⟨m,st,i⟩:=z;obtain ⟨hm,aR⟩:=aY;simp only at hm aR ⊢;refine Par.br (λaT=>?_) (λ_=>.aq hm);refine .go λd aS=>?_;have jW:=xr aS;refine .aB (Ξ:=λ_=>True) (λ_ _=>trivial) λ_ _=>.aB (Ξ:=λ_=>True) (λ_ _=>trivial) λju _=>?_;refine .aB (Ξ:=λr:fJ × ByteArray=>fE r.1) ?_ λr ao=>.aq ⟨ao,by show 0<=aL (i+1); rw [cJ]; omega⟩;refine Par.loop (λz=>fE z.1/\0<=z.2.2) ⟨⟨hm.a,hm.b,hm.fz⟩,Int.le_refl 0⟩ λz aY=>?_;obtain ⟨m,st,k⟩:=z;obtain ⟨hm,HG⟩:=aY;simp only at hm HG ⊢;have zl:=(av.decls d jW).n;refine Par.br (λxb=>?_) (λ_=>.aq hm);refine .aB (Ξ:=λr:fJ × ByteArray=>fE r.1) ?_ λr ao=>.aq ⟨ao,by show 0<=aL (k+1); rw [cJ]; omega⟩;refine Par.bF (λ_=>.go λx J=>?_) (λ_=>?_)
   ·have zE:=xr J;exact .aB (Xv m d x hm (ok.decls d jW x zE) ((av.decls d jW).syms x zE)) λm' iq=>.aq iq
   ·refine .aB (Ξ:=fE) (Par.bF (λ_=>.go λ_ _=>.go λ_ _=>.aB (s5 m _ _) λm' h=>.aq (hm.fail h)) (λ_=>.aq hm)) λm' iq=>.go λ_ _=>.aq iq
 -- what stands on the left
 refine .aB (Ξ:=fE) ?_ λcX HK=>?_
 ·refine Par.loop (λz=>fE z.1/\0<=z.2) ⟨cH,Int.le_refl 0⟩ λz aY=>?_;obtain ⟨m,i⟩:=z;obtain ⟨hm,aR⟩:=aY;simp only at hm aR ⊢;refine Par.br (λaT=>?_) (λ_=>.aq hm);refine .aB (Ξ:=fE) ?_ λr ao=>.aq ⟨ao,by show 0<=aL (i+1); rw [cJ]; omega⟩;refine .go λr ao=>.aB (Ξ:=λ_=>True) (λ_ _=>trivial) λ_ _=>?_;refine .aB (Ξ:=fE) (Par.bF (λ_=>.aB (s5 m _ _) λm' h=>.aq (hm.fail h)) (λ_=>.aq hm)) λiR pn=>?_;refine .aB (Ξ:=λ_=>True) (λ_ _=>trivial) λ_ _=>?_;refine .aB (Ξ:=λl:List ByteArray=>∀ y∈l,y.size<=dK) (Par.bF (λ_=>Par.ap λ_=>.aq λy ax=>?_) (λ_=>.aq pn.fz)) λl ak=>.aq ⟨pn.a,pn.b,ak⟩;rcases List.mem_append.1 ax with ax | ax
  ·exact pn.fz y ax
  ·rw [List.mem_singleton.1 ax]; exact (av.rules r (xr ao)).left
 -- types and starts
 refine .aB (Ξ:=fE) ?_ λhd tK=>?_
 ·refine Par.loop (λz=>fE z.1) HK λz hm=>?_;obtain ⟨m,i⟩:=z;simp only at hm ⊢;refine Par.br (λaT=>?_) (λ_=>.aq hm);refine .aB (Ξ:=fE) ?_ λr ao=>.aq ao;refine Par.loop (λz=>fE z.1) hm λz hm=>?_;obtain ⟨m,k⟩:=z;simp only at hm ⊢;refine .go λd _=>Par.br (λaT=>?_) (λ_=>.aq hm);refine .aB (Ξ:=fE) ?_ λr ao=>.aq ao;refine .go λ_ _=>.go λ_ _=>.aB (Ξ:=λ_=>True) (λ_ _=>trivial) λ_ _=>?_;exact .aB (Ξ:=fE) (Par.bF (λ_=>.aB (s5 m _ _) λm' h=>.aq (hm.fail h)) (λ_=>.aq hm)) λm' iq=>.aq iq
 refine .aB (Ξ:=λ_=>True) (λ_ _=>trivial) λxz _=>.aB (Ξ:=λ_=>True) (λ_ _=>trivial) λmH _=>?_
 -- the alternatives
 refine .aB (Ξ:=fE) ?_ λbu po=>?_
 ·refine Par.loop (λz=>fE z.1/\0<=z.2) ⟨⟨tK.a,tK.b,tK.fz⟩,Int.le_refl 0⟩ λz aY=>?_;obtain ⟨m,i⟩:=z;obtain ⟨hm,aR⟩:=aY;simp only at hm aR ⊢;refine Par.br (λaT=>?_) (λ_=>.aq hm);refine .aB (Ξ:=fE) ?_ λr ao=>.aq ⟨ao,by show 0<=aL (i+1); rw [cJ]; omega⟩;refine Par.loop (λz=>fE z.1/\0<=z.2) ⟨hm,Int.le_refl 0⟩ λz aY=>?_;obtain ⟨m,k⟩:=z;obtain ⟨hm,HG⟩:=aY;simp only at hm HG ⊢;refine .go λd aS=>Par.br (λxb=>?_) (λ_=>.aq hm);have jW:=xr aS;have zl:=(av.rules d jW).n;refine .go λd1 Nt=>.go λd2 zk=>.go λa aP=>?_;rw [aS] at Nt zk;cases Nt; cases zk;have Nj:=xr aP;exact .aB (Xx m d.Left a hm ((av.rules d jW).alts a Nj) (ok.rules d jW a Nj)) λm' iq=>.aq ⟨iq,by show 0<=aL (k+1); rw [cJ]; omega⟩
 refine Par.qg (λh=>.aq λaQ=>absurd aQ h) (λhe=>?_);have IW:=po.b he
 -- nonterminals
 refine .aB (Ξ:=λl:List fF=>1<=l.length/\∀ x∈l,x.Name.size<=4 * dK) ?_ λuN HN=>?_
 ·refine Par.loop (λz=>1<=z.1.length/\∀ x∈z.1,x.Name.size<=4 * dK) ⟨Nat.le_refl 1,λx J=>?_⟩ λz aY=>?_
  ·rw [List.mem_singleton.1 J]; decide
  ·refine Par.bF (λ_=>.go λy ax=>.go λ_ _=>.aB (Ξ:=λ_=>True) (λ_ _=>trivial) λ_ _=>Par.ap λ_=>.aq ⟨by show 1<=(z.1++[_]).length; simp,λx J=>?_⟩) (λ_=>.aq aY);rcases List.mem_append.1 J with J | J
   ·exact aY.2 x J
   ·rw [List.mem_singleton.1 J];have:=po.fz y (xr ax);show y.size<=4 * dK;omega
 refine .aB (Ξ:=λl:List fF=>l.length<=24->∀ x∈l,x.Name.size<=4 * dK) ?_ λkZ MW=>?_
 ·refine Par.loop (λz=>(z.1.length<=24->∀ x∈z.1,x.Name.size<=4 * dK)/\0<=z.2/\z.2<=z.1.length) ⟨λ_=>HN.2,by show (0:Int)<=1; decide,by have:=HN.1; show (1:Int)<=(uN.length:Int); omega⟩ λz aY=>?_;obtain ⟨l,i⟩:=z;obtain ⟨ak,aR,hi⟩:=aY;simp only at ak aR hi ⊢;refine Par.br (λhle=>.go λy ax=>?_) (λ_=>.aq ak);refine Par.cat (Par.ap λsP=>.aq ⟨λhlen x J=>?_,by show 0<=aL (i+1); unfold lim at sP; simp only [List.length_cons,List.length_nil] at sP; rw [cJ]; omega,by show aL (i+1)<=(((l++[_]).length:Nat):Int); unfold lim at sP; simp only [List.length_cons,List.length_nil,List.length_append] at sP ⊢; rw [cJ]; omega⟩);have hlen:(l++[_]).length<=24:=hlen;simp only [List.length_append,List.length_cons,List.length_nil] at hlen;rcases List.mem_append.1 J with J | J
  ·exact ak (by omega) x J
  ·rw [List.mem_singleton.1 J];have fX:=(t110 i aR (by omega)).eq ax;show (_++y).size<=4 * dK;rw [ByteArray.size_append];show 1+y.size<=4 * dK;simp only [dK]; omega
 -- numbers
 have dL:=po.a;have sP:bu.aG.ba.length<=1000000000000000:=by have:=dL.hi; unfold lim at this; omega
 refine .aB (Ξ:=λl:List bX=>∃ (i next:Int),l.length=bu.aG.ba.length/\(l.length:Int)<=i/\(∀ (j:Nat) (t:bX),l[j]?=some t->∃ t0,bu.aG.ba[j]?=some t0/\t.Name=t0.Name/\t.Lit=t0.Lit/\((t.bR=t0.bR/\(¬ (3<=j/\(j:Int)<i)\/bu.cu[j]?=some true))\/(57346<=t.bR/\t.bR<next/\3<=j/\(j:Int)<i)))/\(∀ (j k:Nat) (s t:bX),l[j]?=some s->l[k]?=some t->57346<=s.bR->s.bR=t.bR->j=k)/\57346<=next/\next<=57343+i/\i<=l.length) ?_ λmf MX=>?_
 ·refine Par.loop (λz=>z.1.length=bu.aG.ba.length/\(∀ (j:Nat) (t:bX),z.1[j]?=some t->∃ t0,bu.aG.ba[j]?=some t0/\t.Name=t0.Name/\t.Lit=t0.Lit/\((t.bR=t0.bR/\(¬ (3<=j/\(j:Int)<z.2.2)\/bu.cu[j]?=some true))\/(57346<=t.bR/\t.bR<z.2.1/\3<=j/\(j:Int)<z.2.2)))/\(∀ (j k:Nat) (s t:bX),z.1[j]?=some s->z.1[k]?=some t->57346<=s.bR->s.bR=t.bR->j=k)/\57346<=z.2.1/\z.2.1<=57343+z.2.2/\3<=z.2.2/\z.2.2<=z.1.length) ⟨rfl,λj t aw=>⟨t,aw,rfl,rfl,.inl ⟨rfl,.inl (by show ¬ (3<=j/\(j:Int)<3); omega)⟩⟩,λj k s t aC aw aR he=>?_,by show (57346:Int)<=57346; decide,by show (57346:Int)<=57343+3; decide,Int.le_refl 3,by have:=dL.lo; show (3:Int)<=(bu.aG.ba.length:Nat); omega⟩ λz aY=>?_
  ·have:=dL.le s (List.mem_of_getElem? aC); omega
  obtain ⟨l,next,i⟩:=z;obtain ⟨ak,fm,rZ,k',xd,Vi,ua⟩:=aY;simp only at ak fm rZ k' xd Vi ua ⊢;have hw:aL (i+1)=i+1:=by rw [cJ]; omega
  have Wg:aL (next+1)=next+1:=by rw [cJ]; omega
  rw [hw,Wg];refine Par.br (λaT=>?_) (λdU=>.aq ⟨i,next,ak,by omega,fm,rZ,k',xd,ua⟩);have EA:i.toNat<l.length:=by omega
  refine .aB (Ξ:=λj:List bX × Int=>j.1.length=bu.aG.ba.length/\(∀ (k:Nat) (t:bX),j.1[k]?=some t->∃ t0,bu.aG.ba[k]?=some t0/\t.Name=t0.Name/\t.Lit=t0.Lit/\((t.bR=t0.bR/\(¬ (3<=k/\(k:Int)<i+1)\/bu.cu[k]?=some true))\/(57346<=t.bR/\t.bR<j.2/\3<=k/\(k:Int)<i+1)))/\(∀ (a k:Nat) (s t:bX),j.1[a]?=some s->j.1[k]?=some t->57346<=s.bR->s.bR=t.bR->a=k)/\57346<=j.2/\j.2<=57343+(i+1)) ?_ λj ah=>.aq ⟨ah.1,ah.2.1,ah.2.2.1,ah.2.2.2.1,ah.2.2.2.2,by show 3<=i+1; omega,by show i+1<=(j.1.length:Nat); rw [ah.1,<- ak]; omega⟩;refine .go λgF r5=>.aB (Ξ:=λj:List bX × Int=>j.1.length=bu.aG.ba.length/\(∀ (k:Nat) (t:bX),j.1[k]?=some t->∃ t0,bu.aG.ba[k]?=some t0/\t.Name=t0.Name/\t.Lit=t0.Lit/\((t.bR=t0.bR/\(¬ (3<=k/\(k:Int)<i+1)\/bu.cu[k]?=some true))\/(57346<=t.bR/\t.bR<j.2/\3<=k/\(k:Int)<i+1)))/\(∀ (a k:Nat) (s t:bX),j.1[a]?=some s->j.1[k]?=some t->57346<=s.bR->s.bR=t.bR->a=k)/\57346<=j.2/\j.2<=57343+(i+1)) ?_ λj ah=>.aq ah;obtain ⟨_,_,r5⟩:=vz r5;refine Par.bF (λaO=>.go λy ax=>.aq ?_) (λaO=>.aq ⟨ak,λk t aw=>?_,rZ,k',by omega⟩)
  ·obtain ⟨_,_,ax⟩:=vz ax;obtain ⟨t0,hy,cz,cf,fO⟩:=fm _ y ax;have acr:y.bR<next:=by
    rcases fO with ⟨fO,_⟩ | fO
    ·have:=dL.le t0 (List.mem_of_getElem? hy); omega
    ·exact fO.2.1
   have l7:∀ (k:Nat) (t:bX),l[k]?=some t->t.bR<next:=λk t aw=>by
    obtain ⟨t1,f0,_,_,f3⟩:=fm k t aw;rcases f3 with ⟨f3,_⟩ | f3
    ·have:=dL.le t1 (List.mem_of_getElem? f0); omega
    ·exact f3.2.1
   refine ⟨by show (l.set _ _).length=_; rw [List.length_set]; exact ak,λk t aw=>?_,λa k s t aC aw aR he=>?_,by show 57346<=next+1; omega,by show next+1<=_; omega⟩
   ·have aw:(l.set i.toNat _)[k]?=some t:=aw;rw [yg EA] at aw;by_cases e:k=i.toNat
    ·rw [if_pos e] at aw;cases aw;subst e;exact ⟨t0,hy,cz,cf,.inr ⟨k',by show next<next+1; omega,by omega,by omega⟩⟩
    ·rw [if_neg e] at aw;obtain ⟨t1,f0,f1,f2,f3⟩:=fm k t aw;refine ⟨t1,f0,f1,f2,?_⟩;rcases f3 with ⟨f3,f4⟩ | f3
     ·exact .inl ⟨f3,f4.imp (λh=>by omega) id⟩
     ·exact .inr ⟨f3.1,by show t.bR<next+1; omega,f3.2.2.1,by omega⟩
   ·have aC:(l.set i.toNat _)[a]?=some s:=aC;have aw:(l.set i.toNat _)[k]?=some t:=aw;rw [yg EA] at aC aw;by_cases e:a=i.toNat
    ·rw [if_pos e] at aC;cases aC;by_cases cj:k=i.toNat
     ·omega
     ·rw [if_neg cj] at aw;have h1:=l7 k t aw;have he:next=t.bR:=he;omega
    ·rw [if_neg e] at aC;by_cases cj:k=i.toNat
     ·rw [if_pos cj] at aw;cases aw;have h1:=l7 a s aC;have he:s.bR=next:=he;omega
     ·rw [if_neg cj] at aw;exact rZ a k s t aC aw aR he
  ·obtain ⟨t1,f0,f1,f2,f3⟩:=fm k t aw;refine ⟨t1,f0,f1,f2,?_⟩;rcases f3 with ⟨f3,f4⟩ | f3
   ·by_cases e:k=i.toNat
    ·refine .inl ⟨f3,.inr ?_⟩;rw [e,r5];simpa using aO
    ·exact .inl ⟨f3,f4.imp (λh=>by omega) id⟩
   ·exact .inr ⟨f3.1,f3.2.1,f3.2.2.1,by omega⟩
 -- limits
 refine .aB (Ξ:=λc=>c=false->mf.length<=40/\kZ.length<=24) ?_ λu2 HH=>?_
 ·exact Par.br (λ_=>.aq λh=>by cases h) (λh1=>Par.br (λ_=>.aq λh=>by cases h) (λaf=>.aq λh=>by omega))
 refine .aB (Ξ:=λc=>c=false->u2=false) ?_ λAH HI=>?_
 ·refine Par.loop (λz=>z.1=false->u2=false) id λz aY=>?_;refine Par.bF (λ_=>?_) (λ_=>.aq aY);exact .aB (Ξ:=λc=>c=false->u2=false) (Par.bF (λ_=>.aq λh=>by cases h) (λh=>.go λ_ _=>.aq λ_=>aY h)) λc aa=>.aq aa
 refine Par.bF (λ_=>.aq λh=>absurd h (by decide)) (λaa=>.aq λ_=>?_);obtain ⟨hV,iu⟩:=HH (HI aa);obtain ⟨i,next,ak,dU,fm,rZ,k',xd,ua⟩:=MX;refine ⟨λj t ah aw=>?_,λj t ah aw=>?_,λj k s t aC aw aR BM=>?_,λt aw=>?_,MW iu⟩
 ·obtain ⟨t0,hy,_,_,fO⟩:=fm j t aw;rcases fO with ⟨fO,_⟩ | fO
  ·rw [fO]; exact IW.aS j t0 ah hy
  ·omega
 ·have eZ:j<mf.length:=(List.getElem?_eq_some_iff.1 aw).1;obtain ⟨t0,hy,_,_,fO⟩:=fm j t aw;rcases fO with ⟨fO,mR⟩ | fO
  ·rcases mR with mR | mR
   ·omega
   ·have h1:=(IW.gF j t0 ah hy).1 mR;have af:=dL.le t0 (List.mem_of_getElem? hy);omega
  ·omega
 ·by_cases HM:57346<=s.bR
  ·exact rZ j k s t aC aw HM BM
  ·obtain ⟨e0,hy,_,_,fO⟩:=fm j s aC;obtain ⟨t0,f0,_,_,f3⟩:=fm k t aw;rcases fO with ⟨fO,_⟩ | fO
   ·rcases f3 with ⟨f3,_⟩ | f3
    ·exact IW.un j k e0 t0 hy f0 (by omega) (by omega)
    ·omega
   ·omega
 ·obtain ⟨j,ah,rfl⟩:=List.mem_iff_getElem.1 aw;obtain ⟨t0,hy,cz,cf,_⟩:=fm j _ (List.getElem?_eq_getElem ah);have:=dL.CC t0 (List.mem_of_getElem? hy);rw [cz,cf]; exact this
def vD (a b:ca):Bool:=decide (a.At<b.At)||(decide (a.At=b.At)&&decide (a.b9<b.b9))
theorem JL {a b:ca}:vD a b=true↔(a.At<b.At\/(a.At=b.At/\a.b9<b.b9)):=by simp [vD]
theorem JM {a b:ca}:vD a b=false↔¬ (a.At<b.At\/(a.At=b.At/\a.b9<b.b9)):=by
 rw [<- JL]; simp
theorem O':Ord vD where
 swo:=⟨λx=>by rw [JM]; omega,λx y z h1 af=>by rw [JL] at *; omega,λx y z h1 af=>by rw [JM] at *; omega⟩
 ji x y h1 af:=by
  rw [JM] at h1 af;obtain ⟨a8,x2⟩:=x;obtain ⟨bx,y2⟩:=y;simp only at h1 af;have:a8=bx:=by omega
  have:x2=y2:=by omega
  subst_vars; rfl
theorem RD {α:Type} [DecidableEq α] {lt:α->α->Bool}(h:Ord lt) {l:List α}(aF:l.Nodup):fR lt (h_ lt l):=by
 have h1:=E4 h.swo l;have af:(h_ lt l).Nodup:=(sX lt l).nodup_iff.2 aF;refine List.Pairwise.imp (λ{a b} BB=>?_) (h1.and af);cases bY:lt a b with
 | true=>rfl
 | false=>exact absurd (h.ji _ _ bY (by simpa using BB.1)) BB.2
def wq (T:List bX) (p:ca):Prop:=∃ (k:Nat) (t:bX),T[k]?=some t/\0<t.bR/\p=⟨t.bR,(k:Int)⟩
theorem wq.val {T:List bX}{p:ca}(h:wq T p):∃ (k:Nat) (t:bX),T[k]?=some t/\p.b9=(k:Int)/\p.At=t.bR/\0<t.bR:=by
 obtain ⟨k,t,h1,af,rfl⟩:=h;exact ⟨k,t,h1,rfl,rfl,af⟩
theorem R7 (a b:Int):∃ v,uA a b=some v/\(v<0↔a<b)/\(v=0↔a=b):=by
 have e:∀ a,vX a=some false:=λa=>by simp [vX]
 unfold uA;simp only [e,Option.bind_some,cond_false];by_cases h1:a<b
 ·exact ⟨-1,by simp [h1],by omega,by omega⟩
 ·by_cases af:b<a
  ·exact ⟨1,by simp [h1,af],by omega,by omega⟩
  ·exact ⟨0,by simp [h1,af],by omega,by omega⟩
theorem R2 (g:bO) (aO:uS g) (ak:g.ba.length<=1000):Tot (Ac g) λl=>fR vD l/\l.length<=1000/\∀ p,p∈l↔wq g.ba p:=by
 unfold Ac;refine .aB (Ξ:=λl:List ca=>(l.length<=1000/\∀ p,p∈l↔wq g.ba p)/\l.Pairwise λa b=>a.b9<b.b9) ?_ λl ak=>?_
 ·refine Tot.upto (λs=>s.2) g.ba.length (λk s=>(s.1.length<=k/\∀ p,p∈s.1↔(wq g.ba p/\p.b9<(k:Int)))/\s.1.Pairwise λa b=>a.b9<b.b9) rfl (by omega) ⟨⟨Nat.le_refl 0,λp=>⟨λh=>(by cases h),λh=>by obtain ⟨k,t,_,e,_⟩:=h.1.val; omega⟩⟩,.nil⟩ λk s hk he bf=>?_;obtain ⟨l,i⟩:=s;obtain ⟨⟨h1,af⟩,cH⟩:=bf;simp only at he h1 af cH ⊢;subst he;rw [eR k (by omega)];refine Tot.br (λaT=>?_) (λdU=>.aq ⟨⟨by omega,λp=>(af p).trans ⟨λh=>h.1,λh=>⟨h,?_⟩⟩⟩,cH⟩)
  ·have aT:k<g.ba.length:=by omega
   rw [eu aT];have oc:g.ba[k]?=some g.ba[k]:=List.getElem?_eq_getElem aT;refine .aB (Ξ:=λo:List ca=>(o.length<=k+1/\∀ p,p∈o↔(wq g.ba p/\p.b9<((k+1:Nat):Int)))/\o.Pairwise λa b=>a.b9<b.b9) ?_ λo a1=>.aq ⟨aT,rfl,a1⟩;simp only [Option.bind_some];refine .aB (Ξ:=λo:List ca=>(o.length<=k+1/\∀ p,p∈o↔(wq g.ba p/\p.b9<((k+1:Nat):Int)))/\o.Pairwise λa b=>a.b9<b.b9) ?_ λo a1=>.aq a1;refine Tot.br (λau=>.aB (Ξ:=λ_=>True) (Tot.ap (by simp [lim]; omega) trivial) λ_ _=>.aq ⟨⟨by simp; omega,λp=>?_⟩,?_⟩) (λau=>.aq ⟨⟨by omega,λp=>?_⟩,cH⟩)
   ·rw [List.mem_append,List.mem_singleton,af];constructor
    ·rintro (h | rfl)
     ·exact ⟨h.1,by omega⟩
     ·exact ⟨⟨k,_,oc,au,rfl⟩,by show (k:Int)<((k+1:Nat):Int); omega⟩
    ·rintro ⟨h,hv⟩;obtain ⟨j,t,aI,bK,rfl⟩:=h;simp only at hv;by_cases e:j=k
     ·subst e;rw [oc] at aI; cases aI;exact .inr rfl
     ·exact .inl ⟨⟨j,t,aI,bK,rfl⟩,by show (j:Int)<k; omega⟩
   ·refine List.pairwise_append.2 ⟨cH,List.pairwise_singleton ..,λa aP b av=>?_⟩;rw [List.mem_singleton.1 av];exact ((af a).1 aP).2
   ·rw [af];constructor
    ·rintro ⟨h,hv⟩;exact ⟨h,by omega⟩
    ·rintro ⟨h,hv⟩;obtain ⟨j,t,aI,bK,rfl⟩:=h;simp only at hv;refine ⟨⟨j,t,aI,bK,rfl⟩,?_⟩;show (j:Int)<k;by_cases e:j=k
     ·subst e;rw [oc] at aI; cases aI;exact absurd bK au
     ·omega
  ·obtain ⟨j,t,aI,_,rfl⟩:=h;have:=(List.getElem?_eq_some_iff.1 aI).1;show (j:Int)<k;omega
 ·obtain ⟨ak,IP⟩:=ak;have aC:pX (λa b=>C0 a b) l=some (h_ vD l):=by
   refine YI O' (λa aP b av=>?_) (by omega);obtain ⟨v,hv,h1,af⟩:=R7 a.At b.At;refine ⟨v,by unfold C0; rw [hv]; rfl,h1.trans ?_⟩;rw [JL];constructor
   ·exact .inl
   ·rintro (h | ⟨h,aQ⟩)
    ·exact h
    ·exfalso;obtain ⟨i,s,cz,cf,rfl⟩:=(ak.2 a).1 aP;obtain ⟨j,t,fO,mR,rfl⟩:=(ak.2 b).1 av;simp only at h aQ;have:=aO.un i j s t cz fO cf h;omega
  rw [aC];refine .aq ⟨RD O' (IP.imp λ{a b} h e=>by subst e; omega),by rw [(sX vD l).length_eq]; exact ak.1,λp=>((sX vD l).mem_iff).trans (ak.2 p)⟩
theorem Qs:Al=some true:=by kernel_rfl
end Go.Proofs
