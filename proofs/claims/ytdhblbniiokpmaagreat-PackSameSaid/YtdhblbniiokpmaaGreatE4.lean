/-
  Parts of the proof that the last text states. No condition of their own.
-/
import Derived.KernelRfl
import Derived.Test.YtdhblbniiokpmaaGreatE3
namespace Go.Proofs
open Go Go.Own
set_option maxRecDepth 100000
set_option linter.unusedVariables false
theorem Zs (m:fK) (x:Sym) (aO:m.ct.length=m.aG.ba.length) (aI:3<=m.aG.ba.length) (h:m.aG.ba.length<=100000000000) (aj:m.cb.length<=100000000000) (J:lZ x) (aw:x.Lit=true\/∀ y∈m.cb,y≠x.Name) :
  Tot (s6 m x) λr=>Grow m r.2 1/\0<=r.1/\r.1<r.2.aG.ba.length:=by
 unfold s6;have r2:Grow m m 1:=⟨aO,Nat.le_refl _,Nat.le_succ _,Nat.le_succ _,rfl,rfl,rfl,rfl,λ_ h=>h⟩;refine Tot.bE (λ_=>?_) (λoa=>?_)
 ·exact .aA (t136 m x aO h J) λr ⟨ao,aQ,h1⟩=>.aq ⟨ao,aQ,h1⟩
 ·have aw:∀ y∈m.cb,y≠x.Name:=aw.resolve_left (by rw [oa]; decide);refine .aA (t107 m x.Name (by simp only [dL]; omega)) λk hk=>Tot.bp (λaQ=>?_) (λ_=>?_)
  ·rcases hk with ⟨rfl,_⟩ | ⟨h1,af,aI⟩
   ·exact absurd aQ (by decide)
   ·exact absurd rfl (aw _ (List.mem_of_getElem? aI))
  ·refine .aA (t106 m x (by simp only [dL]; omega)) λt aw=>Tot.bp (λ_=>?_) (λaQ=>.aq ⟨r2,?_⟩)
   ·refine .aA (t105 m _ _) λm' hm=>.aq ⟨hm.1.grow aO 1,Int.le_refl 0,?_⟩;show (0:Int)<(m'.aG.ba.length:Int);rw [hm.1.g]; omega
   ·show 0<=t/\t<(m.aG.ba.length:Int);rcases aw with aw | aw <;> omega
structure A3 (T:Nat) (N:Int) (p:Prod):Prop where
 left:0<=p.Left/\p.Left<=N
 right:∀ s∈p.eI,qX T N s
 prec:-1<=p.Prec/\p.Prec<T
theorem A3.mono {T T':Nat}{N i_:Int}{p:Prod}(h:A3 T N p) (dM:T<=T') (bc:N<=i_):A3 T' i_ p :=
 ⟨⟨h.left.1,by have:=h.left.2; omega⟩,λs aB=>(h.right s aB).mono dM bc,⟨h.prec.1,by have:=h.prec.2; omega⟩⟩
structure k_ (m:fK) (T L I Q:Nat):Prop where
 gF:m.ct.length=m.aG.ba.length
 lo:3<=m.aG.ba.length
 hi:m.aG.ba.length<=T
 ty:m.cL.length<=T
 fw:m.cb.length=L
 hC:0<=m.b_/\m.b_<=I
 As:m.aG.bh.length<=Q
 hz:∀ p∈m.aG.bh,A3 m.aG.ba.length (L+m.b_) p
 lvl:0<=m.cr
 jz:∀ t∈m.aG.ba,0<=t.Level
theorem k_.mono {m:fK}{T L I Q T' I' Ly:Nat}(h:k_ m T L I Q) (dM:T<=T') (bf:I<=I') (dP:Q<=Ly):k_ m T' L I' Ly :=
 ⟨h.gF,h.lo,by have:=h.hi; omega,by have:=h.ty; omega,h.fw,⟨h.hC.1,by have:=h.hC.2; omega⟩,by have:=h.As; omega,h.hz,h.lvl,h.jz⟩
theorem k_.grow {m m':fK}{T L I Q k:Nat}(h:k_ m T L I Q) (g:Grow m m' k):k_ m' (T+k) L I Q :=
 ⟨g.gF,by have:=h.lo; have:=g.lo; omega,by have:=h.hi; have:=g.hi; omega,by have:=h.ty; have:=g.ty; omega,by rw [g.fw]; exact h.fw,by rw [g.hC]; exact h.hC,by rw [g.hz]; exact h.As,
  by rw [g.hz,g.hC]; exact λp au=>(h.hz p au).mono g.lo (by omega),by rw [g.lvl]; exact h.lvl,g.jz h.lvl h.jz⟩
theorem t108 (m:fK) (left:ByteArray) (a:Alt) {T L I Q:Nat}(hm:k_ m T L I Q) (dM:T<=10000000000) (h8:L<=10000000000) (bf:I<=10000000000) (dP:Q<=10000000000) (av:wv a) (db:DM a) :
  Tot (vQ m left a) λm'=>k_ m' (T+1001) L (I+1000) (Q+1001)/\1<=m'.aG.bh.length:=by
 unfold vQ;have aF:=av.n;refine .aA (t107 m left (by rw [hm.fw]; simp only [dL]; omega)) λa8 ir=>?_;have ade:-1<=a8/\a8<L:=by rw [<- hm.fw]; rcases ir with h | h <;> omega
 refine Tot.aA (Ξ:=λa7=>k_ a7.1 (T+1000) L (I+1000) (Q+1000)/\(∀ s∈a7.2.1,qX a7.1.aG.ba.length (L+a7.1.b_) s)/\a7.2.1.length<=1000) ?_ λa7 jX=>?_
 ·refine Tot.count (λs=>s.2.2.2.2) a.ho.length (λs=>0<=s.2.2.2.2/\s.2.2.2.2<=a.ho.length/\k_ s.1 (T+s.2.2.2.2.toNat) L (I+s.2.2.2.2.toNat) (Q+s.2.2.2.2.toNat)/\(∀ y∈s.2.1,qX s.1.aG.ba.length (L+s.1.b_) y)/\s.2.1.length<=s.2.2.2.2.toNat) ⟨by show (0:Int)<=0; omega,by show (0:Int)<=_; omega,hm,by simp,Nat.le_refl 0⟩ (by show (a.ho.length:Int) - 0<_; omega) λs aB=>?_;obtain ⟨m1,rt,bE,at_,i⟩:=s;obtain ⟨aQ,h1,ah,ao,aj⟩:=aB;simp only at aQ h1 ah ao aj ⊢;have hw:aJ (i+1)=i+1:=by rw [cA]; omega
  have cy:(i+1).toNat=i.toNat+1:=by omega
  refine Tot.bp (λaT=>?_) (λ_=>.aq ⟨ah.mono (by omega) (by omega) (by omega),ao,by show rt.length<=1000; omega⟩);refine Tot.aA (Ξ:=λj=>k_ j.1 (T+(i.toNat+1)) L (I+(i.toNat+1)) (Q+(i.toNat+1))/\(∀ y∈j.2.1,qX j.1.aG.ba.length (L+j.1.b_) y)/\j.2.1.length<=i.toNat+1) ?_ λj BP=>?_
  ·refine Tot.aA (Tot.hr (Φ:=λy=>y∈a.ho) aQ aT λy _ ax=>ax) λy ax=>?_;refine Tot.aA (Ξ:=λj=>k_ j.1 (T+(i.toNat+1)) L (I+(i.toNat+1)) (Q+(i.toNat+1))/\(∀ y∈j.2.1,qX j.1.aG.ba.length (L+j.1.b_) y)/\j.2.1.length<=i.toNat+1) ?_ λj ID=>.aq ID;refine Tot.aA (Ξ:=λj=>k_ j.1 (T+(i.toNat+1)) L (I+(i.toNat+1)) (Q+(i.toNat+1))/\(∀ y∈j.2.1,qX j.1.aG.ba.length (L+j.1.b_) y)/\j.2.1.length<=i.toNat+1) ?_ λj ID=>.aq ID;refine Tot.bE (λ_=>?_) (λ_=>?_)
   ·have bY:=ah.hi;refine .aA (t138 m1 y.Sym ah.gF ah.lo (by omega) (by rw [ah.fw]; omega) (db.parts y ax)) λr ⟨aO,Oj⟩=>?_;refine .aA (Ξ:=λ_=>True) (Tot.ap (by simp [lim]; omega) trivial) λ_ _=>.aq ⟨(ah.grow aO).mono (by omega) (by omega) (by omega),λz aX=>?_,by simp; omega⟩;rcases List.mem_append.1 aX with aX | aX
    ·exact (ao z aX).mono aO.lo (by show (L:Int)+m1.b_<=L+r.2.b_; rw [aO.hC]; omega)
    ·rw [List.mem_singleton.1 aX];rw [ah.fw] at Oj;exact Oj.mono (Nat.le_refl _) (by show (L:Int)<=L+r.2.b_; rw [aO.hC]; have:=ah.hC.1; omega)
   ·refine Tot.aA (Ξ:=λj=>k_ (⟨(⟨m1.aG.ba,m1.aG.b0,j.1,m1.aG.cx,m1.aG.cF⟩:bN),m1.ct,m1.cL,m1.cb,m1.cZ,m1.dn,m1.dk,m1.cr,j.2.1⟩:dt) (T+(i.toNat+1)) L (I+(i.toNat+1)) (Q+(i.toNat+1))/\(∀ y∈j.2.2.1,qX m1.aG.ba.length (L+j.2.1) y)/\j.2.2.1.length<=i.toNat+1) ?_ λj VN=>.aq VN;refine Tot.bE (λ_=>.aq ⟨⟨ah.gF,ah.lo,by have:=ah.hi; show m1.aG.ba.length<=_; omega,by have:=ah.ty; show m1.cL.length<=_; omega,ah.fw,⟨ah.hC.1,by have:=ah.hC.2; show m1.b_<=_; omega⟩,by have:=ah.As; show m1.aG.bh.length<=_; omega,ah.hz,ah.lvl,ah.jz⟩,ao,by show rt.length<=_; omega⟩) (λ_=>?_);have vm:=ah.hC;have vo:=ah.fw;have uf:=ah.As;have ic:aJ (m1.b_+1)=m1.b_+1:=by rw [cA]; omega
    have hA:aJ (((m1.cb.length:Int))+(m1.b_+1))=L+(m1.b_+1):=by rw [cA,vo]; omega
    have AI:aJ (1000+(m1.cb.length:Int))=1000+L:=by rw [cA,vo]; omega
    have AJ:aJ (1000+(L:Int)+(m1.b_+1))=1000+(L:Int)+(m1.b_+1):=by rw [cA]; omega
    rw [ic,hA,AI,AJ];refine .aA (Ξ:=λ_=>True) (Tot.ap (by simp [lim]; omega) trivial) λ_ _=>.aA (Ξ:=λ_=>True) (Tot.ap (by simp [lim]; omega) trivial) λ_ _=>.aA (Ξ:=λ_=>True) (Tot.ap (by simp [lim]; omega) trivial) λ_ _=>.aq ⟨⟨ah.gF,ah.lo,?_,?_,ah.fw,?_,?_,?_,ah.lvl,ah.jz⟩,?_,?_⟩
    ·have:=ah.hi; show m1.aG.ba.length<=_; omega
    ·have:=ah.ty; show m1.cL.length<=_; omega
    ·show 0<=m1.b_+1/\m1.b_+1<=((I+(i.toNat+1):Nat):Int); omega
    ·show (m1.aG.bh++[_]).length<=_; simp; omega
    ·intro p au;rcases List.mem_append.1 au with au | au
     ·exact (ah.hz p au).mono (Nat.le_refl _) (by show (L:Int)+m1.b_<=L+(m1.b_+1); omega)
     ·rw [List.mem_singleton.1 au];refine ⟨?_,by simp,?_⟩
      ·show 0<=(L:Int)+(m1.b_+1)/\(L:Int)+(m1.b_+1)<=L+(m1.b_+1); omega
      ·have:=ah.lo; show (-1:Int)<=-1/\(-1:Int)<(m1.aG.ba.length:Int); omega
    ·intro z aX;rcases List.mem_append.1 aX with aX | aX
     ·exact (ao z aX).mono (Nat.le_refl _) (by show (L:Int)+m1.b_<=L+(m1.b_+1); omega)
     ·rw [List.mem_singleton.1 aX];exact .inr (by show 1000<=1000+(L:Int)+(m1.b_+1)/\1000+(L:Int)+(m1.b_+1)<=1000+((L:Int)+(m1.b_+1)); omega)
    ·show (rt++[_]).length<=_; simp; omega
  ·rw [hw];refine .aq ⟨⟨?_,?_,?_,BP.2.1,?_⟩,?_,?_⟩
   ·show (0:Int)<=i+1; omega
   ·show i+1<=(a.ho.length:Int); omega
   ·show k_ j.1 (T+(i+1).toNat) L (I+(i+1).toNat) (Q+(i+1).toNat);rw [cy]; exact BP.1
   ·show j.2.1.length<=(i+1).toNat;rw [cy]; exact BP.2.2
   ·show i<i+1; omega
   ·show i+1<=(a.ho.length:Int); omega
 ·obtain ⟨ah,ao,aj⟩:=jX;have ky:=ah.lo;have vm:=ah.hC;refine Tot.aA (Ξ:=λp=>-1<=p/\p<(a7.1.aG.ba.length:Int)) ?_ λhz EP=>?_
  ·refine Tot.count (λs=>s.2) a7.2.1.length (λs=>0<=s.2/\s.2<=a7.2.1.length/\-1<=s.1/\s.1<(a7.1.aG.ba.length:Int)) ⟨by show (0:Int)<=0; omega,by show (0:Int)<=_; omega,by show (-1:Int)<=-1; omega,by show (-1:Int)<_; omega⟩ (by show (a7.2.1.length:Int) - 0<_; omega) λs aB=>?_;obtain ⟨aQ,h1,af,aI⟩:=aB;have hw:aJ (s.2+1)=s.2+1:=by rw [cA]; omega
   rw [hw];refine Tot.bp (λaT=>?_) (λ_=>.aq ⟨af,aI⟩);refine Tot.aA (Ξ:=λp=>-1<=p/\p<(a7.1.aG.ba.length:Int)) ?_ λp au=>.aq ⟨⟨?_,?_,au.1,au.2⟩,?_,?_⟩
   ·refine .aA (Tot.hr (Φ:=λy=>idx a7.2.1 s.2=some y/\y∈a7.2.1) aQ aT λy h1 af=>⟨h1,af⟩) λy ax=>?_;refine .aA (Ξ:=λp=>-1<=p/\p<(a7.1.aG.ba.length:Int)) ?_ λp au=>.aq au;refine Tot.bp (λaT=>?_) (λ_=>.aq ⟨af,aI⟩);rw [ax.1];refine Tot.aV (.aq ?_);rcases ao y ax.2 with h | h
    ·omega
    ·omega
   ·show (0:Int)<=s.2+1; omega
   ·show s.2+1<=(a7.2.1.length:Int); omega
   ·show s.2<s.2+1; omega
   ·show s.2+1<=(a7.2.1.length:Int); omega
  ·refine Tot.aA (Ξ:=λj=>Grow a7.1 j.1 1/\-1<=j.2/\j.2<(j.1.aG.ba.length:Int)) ?_ λj EF=>?_
   ·have r2:Grow a7.1 a7.1 1:=⟨ah.gF,Nat.le_refl _,Nat.le_succ _,Nat.le_succ _,rfl,rfl,rfl,rfl,λ_ h=>h⟩;refine Tot.bE (λ_=>?_) (λ_=>.aq ⟨r2,EP⟩);refine Tot.aA (Ξ:=λc=>c=true->a.Prec.Lit=true\/∀ y∈a7.1.cb,y≠a.Prec.Name) ?_ λc aa=>?_
    ·refine Tot.bE (λh=>.aq λ_=>.inl h) (λ_=>?_);refine .aA (t107 a7.1 a.Prec.Name (by rw [ah.fw]; simp only [dL]; omega)) λk hk=>.aq λaT=>?_;have aT:=of_decide_eq_true aT;rcases hk with ⟨_,h⟩ | h
     ·exact .inr h
     ·omega
    ·refine Tot.aA (Ξ:=λj=>Grow a7.1 j.1 1/\-1<=j.2/\j.2<(j.1.aG.ba.length:Int)) ?_ λj ah=>.aq ah;have bY:=ah.hi;refine Tot.bE (λh=>?_) (λ_=>?_)
     ·refine .aA (Zs a7.1 a.Prec ah.gF ah.lo (by omega) (by rw [ah.fw]; omega) db.prec (aa h)) λr ao=>.aq ⟨ao.1,?_,ao.2.2⟩;have:=ao.2.1; show -1<=r.1; omega
     ·refine .aA (t105 a7.1 _ _) λm' im=>.aq ⟨im.1.grow ah.gF 1,by show (-1:Int)<=-1; omega,?_⟩;show (-1:Int)<(m'.aG.ba.length:Int); omega
   ·have im:=ah.grow EF.1;have uf:=im.As;refine .aA (Ξ:=λ_=>True) (Tot.ap (by simp [lim]; omega) trivial) λ_ _=>.aA (Ξ:=λ_=>True) (Tot.ap (by simp [lim]; omega) trivial) λ_ _=>.aq ⟨⟨im.gF,im.lo,?_,?_,im.fw,⟨im.hC.1,?_⟩,?_,?_,im.lvl,im.jz⟩,by simp⟩
    ·have:=im.hi; show j.1.aG.ba.length<=_; omega
    ·have:=im.ty; show j.1.cL.length<=_; omega
    ·have:=im.hC.2; show j.1.b_<=_; omega
    ·show (j.1.aG.bh++[_]).length<=_; simp; omega
    ·intro p au;rcases List.mem_append.1 au with au | au
     ·exact im.hz p au
     ·rw [List.mem_singleton.1 au];have acP:=im.hC;refine ⟨?_,λz aX=>?_,EF.2⟩
      ·show 0<=aJ (1+a8)/\aJ (1+a8)<=(L:Int)+j.1.b_;rw [cA]; omega
      ·exact (ao z aX).mono EF.1.lo (by show (L:Int)+a7.1.b_<=L+j.1.b_; rw [EF.1.hC]; omega)
theorem KO (l:List Int):(strOfNums l).size=l.length:=strOfNums_size ..
theorem t110 (n:Int) (aQ:0<=n) (h1:n<=1000000000000):Tot (CN n) λs=>s.size<=2000000000000:=by
 unfold CN;have hu:IntKind.u64.wrap n=n:=by rw [IntKind.wrap_u64]; omega
 refine Tot.aA (Ξ:=λj=>j=n) (Tot.bp (λh=>absurd h (by omega)) (λ_=>.aq hu)) λj ah=>?_;subst ah;refine Tot.aA (Ξ:=λs=>s.size<=1000000000001) ?_ λs aB=>Tot.bp (λh=>absurd h (by omega)) (λ_=>.aq (by omega));refine Tot.loop (λs=>0<=s.1/\s.1+s.2.size<=1000000000000+1/\(s.2.size=0->s.1<=1000000000000)) (λs=>s.1.toNat+(if s.2.size=0 then 1 else 0)) ⟨aQ,by show j+((0:Nat):Int)<=_; omega,λ_=>h1⟩ (by show j.toNat+(if (0:Nat)=0 then 1 else 0)<1000000000000000000; simp; omega) λs aB=>?_
 obtain ⟨m,t⟩:=s;obtain ⟨g0,g1,g2⟩:=aB;simp only at g0 g1 g2 ⊢;refine Tot.aA (Ξ:=λc=>c=true->0<m\/t.size=0) ?_ λc aa=>Tot.bE (λil=>?_) (λ_=>.aq ?_)
 ·refine Tot.bp (λh=>.aq λ_=>.inl h) (λ_=>.aq λh=>.inr ?_);have:=of_decide_eq_true h;rw [this]; rfl
 ·have aa:=aa il;refine .aA (Ξ:=λx=>x=m.tmod 10) (Tot.ru (by decide) rfl) λx J=>?_;refine .aA (Ξ:=λy=>y.size=t.size+1) (Tot.cat ?_ ?_) λy ax=>.aA (Ξ:=λz=>z=m / 10) (Tot.rp (by decide) ?_) λz aX=>.aq ?_
  ·rw [KO]; simp; omega
  ·rw [ByteArray.size_append,KO]; simp; omega
  ·rw [Int.tdiv_eq_ediv_of_nonneg g0,IntKind.wrap_u64]; omega
  ·subst aX;refine ⟨⟨?_,?_,?_⟩,?_⟩
   ·show 0<=m / 10; omega
   ·show m / 10+(y.size:Int)<=_; rw [ax]; omega
   ·intro h; have h:y.size=0:=h; omega
   ·show (m / 10).toNat+(if y.size=0 then 1 else 0)<m.toNat+(if t.size=0 then 1 else 0);rw [if_neg (by omega)]
    split <;> omega
 ·show t.size<=1000000000001; omega
structure gB (g:bN):Prop where
 kH:3<=g.ba.length/\g.ba.length<=40
 dy:1<=g.b0.length/\g.b0.length<=24
 h0:1<=g.bh.length/\g.bh.length<=60
 hz:∀ p∈g.bh,A3 g.ba.length (g.b0.length - 1) p
 aH:∀ p∈g.bh,p.eI.length<=8
 jz:∀ t∈g.ba,0<=t.Level
structure iJ (m:fK) (T L:Nat):Prop where
 gF:m.ct.length=m.aG.ba.length
 lo:3<=m.aG.ba.length
 hi:m.aG.ba.length<=3+T
 ty:m.cL.length<=T
 fw:m.cb.length<=L
 hz:m.aG.bh=[]
 hC:m.b_=0
 lvl:0<=m.cr
 jz:∀ t∈m.aG.ba,0<=t.Level
theorem iJ.mono {m:fK}{T L T' L':Nat}(h:iJ m T L) (dM:T<=T') (h8:L<=L'):iJ m T' L' :=
 ⟨h.gF,h.lo,by have:=h.hi; omega,by have:=h.ty; omega,by have:=h.fw; omega,h.hz,h.hC,h.lvl,h.jz⟩
theorem iJ.grow {m m':fK}{T L k:Nat}(h:iJ m T L) (g:Grow m m' k):iJ m' (T+k) L :=
 ⟨g.gF,by have:=h.lo; have:=g.lo; omega,by have:=h.hi; have:=g.hi; omega,by have:=h.ty; have:=g.ty; omega,by rw [g.fw]; exact h.fw,g.hz.trans h.hz,g.hC.trans h.hC,by rw [g.lvl]; exact h.lvl,g.jz h.lvl h.jz⟩
theorem iJ.same {m m':fK}{T L:Nat}(h:iJ m T L) (g:rJ m m'):iJ m' T L:=by
 have:=h.grow (g.grow h.gF 0);exact this
theorem Ti (s:ByteArray) (m n:Int) (h:0<=m/\m<=n/\n<=s.size):(rP s m n).size<=(n - m).toNat:=by
 grind [rP,ByteArray.size_extract]
theorem t22 (s:ByteArray) (n:Int) (aQ:0<=n):Tot (s9 s n) λt=>(t.size:Int)<=n:=by
 unfold s9;refine Tot.bp (λh=>?_) (λh=>.aq (by omega))
 grind [Tot.cut,Ti]
theorem t23 (x:Sym):Tot (x1 x) λy=>y.Name.size<=dL:=by
 unfold x1;refine .aA (t22 _ 25 (by decide)) λt aw=>.aq ?_
 grind
theorem Tot.make {β:Type}{f:List β × Int->Option ((List β × Int) ⊕ List β)}(n:Int) (P:β->Prop) (aF:0<=n/\n<=1000000)
  (aB:∀ (l:List β) (i:Int),0<=i->i<=n->(l.length:Int)=i->(∀ y∈l,P y)->Tot (f (l,i)) (hn (λcT=>i<n/\cT.2=i+1/\∃ y,cT.1=l++[y]/\P y) (λr=>r=l))) :
  Tot (b2 f ([],0)) λl=>(l.length:Int)<=n/\∀ y∈l,P y:=by
 refine Tot.count (λs=>s.2) n (λs=>0<=s.2/\s.2<=n/\(s.1.length:Int)=s.2/\∀ y∈s.1,P y) ⟨Int.le_refl 0,aF.1,rfl,by simp⟩ (by show n - 0<_; omega) λs bf=>?_;obtain ⟨l,i⟩:=s;obtain ⟨aQ,h1,af,aI⟩:=bf;refine (aB l i aQ h1 af aI).use λx J=>?_
 grind
theorem t9 (s:Source):Tot (Ap s) rK:=by
 unfold Ap;refine .aA (t22 s.cx 40 (by decide)) λa8 h1=>.aA (t22 s.cF 40 (by decide)) λx2 af=>?_;refine .aA (Tot.make 8 GI (by decide) λl i aQ vm aj cn=>?_) λbs bF=>?_
 ·refine .aA (Ξ:=λc=>c=true->i<s.Decls.length/\i<8) (Tot.bp (λh=>.aq λaf=>⟨h,of_decide_eq_true af⟩) (λ_=>.aq λh=>by cases h)) λc aa=>Tot.bE (λil=>?_) (λ_=>.aq rfl);obtain ⟨hi,IB⟩:=aa il;have mX:i.toNat<s.Decls.length:=by omega
  have t_:idx s.Decls i=some s.Decls[i.toNat]:=by simp [idx,aQ,mX]
  rw [t_];generalize s.Decls[i.toNat]=d;have hw:aJ (i+1)=i+1:=by rw [cA]; omega
  refine Tot.aV (Tot.aV (.aA (t22 d.Tag 25 (by decide)) λcq zk=>Tot.aV ?_));refine .aA (Tot.make 6 (λx=>x.Name.size<=dL) (by decide) λvF k g0 TY Er TW=>?_) λeu sE=>?_
  ·refine .aA (Ξ:=λc=>c=true->k<d.eJ.length/\k<6) (Tot.aV (Tot.bp (λh=>.aq λaf=>⟨h,of_decide_eq_true af⟩) (λ_=>.aq λh=>by cases h))) λc aa=>Tot.bE (λil=>?_) (λ_=>.aq rfl);obtain ⟨hk,IF⟩:=aa il;refine Tot.aV (.aA (Tot.hr (Φ:=λ_=>True) g0 hk λ_ _ _=>trivial) λev _=>.aA (t23 ev) λfZ T2=>.aA (Ξ:=λ_=>True) (Tot.ap (by simp [lim]; omega) trivial) λ_ _=>.aq ⟨IF,?_,_,rfl,T2⟩)
   grind [cA]
  ·refine .aA (Ξ:=λ_=>True) (Tot.ap (by simp [lim]; omega) trivial) λ_ _=>.aq ⟨IB,hw,_,rfl,⟨?_,?_,sE.2⟩⟩
   ·grind
   grind
 ·refine .aA (Tot.make 6 Lz (by decide) λl i aQ vm aj cn=>?_) λgA rU=>.aq ⟨?_,?_,bF.2,?_,rU.2⟩
  ·refine .aA (Ξ:=λc=>c=true->i<s.dG.length/\i<6) (Tot.bp (λh=>.aq λaf=>⟨h,of_decide_eq_true af⟩) (λ_=>.aq λh=>by cases h)) λc aa=>Tot.bE (λil=>?_) (λ_=>.aq rfl);obtain ⟨hi,IB⟩:=aa il;have mX:i.toNat<s.dG.length:=by omega
   have t_:idx s.dG i=some s.dG[i.toNat]:=by simp [idx,aQ,mX]
   rw [t_];generalize s.dG[i.toNat]=d;have hw:aJ (i+1)=i+1:=by rw [cA]; omega
   refine Tot.aV (.aA (t22 d.Left 25 (by decide)) λcP HT=>Tot.aV ?_);refine .aA (Tot.make 5 wv (by decide) λvF k g0 TY Er TW=>?_) λeg T5=>?_
   ·refine .aA (Ξ:=λc=>c=true->k<d.eF.length/\k<5) (Tot.aV (Tot.bp (λh=>.aq λaf=>⟨h,of_decide_eq_true af⟩) (λ_=>.aq λh=>by cases h))) λc aa=>Tot.bE (λil=>?_) (λ_=>.aq rfl);obtain ⟨hk,IF⟩:=aa il;have VU:k.toNat<d.eF.length:=by omega
    have VR:idx d.eF k=some d.eF[k.toNat]:=by simp [idx,g0,VU]
    simp only [Option.bind_some,VR];generalize d.eF[k.toNat]=a;have qs:aJ (k+1)=k+1:=by rw [cA]; omega
    refine .aA (t23 a.Prec) λfM T7=>?_;refine .aA (Tot.make 6 (λp=>p.Sym.Name.size<=dL/\p.Code.size<=dL) (by decide) λgn j hd ab6 el ab5=>?_) λnW T9=>?_
    ·refine .aA (Ξ:=λc=>c=true->j<a.ho.length/\j<6) (Tot.bp (λh=>.aq λaf=>⟨h,of_decide_eq_true af⟩) (λ_=>.aq λh=>by cases h)) λc aa=>Tot.bE (λil=>?_) (λ_=>.aq rfl);obtain ⟨ah,BP⟩:=aa il;refine .aA (Tot.hr (Φ:=λ_=>True) hd ah λ_ _ _=>trivial) λnX _=>.aA (t23 nX.Sym) λp3 HU=>.aA (t22 nX.Code 60 (by decide)) λnY M8=>.aA (Ξ:=λ_=>True) (Tot.ap (by simp [lim]; omega) trivial) λ_ _=>.aq ⟨BP,?_,_,rfl,HU,?_⟩
     ·grind [cA]
     grind
    ·refine .aA (Ξ:=λ_=>True) (Tot.ap (by simp [lim]; omega) trivial) λ_ _=>.aq ⟨IF,qs,_,rfl,⟨?_,T9.2,T7⟩⟩
     grind
   ·refine .aA (Ξ:=λ_=>True) (Tot.ap (by simp [lim]; omega) trivial) λ_ _=>.aq ⟨IB,hw,_,rfl,⟨?_,?_,T5.2⟩⟩
    ·grind
    grind
  all_goals grind
theorem t24 (a n:Int) (h:0<n) (aF:n<=9223372036854775807):Tot (vV a n) λr=>0<=r/\r<n:=by
 unfold vV;have h1:-n<a.tmod n:=by
  by_cases aP:0<=a
  ·have:=Int.tmod_nonneg n aP;omega
  ·have af:(-a).tmod n<n:=Int.tmod_lt_of_pos _ h;rw [Int.neg_tmod] at af;omega
 have af:a.tmod n<n:=Int.tmod_lt_of_pos a h;refine .aA (Ξ:=λx=>x=a.tmod n) (Tot.rem (by omega) rfl) λx J=>?_;subst J;refine Tot.aA (Ξ:=λr=>0<=r/\r<n) (Tot.bp (λaI=>.aq ?_) (λaI=>.aq (by omega))) λr ao=>.aq ao
 grind [cA]
theorem t28 (k:Int) (h:0<=k):Tot (vW k) λx=>x.Name.size=1/\x.Lit=true/\x.bP=0:=by
 unfold vW;refine .aA (Ξ:=λx=>x.size=4) (.aq rfl) λa8 h1=>.aA (Ξ:=λr=>r=k.tmod 4) (Tot.rem (by decide) rfl) λx2 af=>.aA (Ξ:=λr=>r=k.tmod 4) (Tot.rem (by decide) rfl) λa7 aI=>?_;subst af aI;have e:k.tmod 4=k % 4:=Int.tmod_eq_emod_of_nonneg h;rw [e];have hw:aJ (k % 4+1)=k % 4+1:=by rw [cA]; omega
 rw [hw];refine .aA (Ξ:=λx=>x.size=1) (Tot.cut (by rw [h1]; omega) ?_) λbs bF=>.aq ⟨bF,rfl,rfl⟩
 grind [Tj]
theorem t26 (k:Int):Tot (Ae k) λx=>x.size=1:=by
 unfold Ae;exact .aq (by rw [KO]; rfl)
theorem t27 (k n:Int) (h:0<n) (aF:n<=100):Tot (CV k n) λx=>x.Name.size<=5:=by
 unfold CV;refine .aA (t24 k 14 (by decide) (by decide)) λa8 h1=>Tot.bp (λcG=>?_) (λcG=>Tot.bE (λ_=>.aq ?_) (λ_=>?_))
 ·refine .aA (Ξ:=λ_=>True) (Tot.rem (by omega) trivial) λa7 _=>.aA (t26 a7) λbs bF=>.aq ?_
  grind
 ·show (5:Nat)<=5;omega
 ·refine .aA (t28 _ ?_) λx J=>.aq (by omega)
  grind [cA]
structure AS (n:Nat) (d:Decl):Prop where
 tag:d.Tag.size=0
 n:d.eJ.length<=n
 syms:∀ x∈d.eJ,x.Name.size<=dL
theorem t25 (l:List Int):Tot (Ad l) λr=>r.length<=4/\∀ d∈r,AS 10 d:=by
 unfold Ad;refine Tot.aA (Ξ:=λr=>r.length<=4/\∀ d∈r,AS 10 d) ?_ λr ao=>.aq ao;refine Tot.count (λs=>s.2) 4 (λs=>0<=s.2/\s.2<=4/\s.1.length<=s.2.toNat/\∀ d∈s.1,AS (1+s.2.toNat) d) ⟨Int.le_refl 0,by decide,Nat.le_refl 0,λd aS=>absurd aS (by simp)⟩ (by decide) λs aB=>?_;obtain ⟨r,i⟩:=s;obtain ⟨aQ,bF,aj,aS⟩:=aB;simp only at aQ bF aj aS ⊢;have hw:aJ (i+1)=i+1:=by rw [cA]; omega
 rw [hw];refine .aA (Ξ:=λc=>c=true->i<l.length/\i<4) (Tot.bp (λh=>.aq λaf=>⟨h,of_decide_eq_true af⟩) (λ_=>.aq λh=>by cases h)) λc aa=>Tot.bE (λil=>?_) (λ_=>.aq ⟨by omega,λd jW=>⟨(aS d jW).tag,by have:=(aS d jW).n; omega,(aS d jW).syms⟩⟩);obtain ⟨hi,acL⟩:=aa il;refine Tot.aA (Ξ:=λj=>j.length<=i.toNat+1/\∀ d∈j,AS (1+(i.toNat+1)) d) ?_ λj ah=>.aq ⟨⟨?_,?_,?_,?_⟩,?_,?_⟩
 ·refine .aA (Tot.hr (Φ:=λ_=>True) aQ hi λ_ _ _=>trivial) λb6 _=>.aA (t24 b6 8 (by decide) (by decide)) λcv w5=>.aA (Ξ:=λ_=>True) (Tot.rem (by decide) trivial) λbJ _=>?_;have n_:∀ d∈r,AS (1+(i.toNat+1)) d:=λd jW=>⟨(aS d jW).tag,by have:=(aS d jW).n; omega,(aS d jW).syms⟩;refine Tot.bE (λ_=>.aq ⟨by omega,n_⟩) (λ_=>?_);refine .aA (Ξ:=λc=>c=true->0<(r.length:Int)) (Tot.bE (λ_=>.aq λh=>of_decide_eq_true h) (λ_=>.aq λh=>by cases h)) λc aa=>Tot.bE (λtX=>?_) (λ_=>?_)
  ·have sO:=aa tX;have WI:aJ ((r.length:Int) - 1)=(r.length:Int) - 1:=by rw [cA]; omega
   rw [WI];refine .aA (Tot.hr (Φ:=λy=>y∈r) (by omega) (by omega) λ_ _ h=>h) λd jW=>.aA (t28 i aQ) λx J=>.aA (Ξ:=λ_=>True) (Tot.ap (by have:=(aS d jW).n; simp [lim]; omega) trivial) λ_ _=>.aq ⟨by simp; omega,λMx zq=>?_⟩;rcases O1 zq with h | rfl
   ·grind
   ·refine ⟨(aS d jW).tag,?_,λy ax=>?_⟩
    ·have:=(aS d jW).n
     grind
    ·rcases List.mem_append.1 ax with ax | ax
     ·exact (aS d jW).syms y ax
     grind
  ·refine .aA (Ξ:=λ_=>True) (Tot.rem (by decide) trivial) λdK _=>.aA (t28 i aQ) λx J=>.aA (Ξ:=λ_=>True) (Tot.ap (by simp [lim]; omega) trivial) λ_ _=>.aq ⟨by simp; omega,λMx zq=>?_⟩;rcases List.mem_append.1 zq with h | h
   ·grind
   ·rw [List.mem_singleton.1 h];refine ⟨rfl,by show 1<=_; omega,λy ax=>?_⟩
    grind
 all_goals grind
structure mi (n:Nat) (r:e9):Prop where
 left:r.Left.size<=dL
 n:r.eF.length<=n
 alts:∀ a∈r.eF,wv a
theorem mi.mono {n m:Nat}{r:e9}(h:mi n r) (hm:n<=m):mi m r:=⟨h.left,Nat.le_trans h.n hm,h.alts⟩
theorem mi.add {n:Nat}{r:e9}{a:Alt}(h:mi n r) (aP:wv a):mi (n+1) (⟨r.Left,r.eF++[a],r.At⟩:e9):=by
 refine ⟨h.left,by have:=h.n; show (r.eF++[a]).length<=_; simp; omega,λb av=>?_⟩;rcases List.mem_append.1 av with av | av
 ·exact h.alts b av
 grind
theorem LO {l:List e9}{i n:Nat}{r:e9}(h:∀ x∈l,mi n x) (ao:mi n r):∀ x∈l.set i r,mi n x:=by grind
theorem t10 (x:th):Tot (xV x) rK:=by
 unfold xV;refine .aA (t24 x.b0 4 (by decide) (by decide)) λa8 h1=>.aA (t25 x.tn) λx2 af=>?_;have WD:aJ (1+a8)=1+a8:=by rw [cA]; omega
 rw [WD];refine .aA (Ξ:=λl=>l=List.replicate (1+a8).toNat false) (Tot.mk (by simp [lim]; omega) rfl) λa7 aI=>?_;have ab_:a7.length=(1+a8).toNat:=by rw [aI]; simp
 refine Tot.aA (Ξ:=λl=>(l.length:Int)=1+a8/\∀ r∈l,mi 0 r) ?_ λbS cG=>?_
 ·refine Tot.count (λs=>s.2) (1+a8) (λs=>0<=s.2/\s.2<=1+a8/\(s.1.length:Int)=s.2/\∀ r∈s.1,mi 0 r) ⟨Int.le_refl 0,by show 0<=1+a8; omega,rfl,λd aS=>absurd aS (by simp)⟩ (by show 1+a8 - 0<_; omega) λs aB=>?_;obtain ⟨l,i⟩:=s;obtain ⟨g0,g1,aj,cn⟩:=aB;simp only at g0 g1 aj cn ⊢;have hw:aJ (i+1)=i+1:=by rw [cA]; omega
  rw [hw];refine Tot.bp (λaT=>?_) (λ_=>.aq ⟨by omega,cn⟩);refine .aA (t26 i) λb6 rV=>.aA (Ξ:=λ_=>True) (Tot.ap (by simp [lim]; omega) trivial) λ_ _=>.aq ⟨⟨?_,?_,?_,λr ao=>?_⟩,?_,?_⟩
  ·grind
  ·grind
  ·grind
  ·rcases List.mem_append.1 ao with ao | ao
   ·grind
   ·rw [List.mem_singleton.1 ao];exact ⟨by show b6.size<=_; rw [rV]; decide,Nat.le_refl 0,λa aP=>absurd aP (by simp)⟩
  ·grind
  grind
 refine Tot.aA (Ξ:=λr=>(r.1.length:Int)=1+a8/\(r.2.length:Int)=1+a8/\∀ y∈r.1,mi 9 y) ?_ λcq zk=>?_
 ·refine Tot.count (λs=>s.2.2) 9 (λs=>0<=s.2.2/\s.2.2<=9/\(s.1.length:Int)=1+a8/\(s.2.1.length:Int)=1+a8/\∀ y∈s.1,mi s.2.2.toNat y) ⟨Int.le_refl 0,by show (0:Int)<=9; decide,cG.1,by show (a7.length:Int)=_; omega,cG.2⟩ (by show (9:Int) - 0<_; decide) λs aB=>?_;obtain ⟨l,av,i⟩:=s;obtain ⟨g0,g1,aj,Iz,cn⟩:=aB;simp only at g0 g1 aj Iz cn ⊢;have hw:aJ (i+1)=i+1:=by rw [cA]; omega
  rw [hw];refine .aA (Ξ:=λc=>c=true->i<x.dG.length/\i<9) (Tot.bp (λh=>.aq λaf=>⟨h,of_decide_eq_true af⟩) (λ_=>.aq λh=>by cases h)) λc aa=>Tot.bE (λil=>?_) (λ_=>.aq ⟨aj,Iz,λy ax=>(cn y ax).mono (by omega)⟩);obtain ⟨hi,acM⟩:=aa il;have mX:i.toNat<x.dG.length:=by omega
  have t_:idx x.dG i=some x.dG[i.toNat]:=by simp [idx,g0,mX]
  rw [t_];generalize x.dG[i.toNat]=d;have Np:∀ y∈l,mi (i.toNat+1) y:=λy ax=>(cn y ax).mono (by omega);refine Tot.aA (Ξ:=λj=>(j.1.length:Int)=1+a8/\(j.2.length:Int)=1+a8/\∀ y∈j.1,mi (i.toNat+1) y) ?_ λj ah=>.aq ⟨⟨?_,?_,ah.1,ah.2.1,?_⟩,?_,?_⟩
  ·refine Tot.aV (Tot.bp (λ_=>.aq ⟨aj,Iz,Np⟩) (λdq=>Tot.aV ?_));refine .aA (Tot.hr (Φ:=λ_=>True) (by decide) (by omega) λ_ _ _=>trivial) λdN _=>.aA (t24 dN (1+a8) (by omega) (by omega)) λev M7=>?_;have n5:∀ c:ByteArray,c.size<=dL->((⟨(⟨⟨#[]⟩,false,0,0⟩:Sym),c,0⟩:Part).Sym.Name.size<=dL/\(⟨(⟨⟨#[]⟩,false,0,0⟩:Sym),c,0⟩:Part).Code.size<=dL):=λc aa=>⟨by show 0<=_; exact Nat.zero_le _,aa⟩;refine Tot.aA (Ξ:=λr=>r.1.length<=10/\∀ p∈r.1,p.Sym.Name.size<=dL/\p.Code.size<=dL) ?_ λfj T3=>?_
   ·refine Tot.count (λs=>s.2.2) 5 (λs=>1<=s.2.2/\s.2.2<=5/\(s.1.length:Int)<=2 * (s.2.2 - 1)/\∀ p∈s.1,p.Sym.Name.size<=dL/\p.Code.size<=dL) ⟨Int.le_refl 1,by decide,by decide,λp au=>absurd au (by simp)⟩ (by decide) λs aB=>?_;obtain ⟨ps,pl,k⟩:=s;obtain ⟨k0,xH,Xr,OP⟩:=aB;simp only at k0 xH Xr OP ⊢;have qs:aJ (k+1)=k+1:=by rw [cA]; omega
    rw [qs];refine .aA (Ξ:=λc=>c=true->k<d.length/\k<5) (Tot.aV (Tot.bp (λh=>.aq λaf=>⟨h,of_decide_eq_true af⟩) (λ_=>.aq λh=>by cases h))) λc aa=>Tot.bE (λil=>?_) (λ_=>.aq ⟨by show ps.length<=10; omega,OP⟩);obtain ⟨hk,acS⟩:=aa il;refine Tot.aA (Ξ:=λj=>(j.1.length:Int)<=2 * k/\∀ p∈j.1,p.Sym.Name.size<=dL/\p.Code.size<=dL) ?_ λj ah=>.aq ⟨⟨?_,?_,?_,ah.2⟩,?_,?_⟩
    ·refine Tot.aV (.aA (Tot.hr (Φ:=λ_=>True) (by omega) hk λ_ _ _=>trivial) λkl _=>.aA (t27 kl (1+a8) (by omega) (by omega)) λcP HT=>?_);refine .aA (Ξ:=λ_=>True) (Tot.bE (λ_=>Tot.bE (λ_=>.aq trivial) (λ_=>.aq trivial)) (λ_=>.aq trivial)) λ_ _=>.aA (Ξ:=λ_=>True) (Tot.ap (by simp [lim]; omega) trivial) λ_ _=>?_;have bg:∀ p∈ps++[(⟨cP,⟨#[]⟩,0⟩:Part)],p.Sym.Name.size<=dL/\p.Code.size<=dL:=λp au=>by
      grind
     refine .aA (Ξ:=λ_=>True) ?_ λzb _=>?_
     ·refine Tot.bp (λh=>Tot.bE (λ_=>.aA (Tot.hr (Φ:=λ_=>True) g0 h λ_ _ _=>trivial) λ_ _=>.aA (Ξ:=λ_=>True) (Tot.rem (by decide) trivial) λ_ _=>.aq trivial) (λ_=>.aq trivial)) (λ_=>.aq trivial)
     ·refine Tot.aA (Ξ:=λl=>(l.length:Int)<=2 * k/\∀ p∈l,p.Sym.Name.size<=dL/\p.Code.size<=dL) ?_ λj ah=>.aq ah;refine Tot.bE (λ_=>?_) (λ_=>.aq ⟨by simp; omega,bg⟩);refine .aA (Ξ:=λ_=>True) (Tot.ap (by simp [lim]; omega) trivial) λ_ _=>.aq ⟨by simp; omega,λp au=>?_⟩;rcases List.mem_append.1 au with au | au
      ·grind
      ·rw [List.mem_singleton.1 au];exact n5 _ (by decide)
    all_goals grind
   ·refine .aA (Ξ:=λ_=>True) (Tot.bp (λh=>.aA (Tot.hr (Φ:=λ_=>True) g0 h λ_ _ _=>trivial) λ_ _=>.aA (Ξ:=λ_=>True) (Tot.rem (by decide) trivial) λ_ _=>.aq trivial) (λ_=>.aq trivial)) λaaa _=>?_;refine Tot.aA (Ξ:=λl=>l.length<=20/\∀ p∈l,p.Sym.Name.size<=dL/\p.Code.size<=dL) ?_ λoU T_=>?_
    ·refine Tot.bE (λ_=>?_) (λ_=>.aq ⟨by omega,T3.2⟩);refine .aA (Ξ:=λ_=>True) (Tot.ap (by simp [lim]; omega) trivial) λ_ _=>.aq ⟨by simp; omega,λp au=>?_⟩;rcases List.mem_append.1 au with au | au
     ·grind
     ·rw [List.mem_singleton.1 au];exact n5 _ (by decide)
    ·refine Tot.aA (Ξ:=λl=>(l.length:Int)=1+a8) ?_ λMj Ub=>?_
     ·refine .aA (Tot.hr (Φ:=λ_=>True) M7.1 (by omega) λ_ _ _=>trivial) λ_ _=>Tot.bE (λ_=>.aq (by simp; omega)) (λ_=>.aq (by simp; omega))
     ·refine .aA (Tot.hr (Φ:=λy=>y∈l) M7.1 (by omega) λ_ _ h=>h) λkI Uc=>?_;have pI:=cn kI Uc;refine .aA (Ξ:=λ_=>True) (Tot.ap (by have:=pI.n; simp [lim]; omega) trivial) λ_ _=>.aq ⟨by show ((l.set _ _).length:Int)=_; simp; omega,Ub,LO Np (pI.add ⟨by show oU.length<=_; omega,T_.2,Nat.zero_le _⟩)⟩
  all_goals grind
 refine Tot.aA (Ξ:=λl=>(l.length:Int)=1+a8/\∀ y∈l,mi 20 y) ?_ λnY M8=>.aq ⟨Nat.zero_le _,?_,λd aS=>?_,?_,λr ao=>?_⟩
 ·refine Tot.count (λs=>s.2) (1+a8) (λs=>0<=s.2/\s.2<=1+a8/\(s.1.length:Int)=1+a8/\∀ y∈s.1,mi (9+s.2.toNat) y) ⟨Int.le_refl 0,by show 0<=1+a8; omega,zk.1,zk.2.2⟩ (by show 1+a8 - 0<_; omega) λs aB=>?_;obtain ⟨l,i⟩:=s;obtain ⟨g0,g1,aj,cn⟩:=aB;simp only at g0 g1 aj cn ⊢;have hw:aJ (i+1)=i+1:=by rw [cA]; omega
  rw [hw];refine Tot.bp (λaT=>?_) (λ_=>.aq ⟨aj,λy ax=>(cn y ax).mono (by omega)⟩);refine Tot.aA (Ξ:=λl=>(l.length:Int)=1+a8/\∀ y∈l,mi (9+i.toNat+1) y) ?_ λj ah=>.aq ⟨⟨?_,?_,ah.1,?_⟩,?_,?_⟩
  ·refine .aA (Ξ:=λ_=>True) ?_ λaab _=>?_
   ·refine .aA (Tot.hr (Φ:=λ_=>True) g0 (by omega) λ_ _ _=>trivial) λwq _=>Tot.bE (λ_=>.aq trivial) (λ_=>.aA (Tot.hr (Φ:=λ_=>True) g0 (by omega) λ_ _ _=>trivial) λ_ _=>Tot.bE (λ_=>.aq trivial) (λ_=>.aq trivial))
   ·refine Tot.aA (Ξ:=λl=>(l.length:Int)=1+a8/\∀ y∈l,mi (9+i.toNat+1) y) ?_ λj ah=>.aq ah;refine Tot.bE (λ_=>?_) (λ_=>.aq ⟨aj,λy ax=>(cn y ax).mono (by omega)⟩);refine .aA (Tot.hr (Φ:=λy=>y∈l) g0 (by omega) λ_ _ h=>h) λkJ Es=>.aA (t28 i g0) λkK acj=>?_;have J:=cn kJ Es;refine .aA (Ξ:=λ_=>True) (Tot.ap (by have:=J.n; simp [lim]; omega) trivial) λ_ _=>.aq ⟨by simp; omega,LO (λy ax=>(cn y ax).mono (by omega)) (J.add ⟨by show 1<=_; omega,λp au=>?_,Nat.zero_le _⟩)⟩;have au:p∈[(⟨kK,⟨#[]⟩,0⟩:Part)]:=au;rw [List.mem_singleton.1 au];exact ⟨by show kK.Name.size<=1000000000000; omega,Nat.zero_le _⟩
  all_goals grind
 ·grind
 ·have:=af.2 d aS;exact ⟨by rw [this.tag]; exact Nat.zero_le _,by have:=this.n; omega,this.syms⟩
 ·grind
 ·have:=M8.2 r ao;exact ⟨this.left,by have:=this.n; omega,this.alts⟩
end Go.Proofs
namespace Go.Own
open Go Go.Sort
variable {α:Type} [DecidableEq α]
structure Ord (lt:α->α->Bool):Prop where
 swo:SWO lt
 jj:∀ x y,lt x y=false->lt y x=false->x=y
def fR (lt:α->α->Bool) (l:List α):Prop:=l.Pairwise λa b=>lt a b=true
omit [DecidableEq α] in
theorem fR.nd {lt:α->α->Bool}(h:Ord lt) {l:List α}(aj:fR lt l):l.Nodup:=aj.imp λ{a b} BD e=>by
 subst e;rw [h.swo.irrefl] at BD; cases BD
omit [DecidableEq α] in
theorem fR.uniq {lt:α->α->Bool}(h:Ord lt) {l m:List α}(aj:fR lt l) (hm:fR lt m) (he:∀ x,x∈l↔x∈m):l=m :=
 List.Perm.eq_of_pairwise (le:=λa b=>lt a b=true) (λa b _ _ h1 af=>by have:=h.swo.trans _ _ _ h1 af; rw [h.swo.irrefl] at this; cases this) aj hm ((List.perm_ext_iff_of_nodup (aj.nd h) (hm.nd h)).2 he)
omit [DecidableEq α] in
theorem zR {l m:List α}(aS:l.Nodup) (hm:∀ x∈l,x∈m):l.length<=m.length:=by
 classical
 induction l generalizing m with
 | nil=>exact Nat.zero_le _
 | cons x l aU =>
  have J:=hm x (by simp);have n_:=List.nodup_cons.1 aS;have:=aU (m:=m.erase x) n_.2 λy ax=>(List.mem_erase_of_ne (λe=>n_.1 (by rw [<- e]; exact ax))).2 (hm y (by simp [ax]));have aj:=List.length_erase_of_mem J;have au:=List.length_pos_of_mem J;simp only [List.length_cons];omega
theorem Ze {lt:α->α->Bool}(h:Ord lt) {fT:α->α->Option Int}{l:List α}(aa:∀ a∈l,∀ b∈l,∃ v,fT a b=some v/\(v<0↔lt a b=true)) (aF:l.length<4611686018427387904):pW fT l=some (ia (kD fT) l)/\∀ a∈l,∀ b∈l,kD fT a b=lt a b:=by
 have aT:∀ a∈l,∀ b∈l,kD fT a b=lt a b:=by
  intro a aP b av;obtain ⟨v,hv,h⟩:=aa a aP b av;unfold kD;simp only [hv,Option.getD_some];cases hk:lt a b with
  | true=>exact decide_eq_true (h.2 hk)
  | false=>exact decide_eq_false λbY=>by rw [h.1 bY] at hk; cases hk
 refine ⟨?_,aT⟩;unfold pW;rw [if_pos];simp only [Bool.and_eq_true,decide_eq_true_eq,List.all_eq_true];refine ⟨⟨λa aP b av=>?_,?_⟩,aF⟩
 ·obtain ⟨v,hv,_⟩:=aa a aP b av;rw [hv]; rfl
 ·unfold zY;simp only [List.all_eq_true,Bool.and_eq_true,Bool.or_eq_true,Bool.not_eq_true',decide_eq_true_eq];intro a aP;refine ⟨by rw [aT a aP a aP]; exact h.swo.irrefl a,λb av=>⟨?_,λc aa=>⟨?_,?_⟩⟩⟩
  ·rw [aT a aP b av,aT b av a aP];cases h1:lt a b with
   | true=>exact .inl (.inl rfl)
   | false =>
    cases af:lt b a with
    | true=>exact .inl (.inr rfl)
    | false=>exact .inr (h.jj _ _ h1 af)
  ·rw [aT a aP b av,aT b av c aa,aT a aP c aa];cases h1:lt a b with
   | false=>exact .inl rfl
   | true =>
    cases af:lt b c with
    | false=>exact .inl rfl
    | true=>exact .inr (h.swo.trans _ _ _ h1 af)
  ·rw [aT a aP b av,aT b av c aa,aT a aP c aa];cases h1:lt a b with
   | true=>exact .inl (.inl rfl)
   | false =>
    cases af:lt b c with
    | true=>exact .inl (.inr rfl)
    | false=>exact .inr (h.swo.ntrans _ _ _ h1 af)
omit [DecidableEq α] in
theorem Cj {lt lt':α->α->Bool}(x:α):∀ l:List α,(∀ y∈l,lt y x=lt' y x)->ins lt x l=ins lt' x l
 | [],_=>rfl
 | y::l,h=>by
  simp only [ins,h y (by simp)];rw [Cj x l λz aX=>h z (by simp [aX])]
omit [DecidableEq α] in
theorem Cl {lt lt':α->α->Bool}:∀ l:List α,(∀ a∈l,∀ b∈l,lt a b=lt' a b)->ia lt l=ia lt' l
 | [],_=>rfl
 | x::l,h=>by
  simp only [ia];rw [Cl l λa aP b av=>h a (by simp [aP]) b (by simp [av])];exact Cj x _ λy ax=>h y (by simp [(sV lt' l).mem_iff.1 ax]) x (by simp)
theorem Zd {lt:α->α->Bool}(h:Ord lt) {fT:α->α->Option Int}{l:List α}(aa:∀ a∈l,∀ b∈l,∃ v,fT a b=some v/\(v<0↔lt a b=true)) (aF:l.length<4611686018427387904):pW fT l=some (ia lt l):=by
 obtain ⟨h1,af⟩:=Ze h aa aF;rw [h1,Cl l af]
end Go.Own
namespace Go.Proofs
open Go Go.Own Go.Sort
set_option maxRecDepth 100000
set_option linter.unusedVariables false
def g_ (a b:Item):Bool:=decide (a.Prod<b.Prod\/(a.Prod=b.Prod/\a.e'<b.e'))
theorem JT {a b:Item}:g_ a b=true↔(a.Prod<b.Prod\/(a.Prod=b.Prod/\a.e'<b.e')):=by simp [g_]
theorem Cz {a b:Item}:g_ a b=false↔¬ (a.Prod<b.Prod\/(a.Prod=b.Prod/\a.e'<b.e')):=by simp [g_]
theorem vM:Ord g_ where
 swo:=⟨λx=>by rw [Cz]; omega,λx y z h1 af=>by rw [JT] at *; omega,λx y z h1 af=>by rw [Cz] at *; omega⟩
 jj x y h1 af:=by
  rw [Cz] at h1 af;obtain ⟨a8,x2⟩:=x;obtain ⟨bw,y2⟩:=y;simp only at h1 af;have:a8=bw:=by omega
  have:x2=y2:=by omega
  subst_vars; rfl
def jf (g:bN) (x:Item):Prop:=∃ q,idx g.bh x.Prod=some q/\0<=x.e'/\x.e'<=q.eI.length
def hT (g:bN) (x:Item):Int:=match idx g.bh x.Prod with
 | some q=>(idx q.eI x.e').getD (-1)
 | none=>-1
theorem nb {α:Type}{l:List α}{i:Int}{y:α}(h:idx l i=some y):0<=i/\i<l.length/\y∈l:=by
 unfold idx at h
 split at h
 ·rename_i aQ;obtain ⟨h1,af⟩:=List.getElem?_eq_some_iff.1 h;exact ⟨aQ,by omega,List.mem_of_getElem? h⟩
 ·cases h
theorem Jw {α:Type}{l:List α}{i:Int}(h:i<0\/(l.length:Int)<=i):idx l i=none:=by
 unfold idx;split
 ·exact List.getElem?_eq_none (by omega)
 ·rfl
theorem oh {α:Type}{l:List α}{i:Int}(aQ:0<=i) (h1:i<l.length):∃ y,idx l i=some y/\y∈l:=by
 have aT:i.toNat<l.length:=by omega
 exact ⟨l[i.toNat],by simp [idx,aQ,aT],List.getElem_mem aT⟩
theorem dX {α:Type}{l:List α}{k:Nat}(h:k<l.length):idx l (k:Int)=some l[k]:=by simp [idx,h]
theorem Mz (g:bN) (x:Item):∃ c,z6 g x=some c/\(c=true↔jf g x):=by
 unfold z6;by_cases aQ:0<=x.Prod
 ·by_cases h1:x.Prod<g.bh.length
  ·obtain ⟨q,bg,_⟩:=oh aQ h1;by_cases af:0<=x.e'
   ·refine ⟨decide (x.e'<=(q.eI.length:Int)),by simp [aQ,h1,af,bg],?_⟩;rw [decide_eq_true_eq];exact ⟨λh=>⟨q,bg,af,h⟩,λ⟨fQ,zy,_,h⟩=>by rw [bg] at zy; cases zy; exact h⟩
   ·exact ⟨false,by simp [aQ,h1,af],λh=>(by cases h),λ⟨_,_,h,_⟩=>absurd h af⟩
  ·exact ⟨false,by simp [aQ,h1],λh=>(by cases h),λ⟨_,h,_⟩=>absurd (nb h).2.1 h1⟩
 ·exact ⟨false,by simp [aQ],λh=>(by cases h),λ⟨_,h,_⟩=>absurd (nb h).1 aQ⟩
theorem Hx (g:bN) (x:Item):yb g x=some (hT g x):=by
 unfold yb hT;obtain ⟨c,aa,hi⟩:=Mz g x;rw [aa];simp only [Option.bind_some];cases c with
 | false =>
  have aF:¬ jf g x:=λh=>by have:=hi.2 h; cases this
  simp only [Bool.not_false,cond_true,Option.bind_some];cases bg:idx g.bh x.Prod with
  | none=>rfl
  | some q =>
   have:idx q.eI x.e'=none:=Jw (by
    by_cases aQ:0<=x.e'
    ·right;by_cases h1:x.e'<=q.eI.length
     ·exact absurd ⟨q,bg,aQ,h1⟩ aF
     ·omega
    ·left; omega)
   simp [this]
 | true =>
  obtain ⟨q,bg,aQ,h1⟩:=hi.1 rfl;simp only [Bool.not_true,cond_false,bg,Option.bind_some];by_cases he:x.e'=q.eI.length
  ·rw [Jw (.inr (by omega))];simp [he]
  ·obtain ⟨s,aB,_⟩:=oh (l:=q.eI) (i:=x.e') aQ (by omega);simp [he,aB]
theorem Pd {g:bN}(aO:gB g) {x:Item}(h:0<=hT g x):jf g x/\qX g.ba.length (g.b0.length - 1) (hT g x)/\∃ q,idx g.bh x.Prod=some q/\idx q.eI x.e'=some (hT g x):=by
 cases bg:idx g.bh x.Prod with
 | none =>
  have:hT g x=-1:=by unfold hT; rw [bg]
  rw [this] at h; exact absurd h (by decide)
 | some q =>
  cases aB:idx q.eI x.e' with
  | none =>
   have:hT g x=-1:=by unfold hT; rw [bg]; simp [aB]
   rw [this] at h; exact absurd h (by decide)
  | some s =>
   have e:hT g x=s:=by unfold hT; rw [bg]; simp [aB]
   rw [e];obtain ⟨aQ,h1,hm⟩:=nb aB;exact ⟨⟨q,bg,aQ,by omega⟩,(aO.hz q (nb bg).2.2).right s hm,q,rfl,aB⟩
inductive n0 (g:bN) (l:List Item):Item->Prop
 | base {x:Item}(h:x∈l) (hi:jf g x):n0 g l x
 | step {x:Item}{q:Prod}{p:Nat}(h:n0 g l x) (au:g.bh[p]?=some q) (aF:hT g x=1000+q.Left) (aQ:1000<=hT g x):n0 g l ⟨p,0⟩
theorem OL {g:bN}{p:Nat}{q:Prod}(au:g.bh[p]?=some q):jf g ⟨p,0⟩:=⟨q,by simp [idx,au],Int.le_refl _,by show (0:Int)<=_; omega⟩
theorem n0.jf {g:bN}{l:List Item}{x:Item}(h:n0 g l x):jf g x:=by
 cases h with
 | base _ hi=>exact hi
 | step _ au _ _=>exact OL au
theorem XI {g:bN}(aO:gB g) (x:Item):-1<=hT g x/\hT g x<=1023:=by
 by_cases h:0<=hT g x
 ·obtain ⟨_,aB,_⟩:=Pd aO h;have:=aO.dy;have:=aO.kH;rcases aB with aB | aB <;> omega
 ·refine ⟨?_,by omega⟩;revert h;unfold hT;cases bg:idx g.bh x.Prod with
  | none=>intro _; exact Int.le_refl _
  | some q =>
   cases aB:idx q.eI x.e' with
   | none=>intro _; simp [aB]
   | some s =>
    intro h;have hm:=(aO.hz q (nb bg).2.2).right s (nb aB).2.2;simp only [aB,Option.getD_some] at h ⊢;rcases hm with hm | hm <;> omega
def ht (m:List Bool):Nat:=(m.filter λb=>b).length
theorem wW:∀ (m:List Bool) (i:Nat),i<m.length->m.getD i false=false->ht (m.set i true)=ht m+1
 | [],i,h,_=>by simp at h
 | b::m,0,_,h=>by
  have:b=false:=by simpa using h
  subst this;simp [ht]
 | b::m,i+1,h,aQ=>by
  have:=wW m i (by simpa using h) (by simpa using aQ);unfold ht at this ⊢;simp only [List.set_cons_succ,List.filter_cons];cases b <;> simp [this]
theorem SN (m:List Bool):ht m<=m.length:=List.length_filter_le _ _
theorem lz {α:Type}{r:List α}{k:Nat}(h:k<r.length):r.take (k+1)=r.take k++[r[k]]:=by
 simp_all
theorem Gg (k:Nat) (h:k<=1000000000000):aJ ((k:Int)+1)=((k+1:Nat):Int):=by
 grind [cA]
def allI (g:bN):List Item:=(List.range g.bh.length).flatMap λp=>(List.range 9).map λd=>(⟨(p:Nat),(d:Nat)⟩:Item)
theorem RJ (g:bN):(allI g).length=g.bh.length * 9:=by
 have:∀ l:List Nat,(l.map λ_=>9).sum=l.length * 9:=λl=>by
  induction l with
  | nil=>rfl
  | cons a l aU=>simp only [List.map_cons,List.sum_cons,aU,List.length_cons]; omega
 simp [allI,List.length_flatMap,this]
theorem Xw {g:bN}(aO:gB g) {x:Item}(h:jf g x):x∈allI g:=by
 obtain ⟨q,bg,aQ,h1⟩:=h;obtain ⟨af,aI,bF⟩:=nb bg;have:=aO.aH q bF;refine List.mem_flatMap.2 ⟨x.Prod.toNat,by simp; omega,List.mem_map.2 ⟨x.e'.toNat,by simp; omega,?_⟩⟩;obtain ⟨a,b⟩:=x;simp only at aQ af ⊢;congr 1 <;> omega
theorem tA {g:bN}(aO:gB g) {l:List Item}(aj:fR g_ l) (hi:∀ x∈l,jf g x):l.length<=540:=by
 have:=zR (aj.nd vM) λx J=>Xw aO (hi x J);rw [RJ] at this;have:=aO.h0;omega
theorem RW {l:List Item}(aj:fR g_ l) {i j:Nat}(hi:i<l.length) (ah:j<l.length) (h:i<j):g_ l[i] l[j]=true:=List.pairwise_iff_getElem.1 aj i j hi ah h
theorem G' (l:List Item) (x:Item) (aj:fR g_ l) (aF:l.length<=100000):Tot (xX l x) λr=>fR g_ r/\(∀ y,y∈r↔y∈l\/y=x):=by
 unfold xX;refine .aA (Ξ:=λz:Int=>∃ k:Nat,z=(k:Int)/\k<=l.length/\(∀ (i:Nat) (h:i<l.length),k<=i->g_ x l[i]=true)/\∀ (h:0<k),g_ x (l[k - 1]?.getD default)=false) ?_ λz aX=>?_
 ·refine Tot.count (λs=>-s) 1 (λs=>∃ k:Nat,s=(k:Int)/\k<=l.length/\∀ (i:Nat) (h:i<l.length),k<=i->g_ x l[i]=true) ⟨l.length,rfl,Nat.le_refl _,λi h hk=>by omega⟩ (by show 1 - -(l.length:Int)<_; omega) λs aB=>?_;obtain ⟨k,rfl,hk,uh⟩:=aB;refine .aA (Ξ:=λc:Bool=>(c=true->0<k/\g_ x (l[k - 1]?.getD default)=true)/\(c=false->∀ (h:0<k),g_ x (l[k - 1]?.getD default)=false)) ?_ λc aa=>Tot.bE (λh=>?_) (λh=>.aq ⟨k,rfl,hk,uh,aa.2 h⟩)
  ·refine Tot.bp (λh=>?_) (λh=>.aq ⟨λaR=>(by cases aR),λ_ aR=>by omega⟩);have hh:k - 1<l.length:=by omega
   have hw:aJ ((k:Int) - 1)=((k - 1:Nat):Int):=by rw [cA]; omega
   rw [hw,dX hh,List.getElem?_eq_getElem hh];simp only [Option.bind_some,Option.getD_some];generalize l[k - 1]=y;refine Tot.bp (λh1=>.aq ⟨λ_=>⟨by omega,JT.2 (.inl h1)⟩,λaR=>(by cases aR)⟩) (λh1=>Tot.bp (λaf=>.aq ⟨λaI=>⟨by omega,JT.2 (.inr ⟨af.symm,of_decide_eq_true aI⟩)⟩,λaI _=>?_⟩) (λaf=>.aq ⟨λaR=>(by cases aR),λ_ _=>?_⟩))
   ·have:=of_decide_eq_false aI;rw [Cz]; omega
   ·rw [Cz]; omega
  ·obtain ⟨aQ,h1⟩:=aa.1 h;refine .aq ⟨⟨k - 1,by rw [cA]; omega,by omega,λi hi VS=>?_⟩,by show -(k:Int) < -aJ _; rw [cA]; omega,by show -aJ _<=1; rw [cA]; omega⟩;by_cases e:i=k - 1
   ·subst e;rw [List.getElem?_eq_getElem hi] at h1;exact h1
   ·exact uh i hi (by omega)
 ·obtain ⟨k,rfl,hk,uh,ky⟩:=aX;refine .aA (Ξ:=λc:Bool=>(c=true↔(0<k/\l[k - 1]?.getD default=x))) ?_ λc aa=>Tot.bE (λh=>?_) (λh=>?_)
  ·refine Tot.bp (λh=>?_) (λh=>.aq ⟨λaR=>(by cases aR),λaR=>by omega⟩);have hh:k - 1<l.length:=by omega
   have hw:aJ ((k:Int) - 1)=((k - 1:Nat):Int):=by rw [cA]; omega
   rw [hw,dX hh,List.getElem?_eq_getElem hh];simp only [Option.bind_some,Option.getD_some];generalize l[k - 1]=y;refine .aq ?_;obtain ⟨bw,y2⟩:=y;obtain ⟨a8,x2⟩:=x;simp only [Bool.and_true,Bool.and_eq_true,decide_eq_true_eq,Item.mk.injEq];exact ⟨λaR=>⟨by omega,aR⟩,λaR=>aR.2⟩
  ·obtain ⟨aQ,h1⟩:=aa.1 h;have hh:k - 1<l.length:=by omega
   rw [List.getElem?_eq_getElem hh] at h1;have J:x∈l:=by rw [<- h1]; exact List.getElem_mem hh
   exact .aq ⟨aj,λy=>⟨.inl,λh=>h.elim id λe=>e ▸ J⟩⟩
  ·have dq:∀ (i:Nat) (hi:i<l.length),i<k->g_ l[i] x=true:=by
    intro i hi IC;have hh:k - 1<l.length:=by omega
    have ky:=ky (by omega);have aF:l[k - 1]?.getD default≠x:=λe=>by rw [aa.2 ⟨by omega,e⟩] at h; cases h
    rw [List.getElem?_eq_getElem hh] at ky aF;simp only [Option.getD_some] at ky aF;have fW:g_ l[k - 1] x=true:=by
     cases bY:g_ l[k - 1] x with
     | true=>rfl
     | false=>exact absurd (vM.jj _ _ bY ky) aF
    by_cases e:i=k - 1
    ·subst e; exact fW
    ·exact vM.swo.trans _ _ _ (RW aj hi hh (by omega)) fW
   refine .aA (Ξ:=λz=>z=l.take k) (Tot.sub ⟨by omega,by omega,by omega⟩ (by simp)) λz aX=>?_;subst aX;refine .aA (Ξ:=λ_=>True) (Tot.ap (by simp [lim]; omega) trivial) λ_ _=>.aA (Ξ:=λ_=>True) (Tot.ap (by simp [lim]; omega) trivial) λ_ _=>?_;refine .aA (Ξ:=λz=>z=l.drop k) (Tot.sub ⟨by omega,by omega,by omega⟩ ?_) λz aX=>?_
   ·rw [List.take_of_length_le]
    ·congr 1
    ·rw [List.length_drop]; omega
   subst aX;refine .aA (Ξ:=λ_=>True) (Tot.ap (by simp [lim]; omega) trivial) λ_ _=>.aq ?_;rw [List.nil_append];constructor
   ·have h1:∀ a∈l.take k,g_ a x=true:=by
     intro a aP;obtain ⟨i,hi,rfl⟩:=List.mem_iff_getElem.1 aP;rw [List.length_take] at hi;rw [List.getElem_take];exact dq i (by omega) (by omega)
    have af:∀ a∈l.drop k,g_ x a=true:=by
     intro a aP;obtain ⟨i,hi,rfl⟩:=List.mem_iff_getElem.1 aP;rw [List.length_drop] at hi;rw [List.getElem_drop];exact uh (k+i) (by omega) (by omega)
    unfold fR;rw [List.append_assoc,List.pairwise_append];refine ⟨List.Pairwise.sublist (List.take_sublist k l) aj,?_,λa aP b av=>?_⟩
    ·rw [List.singleton_append,List.pairwise_cons];exact ⟨af,List.Pairwise.sublist (List.drop_sublist k l) aj⟩
    ·rcases List.mem_append.1 av with av | av
     ·rw [List.mem_singleton.1 av]; exact h1 a aP
     ·exact vM.swo.trans _ _ _ (h1 a aP) (af b av)
   ·intro y;rw [List.append_assoc,List.mem_append,List.mem_append,List.mem_singleton];have hm:y∈l↔y∈l.take k\/y∈l.drop k:=by
     rw [<- List.mem_append,List.take_append_drop]
    rw [hm];constructor
    ·rintro (h | h | h)
     ·exact .inl (.inl h)
     ·exact .inr h
     ·exact .inl (.inr h)
    ·rintro ((h | h) | h)
     ·exact .inl h
     ·exact .inr (.inr h)
     ·exact .inr (.inl h)
theorem Sf (g:bN) (aO:gB g) (l:List Item) (aj:l.length<=1000000):Tot (CO g l) λr=>fR g_ r/\∀ x,x∈r↔x∈l/\jf g x:=by
 unfold CO;refine .aA (Ξ:=λr=>fR g_ r/\∀ x,x∈r↔x∈l/\jf g x) ?_ λr ao=>.aq ao;refine Tot.count (λs=>s.2) l.length (λs=>∃ k:Nat,k<=l.length/\s.2=(k:Int)/\fR g_ s.1/\∀ x,x∈s.1↔x∈l.take k/\jf g x) ⟨0,Nat.zero_le _,rfl,List.Pairwise.nil,λx=>by simp⟩ (by show (l.length:Int) - 0<_; omega) λs aB=>?_;obtain ⟨out,k1⟩:=s;obtain ⟨k,hk,rfl,aP,hm⟩:=aB;simp only at aP hm ⊢;rw [Gg k (by omega)];refine Tot.bp (λaT=>?_) (λdV=>.aq ?_)
 ·have aT:k<l.length:=by omega
  rw [dX aT];refine .aA (Ξ:=λo:List Item=>fR g_ o/\∀ x,x∈o↔x∈l.take (k+1)/\jf g x) ?_ λo a1=>.aq ⟨⟨k+1,by omega,rfl,a1⟩,by show (k:Int)<((k+1:Nat):Int); omega,by show ((k+1:Nat):Int)<=_; omega⟩;obtain ⟨c,aa,hi⟩:=Mz g l[k];rw [lz aT];refine Tot.aV ?_;rw [aa];refine Tot.aV (.aA (Ξ:=λo:List Item=>fR g_ o/\∀ x,x∈o↔x∈l.take k++[l[k]]/\jf g x) (Tot.bE (λh=>?_) (λh=>.aq ⟨aP,λx=>?_⟩)) λo a1=>.aq a1)
  ·have xk:=tA aO aP λx J=>((hm x).1 J).2;refine Tot.aV (.aA (G' out _ aP (by omega)) λo a1=>.aq ⟨a1.1,λx=>?_⟩);rw [a1.2 x,List.mem_append,List.mem_singleton,hm x];constructor
   ·rintro (⟨h1,af⟩ | rfl)
    ·exact ⟨.inl h1,af⟩
    ·exact ⟨.inr rfl,hi.1 h⟩
   ·rintro ⟨h1 | rfl,af⟩
    ·exact .inl ⟨h1,af⟩
    ·exact .inr rfl
  ·rw [List.mem_append,List.mem_singleton,hm x];constructor
   ·rintro ⟨h1,af⟩;exact ⟨.inl h1,af⟩
   ·rintro ⟨h1 | rfl,af⟩
    ·exact ⟨h1,af⟩
    ·rw [hi.2 af] at h; cases h
 ·have:k=l.length:=by omega
  subst this;rw [List.take_length] at hm;exact ⟨aP,hm⟩
def wz (g:bN) (out:List Item) (x:Item):Prop:=1000<=hT g x->∀ (p:Nat) (q:Prod),g.bh[p]?=some q->q.Left=hT g x - 1000->(⟨p,0⟩:Item)∈out
theorem Hk (g:bN) (aO:gB g) (l:List Item) (aj:l.length<=1000000):Tot (x_ g l) λr=>fR g_ r/\∀ x,x∈r↔n0 g l x:=by
 have uf:=aO.h0;unfold x_;refine .aA (Sf g aO l aj) λa8 h1=>.aA (Ξ:=λr=>fR g_ r/\∀ x,x∈r↔n0 g l x) ?_ λr ao=>.aq ao;obtain ⟨UY,zx⟩:=h1;refine Tot.loop (λs=>fR g_ s.1/\(∀ x∈s.1,n0 g l x)/\(∀ x∈l,jf g x->x∈s.1)/\(s.2=(s.1.length:Int)->∀ x∈s.1,wz g s.1 x)) (λs=>2 * (1000 - s.1.length)+(if s.2=(s.1.length:Int) then 0 else 1)) ⟨UY,λx J=>.base ((zx x).1 J).1 ((zx x).1 J).2,λx J hi=>(zx x).2 ⟨J,hi⟩,λh=>by have h:(-1:Int)=_:=h; omega⟩ (by
  show 2 * (1000 - a8.length)+(if (-1:Int)=_ then 0 else 1)<1000000000000000000
  split <;> omega) λs aB=>?_
 obtain ⟨out,n⟩:=s;obtain ⟨aP,gH,vf,gX⟩:=aB;simp only at aP gH vf gX ⊢;have xk:=tA aO aP λx J=>(gH x J).jf;refine Tot.pj (λdq=>?_) (λhe=>.aq ⟨aP,λx=>⟨gH x,λJ=>?_⟩⟩)
 ·refine .aA (Ξ:=λj:List Item × Int=>j.2=(out.length:Int)/\fR g_ j.1/\(∀ x∈j.1,n0 g l x)/\(∀ x∈out,x∈j.1)/\(j.1.length=out.length->∀ x∈j.1,wz g j.1 x)) ?_ λj ah=>?_
  ·refine .aA (Ξ:=λr:List Item=>fR g_ r/\(∀ x∈r,n0 g l x)/\(∀ x∈out,x∈r)/\(r.length=out.length->∀ x∈r,wz g r x)) ?_ λr ao=>.aq ⟨rfl,ao⟩;refine .aA (Ξ:=λr:List Item=>fR g_ r/\(∀ x∈r,n0 g l x)/\(∀ x∈out,x∈r)/\(r.length=out.length->∀ x∈r,wz g r x)) ?_ λr ao=>.aq ao;refine Tot.count (λs=>s.2) out.length (λs=>∃ k:Nat,k<=out.length/\s.2=(k:Int)/\s.1=out/\∀ (j:Nat) (h:j<out.length),j<k->wz g out out[j]) ⟨0,Nat.zero_le _,rfl,rfl,λj _ ah=>absurd ah (Nat.not_lt_zero _)⟩ (by show (out.length:Int) - 0<_; omega) λs aB=>?_;obtain ⟨cur,k1⟩:=s;obtain ⟨k,hk,rfl,rfl,NJ⟩:=aB;simp only;rw [Gg k (by omega)];refine Tot.bp (λaT=>?_) (λdV=>.aq ⟨aP,gH,λ_ h=>h,λ_ x J=>?_⟩)
   ·have aT:k<cur.length:=by omega
    rw [dX aT];have zI:=gH _ (List.getElem_mem aT);have EX:∀ P:Item->Prop,P cur[k]->∀ (j:Nat) (h:j<cur.length),j=k->P cur[j]:=λP cn j h e=>by subst e; exact cn
    generalize J:cur[k]=x at *;have ac3:=XI aO x;have hw:aJ (hT g x - 1000)=hT g x - 1000:=by rw [cA]; omega
    simp only [Option.bind_some,Hx g x,hw];refine (.aA (Ξ:=λr:List Item=>fR g_ r/\(∀ x∈r,n0 g l x)/\(∀ x∈cur,x∈r)/\wz g r x) ?_ λr ao=>?_)
    ·refine Tot.count (λs=>s.2) g.bh.length (λs=>∃ i:Nat,i<=g.bh.length/\s.2=(i:Int)/\fR g_ s.1/\(∀ x∈s.1,n0 g l x)/\(∀ x∈cur,x∈s.1)/\∀ (p:Nat) (q:Prod),p<i->g.bh[p]?=some q->q.Left=hT g x - 1000->(⟨p,0⟩:Item)∈s.1) ⟨0,Nat.zero_le _,rfl,aP,gH,λ_ h=>h,λp q au=>absurd au (Nat.not_lt_zero _)⟩ (by show (g.bh.length:Int) - 0<_; omega) λs aB=>?_;obtain ⟨o,se⟩:=s;obtain ⟨i,hi,rfl,r5,BY,EM,ud⟩:=aB;simp only at r5 BY EM ud ⊢;rw [Gg i (by omega)];refine .aA (Ξ:=λc:Bool=>(c=true->i<g.bh.length/\1000<=hT g x)/\(c=false->g.bh.length<=i\/hT g x<1000)) (Tot.bp (λh=>.aq ⟨λaR=>⟨by omega,of_decide_eq_true aR⟩,λaR=>.inr (by have:=of_decide_eq_false aR; omega)⟩) (λh=>.aq ⟨λaR=>(by cases aR),λ_=>.inl (by omega)⟩)) λc aa=>Tot.bE (λh=>?_) (λh=>.aq ⟨r5,BY,EM,λaQ p q au=>?_⟩)
     ·obtain ⟨IN,aQ⟩:=aa.1 h;have N':g.bh[i]?=some g.bh[i]:=List.getElem?_eq_getElem IN;rw [dX IN];refine .aA (Ξ:=λo:List Item=>fR g_ o/\(∀ x∈o,n0 g l x)/\(∀ x∈cur,x∈o)/\∀ (p:Nat) (q:Prod),p<i+1->g.bh[p]?=some q->q.Left=hT g x - 1000->(⟨p,0⟩:Item)∈o) ?_ λo a1=>.aq ⟨⟨i+1,by omega,rfl,a1⟩,by show (i:Int)<((i+1:Nat):Int); omega,by show ((i+1:Nat):Int)<=_; omega⟩;refine Tot.aV (.aA (Ξ:=λo:List Item=>fR g_ o/\(∀ x∈o,n0 g l x)/\(∀ x∈cur,x∈o)/\∀ (p:Nat) (q:Prod),p<i+1->g.bh[p]?=some q->q.Left=hT g x - 1000->(⟨p,0⟩:Item)∈o) (Tot.bp (λh=>?_) (λh=>.aq ⟨r5,BY,EM,λp q au B3 bg=>?_⟩)) λo a1=>.aq a1)
      ·have ac0:=tA aO r5 λx J=>(BY x J).jf;refine .aA (G' o ⟨(i:Nat),0⟩ r5 (by omega)) λr ao=>.aq ⟨ao.1,λy ax=>?_,λy ax=>(ao.2 y).2 (.inl (EM y ax)),λp q au B3 bg=>?_⟩
       ·rcases (ao.2 y).1 ax with ax | rfl
        ·exact BY y ax
        ·exact .step zI N' (by omega) aQ
       ·by_cases cy:p=i
        ·subst cy; exact (ao.2 _).2 (.inr rfl)
        ·exact (ao.2 _).2 (.inl (ud p q (by omega) B3 bg))
      ·by_cases cy:p=i
       ·subst cy;rw [N'] at B3; cases B3;exact absurd bg h
       ·exact ud p q (by omega) B3 bg
     ·rcases aa.2 h with h1 | h1
      ·exact ud p q (by have:=(List.getElem?_eq_some_iff.1 au).1; omega) au
      ·omega
    ·obtain ⟨sP,Wc,l7,Wi⟩:=ao;have hle:cur.length<=r.length:=zR (aP.nd vM) l7;refine Tot.pj (λIW=>.aq ⟨sP,Wc,l7,λe=>absurd (by omega) IW⟩) (λheq=>?_);have l6:r.length=cur.length:=by omega
     have Wj:r=cur:=by
      have nH:∀ y,y∈cur↔y∈r:=by
       intro y;refine ⟨l7 y,λax=>Classical.byContradiction λaF=>?_⟩;have:=zR (l:=y::cur) (m:=r) (List.nodup_cons.2 ⟨aF,aP.nd vM⟩) λz aX=>by
        rcases List.mem_cons.1 aX with rfl | aX
        ·exact ax
        ·exact l7 z aX
       simp at this;omega
      exact (fR.uniq vM aP sP nH).symm
     subst Wj;refine .aq ⟨⟨k+1,by omega,rfl,rfl,λj ah gY=>?_⟩,by show (k:Int)<((k+1:Nat):Int); omega,by show ((k+1:Nat):Int)<=_; omega⟩;by_cases cy:j=k
     ·exact EX (wz g r) Wi j ah cy
     ·exact NJ j ah (by omega)
   ·obtain ⟨j,ah,rfl⟩:=List.mem_iff_getElem.1 J;exact NJ j ah (by omega)
  ·obtain ⟨h1,af,aI,bF,cG⟩:=ah;have hle:out.length<=j.1.length:=zR (aP.nd vM) bF;have eZ:=tA aO af λx J=>(aI x J).jf;refine .aq ⟨⟨af,aI,λx J hi=>bF x (vf x J hi),λe=>cG (by show j.1.length=_; have e:j.2=(j.1.length:Int):=e; omega)⟩,?_⟩;show 2 * (1000 - j.1.length)+(if j.2=(j.1.length:Int) then 0 else 1)<2 * (1000 - out.length)+(if n=(out.length:Int) then 0 else 1)
   rw [if_neg dq];split
   ·omega
   ·have:j.1.length≠out.length:=λe=>by omega
    omega
 ·have aa:=gX he
  induction J with
  | base h hi=>exact vf _ h hi
  | @step x q p h au aF aQ aU=>exact aa x aU aQ p q au (by omega)
def DX (g:bN) (l:List Item) (a:Int) (y:Item):Prop:=∃ x,n0 g l x/\hT g x=a/\0<=a/\y=⟨x.Prod,x.e'+1⟩
theorem OK {g:bN}(aO:gB g) {x:Item}(h:0<=hT g x):jf g ⟨x.Prod,x.e'+1⟩:=by
 obtain ⟨_,_,q,bg,aB⟩:=Pd aO h;obtain ⟨aQ,h1,_⟩:=nb aB;exact ⟨q,bg,by show 0<=x.e'+1; omega,by show x.e'+1<=_; omega⟩
theorem Xn {g:bN}(aO:gB g) {x:Item}(h:jf g x):0<=x.e'/\x.e'<=8:=by
 obtain ⟨q,bg,aQ,h1⟩:=h;have:=aO.aH q (nb bg).2.2;omega
theorem DX.jf {g:bN}(aO:gB g) {l:List Item}{a:Int}{y:Item}(h:DX g l a y):jf g y:=by
 obtain ⟨x,_,h1,af,rfl⟩:=h;exact OK aO (by omega)
theorem SB (g:bN) (aO:gB g) (l:List Item) (a:Int) (aj:l.length<=1000000):Tot (C_ g l a) λr=>fR g_ r/\∀ y,y∈r↔DX g l a y:=by
 unfold C_;refine .aA (Hk g aO l aj) λc aa=>.aA (Ξ:=λr=>fR g_ r/\∀ y,y∈r↔DX g l a y) ?_ λr ao=>.aq ao;have gX:=tA aO aa.1 λx J=>((aa.2 x).1 J).jf;refine Tot.count (λs=>s.2) c.length (λs=>∃ k:Nat,k<=c.length/\s.2=(k:Int)/\fR g_ s.1/\∀ y,y∈s.1↔∃ x∈c.take k,hT g x=a/\0<=a/\y=⟨x.Prod,x.e'+1⟩) ⟨0,Nat.zero_le _,rfl,List.Pairwise.nil,λy=>by simp⟩ (by show (c.length:Int) - 0<_; omega) λs aB=>?_;obtain ⟨o,k1⟩:=s;obtain ⟨k,hk,rfl,r5,BZ⟩:=aB;simp only at r5 BZ ⊢;rw [Gg k (by omega)];refine Tot.bp (λaT=>?_) (λdV=>.aq ⟨r5,λy=>?_⟩)
 ·have aT:k<c.length:=by omega
  have W7:=((aa.2 _).1 (List.getElem_mem aT)).jf;have gb:c.take (k+1)=c.take k++[c[k]]:=lz aT;rw [dX aT];generalize c[k]=x at *;have aS:=Xn aO W7;have hw:aJ (x.e'+1)=x.e'+1:=by rw [cA]; omega
  refine .aA (Ξ:=λo:List Item=>fR g_ o/\∀ y,y∈o↔∃ x∈c.take (k+1),hT g x=a/\0<=a/\y=⟨x.Prod,x.e'+1⟩) ?_ λo a1=>.aq ⟨⟨k+1,by omega,rfl,a1⟩,by show (k:Int)<((k+1:Nat):Int); omega,by show ((k+1:Nat):Int)<=_; omega⟩;have nH:∀ y,(∃ z∈c.take (k+1),hT g z=a/\0<=a/\y=(⟨z.Prod,z.e'+1⟩:Item))↔(y∈o\/(hT g x=a/\0<=a/\y=⟨x.Prod,x.e'+1⟩)):=by
   intro y;rw [BZ y,gb];constructor
   ·rintro ⟨z,aX,h⟩;rcases List.mem_append.1 aX with aX | aX
    ·exact .inl ⟨z,aX,h⟩
    ·rw [List.mem_singleton.1 aX] at h; exact .inr h
   ·rintro (⟨z,aX,h⟩ | h)
    ·exact ⟨z,by simp [aX],h⟩
    ·exact ⟨x,by simp,h⟩
  simp only [Option.bind_some,Hx g x,hw];refine (.aA (Ξ:=λb:Bool=>b=decide (0<=hT g x/\hT g x=a)) (Tot.bp (λh=>.aq (by simp [h])) (λh=>.aq (by simp [h]))) λb av=>?_);subst av;refine .aA (Ξ:=λo:List Item=>fR g_ o/\∀ y,y∈o↔∃ x∈c.take (k+1),hT g x=a/\0<=a/\y=⟨x.Prod,x.e'+1⟩) (Tot.bp (λh=>?_) (λh=>.aq ⟨r5,λy=>?_⟩)) λo a1=>.aq a1
  ·have xk:=tA aO r5 λy ax=>by
    obtain ⟨z,_,h1,af,rfl⟩:=(BZ y).1 ax;exact OK aO (by omega)
   refine (.aA (G' o _ r5 (by omega)) λr ao=>.aq ⟨ao.1,λy=>?_⟩);rw [ao.2 y,nH y];constructor
   ·rintro (h1 | h1)
    ·exact .inl h1
    ·exact .inr ⟨h.2,by omega,h1⟩
   ·rintro (h1 | h1)
    ·exact .inl h1
    ·exact .inr h1.2.2
  ·rw [nH y];exact ⟨.inl,λaR=>aR.elim id λaR=>absurd ⟨by omega,aR.1⟩ h⟩
 ·have:k=c.length:=by omega
  subst this;rw [List.take_length] at BZ;rw [BZ y];constructor
  ·rintro ⟨x,J,h⟩;exact ⟨x,(aa.2 x).1 J,h⟩
  ·rintro ⟨x,J,h⟩;exact ⟨x,(aa.2 x).2 J,h⟩
def iS (a b:Int):Bool:=decide (a<b)
theorem OZ {a b:Int}:iS a b=true↔a<b:=by simp [iS]
theorem JY {a b:Int}:iS a b=false↔¬ a<b:=by simp [iS]
theorem Fz:Ord iS where
 swo:=⟨λx=>by rw [JY]; omega,λx y z h1 af=>by rw [OZ] at *; omega,λx y z h1 af=>by rw [JY] at *; omega⟩
 jj:=λx y h1 af=>by rw [JY] at *; omega
theorem L1 {l:List Int}(aj:fR iS l) {i j:Nat}(hi:i<l.length) (ah:j<l.length) (h:i<j):iS l[i] l[j]=true:=List.pairwise_iff_getElem.1 aj i j hi ah h
theorem Eb (l:List Int) (x:Int) (aj:fR iS l) (aF:l.length<=100000):Tot (pT l x) λr=>fR iS r/\r.length<=l.length+1/\(∀ y,y∈r↔y∈l\/y=x):=by
 unfold pT;refine .aA (Ξ:=λz:Int=>∃ k:Nat,z=(k:Int)/\k<=l.length/\(∀ (i:Nat) (h:i<l.length),k<=i->iS x l[i]=true)/\∀ (h:0<k),iS x (l[k - 1]?.getD default)=false) ?_ λz aX=>?_
 ·refine Tot.count (λs=>-s) 1 (λs=>∃ k:Nat,s=(k:Int)/\k<=l.length/\∀ (i:Nat) (h:i<l.length),k<=i->iS x l[i]=true) ⟨l.length,rfl,Nat.le_refl _,λi h hk=>by omega⟩ (by show 1 - -(l.length:Int)<_; omega) λs aB=>?_;obtain ⟨k,rfl,hk,uh⟩:=aB;refine .aA (Ξ:=λc:Bool=>(c=true->0<k/\iS x (l[k - 1]?.getD default)=true)/\(c=false->∀ (h:0<k),iS x (l[k - 1]?.getD default)=false)) ?_ λc aa=>Tot.bE (λh=>?_) (λh=>.aq ⟨k,rfl,hk,uh,aa.2 h⟩)
  ·refine Tot.bp (λh=>?_) (λh=>.aq ⟨λaR=>(by cases aR),λ_ aR=>by omega⟩);have hh:k - 1<l.length:=by omega
   have hw:aJ ((k:Int) - 1)=((k - 1:Nat):Int):=by rw [cA]; omega
   rw [hw,dX hh,List.getElem?_eq_getElem hh];simp only [Option.bind_some,Option.getD_some];exact .aq ⟨λaR=>⟨by omega,aR⟩,λaR _=>aR⟩
  ·obtain ⟨aQ,h1⟩:=aa.1 h;refine .aq ⟨⟨k - 1,by rw [cA]; omega,by omega,λi hi VS=>?_⟩,by show -(k:Int) < -aJ _; rw [cA]; omega,by show -aJ _<=1; rw [cA]; omega⟩
   grind
 ·obtain ⟨k,rfl,hk,uh,ky⟩:=aX;refine .aA (Ξ:=λc:Bool=>(c=true↔(0<k/\l[k - 1]?.getD default=x))) ?_ λc aa=>Tot.bE (λh=>?_) (λh=>?_)
  ·refine Tot.bp (λh=>?_) (λh=>.aq ⟨λaR=>(by cases aR),λaR=>by omega⟩);have hh:k - 1<l.length:=by omega
   have hw:aJ ((k:Int) - 1)=((k - 1:Nat):Int):=by rw [cA]; omega
   rw [hw,dX hh,List.getElem?_eq_getElem hh];simp only [Option.bind_some,Option.getD_some];generalize l[k - 1]=y;refine .aq ?_
   grind
  ·obtain ⟨aQ,h1⟩:=aa.1 h;have hh:k - 1<l.length:=by omega
   rw [List.getElem?_eq_getElem hh] at h1;have J:x∈l:=by rw [<- h1]; exact List.getElem_mem hh
   exact .aq ⟨aj,by omega,λy=>⟨.inl,λh=>h.elim id λe=>e ▸ J⟩⟩
  ·have dq:∀ (i:Nat) (hi:i<l.length),i<k->iS l[i] x=true:=by
    intro i hi IC;have hh:k - 1<l.length:=by omega
    have ky:=ky (by omega);have aF:l[k - 1]?.getD default≠x:=λe=>by rw [aa.2 ⟨by omega,e⟩] at h; cases h
    rw [List.getElem?_eq_getElem hh] at ky aF;simp only [Option.getD_some] at ky aF;have fW:iS l[k - 1] x=true:=by
     grind [iS]
    by_cases e:i=k - 1
    ·grind
    ·exact Fz.swo.trans _ _ _ (L1 aj hi hh (by omega)) fW
   refine .aA (Ξ:=λz=>z=l.take k) (Tot.sub ⟨by omega,by omega,by omega⟩ (by simp)) λz aX=>?_;subst aX;refine .aA (Ξ:=λ_=>True) (Tot.ap (by simp [lim]; omega) trivial) λ_ _=>.aA (Ξ:=λ_=>True) (Tot.ap (by simp [lim]; omega) trivial) λ_ _=>?_;refine .aA (Ξ:=λz=>z=l.drop k) (Tot.sub ⟨by omega,by omega,by omega⟩ ?_) λz aX=>?_
   ·grind [List.take_of_length_le]
   subst aX;refine .aA (Ξ:=λ_=>True) (Tot.ap (by simp [lim]; omega) trivial) λ_ _=>.aq ?_;rw [List.nil_append];refine ⟨?_,?_,?_⟩
   ·have h1:∀ a∈l.take k,iS a x=true:=by
     grind [List.mem_iff_getElem]
    have af:∀ a∈l.drop k,iS x a=true:=by
     grind [List.mem_iff_getElem]
    unfold fR;rw [List.append_assoc,List.pairwise_append];refine ⟨List.Pairwise.sublist (List.take_sublist k l) aj,?_,λa aP b av=>?_⟩
    ·rw [List.singleton_append,List.pairwise_cons];exact ⟨af,List.Pairwise.sublist (List.drop_sublist k l) aj⟩
    ·rcases List.mem_append.1 av with av | av
     ·grind
     ·exact Fz.swo.trans _ _ _ (h1 a aP) (af b av)
   ·grind
   grind [List.take_append_drop]
theorem P8 {α:Type}{l:List α}{k:Nat}{x:α}(hk:k<l.length) (i:Nat):(l.set k x)[i]?=if i=k then some x else l[i]?:=by
 rw [List.getElem?_set];by_cases e:k=i
 ·subst e; simp [hk]
 ·simp [e,Ne.symm e]
theorem TA (x y:Item):(decide (x.Prod=y.Prod)&&(decide (x.e'=y.e')&&true))=decide (x=y):=by
 obtain ⟨a8,x2⟩:=x;obtain ⟨bw,y2⟩:=y;simp
theorem Sg (a b:List Item) (h:a.length<=1000000):Tot (CP a b) λc=>(c=true↔a=b):=by
 unfold CP;refine Tot.pj (λdq=>.aq ⟨λh=>(by cases h),λe=>absurd (by rw [e]) dq⟩) (λhe=>?_);have aj:a.length=b.length:=by omega
 refine Tot.aA (Ξ:=hn (λ_=>a=b) (λx:Bool=>x=false/\a≠b)) ?_ λx J=>?_
 ·refine Tot.count (λs=>s) a.length (λs=>∃ k:Nat,k<=a.length/\s=(k:Int)/\∀ (j:Nat) (h:j<a.length),j<k->a[j]=b[j]) ⟨0,Nat.zero_le _,rfl,λj _ ah=>absurd ah (Nat.not_lt_zero _)⟩ (by show (a.length:Int) - 0<_; omega) λs aB=>?_;obtain ⟨k,hk,rfl,lg⟩:=aB;rw [eA k (by omega)];refine Tot.bp (λaT=>?_) (λdV=>.aq ?_)
  ·have aT:k<a.length:=by omega
   have zw:k<b.length:=by omega
   rw [dX aT,dX zw];simp only [Option.bind_some,TA];refine Tot.pj (λdq=>.aq ⟨rfl,λe=>dq (by subst e; rfl)⟩) (λheq=>.aq ⟨⟨k+1,by omega,rfl,λj ah gY=>?_⟩,by show (k:Int)<((k+1:Nat):Int); omega,by show ((k+1:Nat):Int)<=_; omega⟩);by_cases e:j=k
   ·subst e; exact heq
   ·exact lg j ah (by omega)
  ·exact List.ext_getElem aj λi h1 af=>lg i h1 (by omega)
 ·rcases x with _ | x
  ·exact .aq ⟨λ_=>J,λ_=>rfl⟩
  ·obtain ⟨rfl,dq⟩:x=false/\a≠b:=J;exact .aq ⟨λh=>(by cases h),λh=>absurd h dq⟩
def syms (g:bN):List Int:=(List.range g.ba.length).map (λk:Nat=>(k:Int))++(List.range g.b0.length).map (λk:Nat=>1000+(k:Int))
theorem Mj (g:bN) (a1:gB g):Tot (C9 g) λl=>l=syms g:=by
 have dM:=a1.kH;have bc:=a1.dy;unfold C9;refine .aA (Ξ:=λl:List Int=>l=(List.range g.ba.length).map (λk:Nat=>(k:Int))) ?_ λl aj=>?_
 ·refine Tot.upto (λs=>s.2) g.ba.length (λk s=>s.1=(List.range k).map (λk:Nat=>(k:Int))) rfl (by omega) rfl λk s hk he bf=>?_;obtain ⟨l,i⟩:=s;simp only at he bf ⊢;subst he bf;rw [eA k (by omega)];refine Tot.bp (λaT=>?_) (λdV=>.aq ?_)
  ·refine .aA (Ξ:=λ_=>True) (Tot.ap (by simp [lim]; omega) trivial) λ_ _=>.aq ⟨by omega,rfl,?_⟩;show _=(List.range (k+1)).map _;rw [List.range_succ,List.map_append]; rfl
  ·have:k=g.ba.length:=by omega
   subst this; rfl
 ·subst aj;refine .aA (Ξ:=λl:List Int=>l=syms g) ?_ λr ao=>.aq ao;refine Tot.upto (λs=>s.2) g.b0.length (λk s=>s.1=(List.range g.ba.length).map (λk:Nat=>(k:Int))++(List.range k).map (λk:Nat=>1000+(k:Int))) rfl (by omega) (by simp) λk s hk he bf=>?_;obtain ⟨l,i⟩:=s;simp only at he bf ⊢;subst he bf;rw [eA k (by omega)];refine Tot.bp (λaT=>?_) (λdV=>.aq ?_)
  ·refine .aA (Ξ:=λ_=>True) (Tot.ap (by simp [lim]; omega) trivial) λ_ _=>.aq ⟨by omega,rfl,?_⟩;have hw:aJ (1000+(k:Int))=1000+(k:Int):=by rw [cA]; omega
   show _=_++(List.range (k+1)).map _;rw [hw,List.range_succ,List.map_append,List.append_assoc]; rfl
  ·have:k=g.b0.length:=by omega
   subst this; rfl
theorem Zk (g:bN):(syms g).length=g.ba.length+g.b0.length:=by simp [syms]
theorem Xy {g:bN}{s:Int}:s∈syms g↔(0<=s/\s<g.ba.length)\/(1000<=s/\s<1000+g.b0.length):=by
 unfold syms;rw [List.mem_append,List.mem_map,List.mem_map];constructor
 ·rintro (⟨k,hk,rfl⟩ | ⟨k,hk,rfl⟩)
  ·rw [List.mem_range] at hk; exact .inl (by omega)
  ·rw [List.mem_range] at hk; exact .inr (by omega)
 ·rintro (h | h)
  ·exact .inl ⟨s.toNat,by rw [List.mem_range]; omega,by omega⟩
  ·exact .inr ⟨(s - 1000).toNat,by rw [List.mem_range]; omega,by omega⟩
theorem Zl {g:bN}(a1:gB g):(syms g).Nodup:=by
 have aw:=a1.kH;unfold syms;rw [List.nodup_append];refine ⟨List.pairwise_map.2 ((List.nodup_range (n:=g.ba.length)).imp λ{a b} h e=>h (by omega)),List.pairwise_map.2 ((List.nodup_range (n:=g.b0.length)).imp λ{a b} h e=>h (by omega)),λa aP b av=>?_⟩;obtain ⟨i,hi,rfl⟩:=List.mem_map.1 aP;obtain ⟨j,ah,rfl⟩:=List.mem_map.1 av;rw [List.mem_range] at hi;omega
structure yP (g:bN) (K:List Item):Prop where
 a:fR g_ K
 i:∀ x∈K,jf g x
theorem yP.len {g:bN}(a1:gB g) {K:List Item}(h:yP g K):K.length<=540:=tA a1 h.a h.i
theorem Mh (l:List Int) (x:Int) (h:l.length<=1000000):Tot (x8 l x) λc=>(c=true↔x∈l):=by
 unfold x8;refine .aA (Ξ:=hn (λ_=>x∉l) (λr:Bool=>r=true/\x∈l)) ?_ λr ao=>?_
 ·refine Tot.upto (λs=>s) l.length (λk s=>x∉l.take k) rfl (by omega) (by simp) λk s hk he bf=>?_;subst he;rw [eA k (by omega)];refine Tot.bp (λaT=>?_) (λdV=>.aq ?_)
  ·have aT:k<l.length:=by omega
   rw [dX aT];simp only [Option.bind_some];refine Tot.bp (λe=>.aq ⟨rfl,by rw [<- e]; exact List.getElem_mem aT⟩) (λe=>.aq ⟨aT,rfl,?_⟩);rw [lz aT,List.mem_append,List.mem_singleton];exact λh=>h.elim bf λh=>e h.symm
  ·rw [List.take_of_length_le (by omega)] at bf;exact bf
 ·rcases r with r | r
  ·exact .aq ⟨λh=>(by cases h),λh=>absurd h ao⟩
  ·obtain ⟨rfl,h⟩:=ao;exact .aq ⟨λ_=>h,λ_=>rfl⟩
theorem SC (m:List State) (k:List Item) (aQ:m.length<=1000) (h1:∀ st∈m,st.Kernel.length<=1000000):Tot (C' m k) λr=>-1<=r/\r<m.length:=by
 unfold C';refine .aA (Ξ:=hn (λ_=>True) (λr:Int=>0<=r/\r<m.length)) ?_ λx J=>?_
 ·refine Tot.upto (λs=>s) m.length (λ_ _=>True) rfl (by omega) trivial λj s ah he _=>?_;subst he;rw [eA j (by omega)];refine Tot.bp (λaT=>?_) (λdV=>.aq trivial);have aT:j<m.length:=by omega
  rw [dX aT];refine Tot.aV (.aA (Sg _ k (h1 _ (List.getElem_mem aT))) λc aa=>Tot.bE (λh=>.aq ⟨by omega,by omega⟩) (λh=>.aq ⟨aT,rfl,trivial⟩))
 ·rcases x with x | x
  ·exact .aq ⟨by omega,by omega⟩
  ·have J:0<=x/\x<m.length:=J;exact .aq ⟨by omega,by omega⟩
structure yT (g:bN) (n:Nat) (v:Move):Prop where
 s:v.Sym∈syms g
 t0:0<=v.jH
 t1:v.jH<n
structure mg (g:bN) (m:List State) (q j:Nat):Prop where
 gJ:0<m.length
 nj:m.length<=150
 qz:∀ st∈m,yP g st.Kernel
 ms:∀ (i:Nat) (st:State),m[i]?=some st->(st.eU.map (·.Sym)).Sublist (if i<q then syms g else if i=q then (syms g).take j else [])
 aZ:∀ st∈m,∀ v∈st.eU,yT g m.length v
structure mL (g:bN) (m:List State):Prop where
 gJ:0<m.length
 nj:m.length<=150
 qz:∀ st∈m,yP g st.Kernel
 xP:∀ st∈m,st.eU.length<=64
 nd:∀ st∈m,(st.eU.map (·.Sym)).Nodup
 aZ:∀ st∈m,∀ v∈st.eU,yT g m.length v
theorem yT.up {g:bN}{n cH:Nat}{v:Move}(h:yT g n v) (aF:n<=cH):yT g cH v:=⟨h.s,h.t0,by have:=h.t1; omega⟩
theorem mg.put {g:bN}{m:List State}{q j:Nat}(h:mg g m q j) {st:State}(bg:m[q]?=some st) {v:Move}(hv:yT g m.length v) (ah:(syms g)[j]?=some v.Sym):mg g (m.set q ⟨st.Kernel,st.eU++[v]⟩) q (j+1):=by
 have mZ:=(List.getElem?_eq_some_iff.1 bg).1;have hm:=List.mem_of_getElem? bg;refine ⟨by rw [List.length_set]; exact h.gJ,by rw [List.length_set]; exact h.nj,λs aB=>?_,λi s aB=>?_,λs aB w hw=>?_⟩
 ·rcases List.mem_or_eq_of_mem_set aB with aR | aR
  ·exact h.qz s aR
  ·rw [aR]; exact h.qz st hm
 ·rw [P8 mZ] at aB;by_cases e:i=q
  ·subst e;rw [if_pos rfl] at aB; cases aB;have:=h.ms i st bg;rw [if_neg (by omega),if_pos rfl] at this ⊢;rw [List.map_append,List.take_add_one,ah];exact this.append (List.Sublist.refl _)
  ·rw [if_neg e] at aB;have:=h.ms i s aB;rw [if_neg e] at this ⊢;exact this
 ·rw [List.length_set];rcases List.mem_or_eq_of_mem_set aB with aR | aR
  ·exact h.aZ s aR w hw
  ·rw [aR] at hw;rcases List.mem_append.1 hw with hw | hw
   ·exact h.aZ st hm w hw
   ·rw [List.mem_singleton.1 hw]; exact hv
theorem mg.more {g:bN}{m:List State}{q j:Nat}(h:mg g m q j) (aj:m.length<150) {K:List Item}(hk:yP g K):mg g (m++[⟨K,[]⟩]) q j:=by
 refine ⟨by simp,by simp; omega,λs aB=>?_,λi s aB=>?_,λs aB w hw=>?_⟩
 ·rcases List.mem_append.1 aB with aB | aB
  ·exact h.qz s aB
  ·rw [List.mem_singleton.1 aB]; exact hk
 ·by_cases e:i<m.length
  ·rw [List.getElem?_append_left e] at aB; exact h.ms i s aB
  ·rw [List.getElem?_append_right (by omega)] at aB;have:s=⟨K,[]⟩:=by
    have:=List.mem_of_getElem? aB;simpa using this
   rw [this]; exact List.nil_sublist _
 ·rcases List.mem_append.1 aB with aB | aB
  ·exact (h.aZ s aB w hw).up (by simp)
  ·rw [List.mem_singleton.1 aB] at hw; cases hw
theorem mg.mono {g:bN}{m:List State}{q j vE:Nat}(h:mg g m q j) (ah:j<=vE):mg g m q vE:=by
 refine ⟨h.gJ,h.nj,h.qz,λi s aB=>?_,h.aZ⟩;have:=h.ms i s aB;split
 ·rename_i e; rw [if_pos e] at this; exact this
 ·rename_i e; rw [if_neg e] at this;split
  ·rename_i cj; rw [if_pos cj] at this;exact this.trans (List.take_sublist_take_left ah)
  ·rename_i cj; rw [if_neg cj] at this; exact this
theorem mg.next {g:bN}{m:List State}{q j:Nat}(h:mg g m q j):mg g m (q+1) 0:=by
 refine ⟨h.gJ,h.nj,h.qz,λi s aB=>?_,h.aZ⟩;have:=h.ms i s aB;by_cases e:i<q+1
 ·rw [if_pos e]
  split at this
  ·exact this
  ·split at this
   ·exact this.trans (List.take_sublist _ _)
   ·exact this.trans (List.nil_sublist _)
 ·rw [if_neg (by omega),if_neg (by omega)] at this;rw [if_neg e];exact this.trans (List.nil_sublist _)
theorem Su (g:bN) (a1:gB g):Tot (Ak g) λr=>(r.2=0/\mL g r.1)\/r.2=4:=by
 have dM:=a1.kH;have bc:=a1.dy;have cn:=a1.h0;unfold Ak;refine Tot.aA (Mj g a1) λa8 h1=>?_;subst h1;have h8:=Zk g;refine Tot.aA (Ξ:=hn (λm=>mg g m m.length 0) (λr:List State × Int=>r.2=4)) ?_ λx J=>?_
 ·refine Tot.loop (λs=>∃ q:Nat,s.2=(q:Int)/\q<=s.1.length/\mg g s.1 q 0) (λs=>151 - s.2.toNat) ⟨0,rfl,Nat.zero_le _,⟨by simp,by simp,λs aB=>?_,λi s aB=>?_,λs aB v hv=>?_⟩⟩ (by show 151 - 0<1000000000000000000; omega) λs b1=>?_
  ·rw [List.mem_singleton.1 aB];refine ⟨List.pairwise_singleton ..,λx J=>?_⟩;rw [List.mem_singleton.1 J];obtain ⟨q,bg⟩:∃ q,g.bh[0]?=some q:=⟨g.bh[0]'(by omega),List.getElem?_eq_getElem _⟩;exact OL (p:=0) bg
  ·have:=List.mem_of_getElem? aB;rw [List.mem_singleton.1 this]; exact List.nil_sublist _
  ·rw [List.mem_singleton.1 aB] at hv; cases hv
  obtain ⟨q,he,bg,Bz⟩:=b1;obtain ⟨m,i⟩:=s;simp only at he bg Bz ⊢;subst he;have xi:=Bz.nj;rw [eA q (by omega)];refine Tot.bp (λaT=>?_) (λdV=>.aq ?_)
  ·have aT:q<m.length:=by omega
   rw [dX aT];have di:=Bz.qz _ (List.getElem_mem aT);refine Tot.aV (Tot.aA (Hk g a1 _ (by have:=di.len a1; omega)) λc aa=>?_);have gX:=tA a1 aa.1 λx J=>((aa.2 x).1 J).jf;refine Tot.aA (Ξ:=λl:List Int=>l.length<=1000) ?_ λRG acy=>?_
   ·refine Tot.upto (λs=>s.2) c.length (λk s=>fR iS s.1/\s.1.length<=k) rfl (by omega) ⟨.nil,Nat.le_refl 0⟩ λk s hk he bf=>?_;obtain ⟨l,i⟩:=s;obtain ⟨g1,g2⟩:=bf;simp only at he g1 g2 ⊢;subst he;rw [eA k (by omega)];refine Tot.bp (λaT=>?_) (λdV=>.aq (show l.length<=1000 by omega));have aT:k<c.length:=by omega
    rw [dX aT];refine .aA (Ξ:=λl:List Int=>fR iS l/\l.length<=k+1) ?_ λo a1=>.aq ⟨aT,rfl,a1⟩;refine Tot.aV ?_;rw [Hx g _];refine Tot.aV (.aA (Ξ:=λl:List Int=>fR iS l/\l.length<=k+1) ?_ λo a1=>.aq a1);refine Tot.bp (λau=>.aA (Eb l _ g1 (by omega)) λr ao=>.aq ⟨ao.1,by have:=ao.2.1; omega⟩) (λau=>.aq ⟨g1,by omega⟩)
   ·refine Tot.aA (Ξ:=hn (λm=>mg g m q (syms g).length/\q<m.length) (λr:List State × Int=>r.2=4)) ?_ λx J=>?_
    ·refine Tot.upto (λs=>s.2) (syms g).length (λk s=>mg g s.1 q k/\q<s.1.length) rfl (by omega) ⟨Bz,aT⟩ λk s hk he bf=>?_;obtain ⟨m,i⟩:=s;obtain ⟨tO,mZ⟩:=bf;simp only at he tO mZ ⊢;subst he;rw [eA k (by omega)];have vp:=tO.nj;refine Tot.bp (λaT=>?_) (λdV=>.aq ?_)
     ·have aT:k<(syms g).length:=by omega
      have nL:=List.getElem_mem aT;have pC:(syms g)[k]?=some (syms g)[k]:=List.getElem?_eq_getElem aT;rw [dX aT];generalize (syms g)[k]=s at *;refine Tot.aV (Tot.aA (Mh RG s (by omega)) λcD _=>?_);refine Tot.bE (λ_=>.aq ⟨aT,rfl,tO.mono (by omega),mZ⟩) (λ_=>?_);have n':m[q]?=some m[q]:=List.getElem?_eq_getElem mZ;have di:=tO.qz _ (List.getElem_mem mZ);rw [dX mZ];generalize m[q]=st at *;refine Tot.aV (Tot.aV (Tot.aA (SB g a1 st.Kernel s (by have:=di.len a1; omega)) λDS zm=>?_));have h':yP g DS:=⟨zm.1,λy ax=>((zm.2 y).1 ax).jf a1⟩;refine Tot.aA (SC m DS (by omega) λt aw=>by have:=(tO.qz t aw).len a1; omega) λz aX=>?_;have Wq:=(tO.ms q st n').length_le;rw [if_neg (by omega),if_pos rfl,List.length_map,List.length_take] at Wq;refine Tot.bp (λN6=>Tot.bp (λ_=>.aq rfl) (λN7=>?_)) (λsO=>?_)
      ·refine .aA (Ξ:=λ_=>True) (Tot.ap (by simp [lim]; omega) trivial) λ_ _=>?_;have UH:=tO.more (by omega) h';have NQ:(m++[(⟨DS,[]⟩:State)])[q]?=some st:=by rw [List.getElem?_append_left mZ]; exact n'
       have BO:idx (m++[(⟨DS,[]⟩:State)]) (q:Int)=some st:=by simp only [idx,if_pos (show (0:Int)<=(q:Int) by omega),Int.toNat_natCast]; exact NQ
       rw [BO];refine Tot.aV (Tot.aV ?_);refine .aA (Ξ:=λ_=>True) (Tot.ap (by simp [lim]; omega) trivial) λ_ _=>.aq ⟨aT,rfl,?_⟩;refine ⟨?_,by show q<(List.set _ _ _).length; rw [List.length_set]; simp; omega⟩;show mg g (List.set _ (q:Int).toNat _) q (k+1);rw [Int.toNat_natCast];exact UH.put NQ ⟨nL,by show (0:Int)<=(m.length:Int); omega,by show (m.length:Int)<_; simp; omega⟩ pC
      ·refine Tot.aV (Tot.aV ?_);refine .aA (Ξ:=λ_=>True) (Tot.ap (by simp [lim]; omega) trivial) λ_ _=>.aq ⟨aT,rfl,?_⟩;refine ⟨?_,by show q<(List.set _ _ _).length; rw [List.length_set]; exact mZ⟩;show mg g (List.set _ (q:Int).toNat _) q (k+1);rw [Int.toNat_natCast];exact tO.put n' ⟨nL,by show 0<=z; omega,aX.2⟩ pC
     ·have:k=(syms g).length:=by omega
      subst this;exact ⟨tO,mZ⟩
    ·rcases x with x | x
     ·obtain ⟨h1,af⟩:=J;refine .aq ⟨⟨q+1,rfl,af,h1.next⟩,?_⟩;show 151 - ((q+1:Nat):Int).toNat<151 - (q:Int).toNat;omega
     ·exact .aq J
  ·have:q=m.length:=by omega
   subst this;exact Bz
 ·rcases x with x | x
  ·have J:mg g x x.length 0:=J;have key:∀ st∈x,(st.eU.map (·.Sym)).Sublist (syms g):=λst b1=>by
    obtain ⟨i,hi⟩:=List.getElem?_of_mem b1;have:=J.ms i st hi;rw [if_pos (List.getElem?_eq_some_iff.1 hi).1] at this;exact this
   refine .aq (.inl ⟨rfl,J.gJ,J.nj,J.qz,λst b1=>?_,λst b1=>(key st b1).nodup (Zl a1),J.aZ⟩);have:=(key st b1).length_le;rw [List.length_map] at this; omega
  ·exact .aq (.inr J)
theorem Xd {α:Type}{m:List α}{q:Nat}{x:α}(h:m[q]?=some x):idx m (q:Int)=some x:=by simp [idx,h]
def GoTo (m:List State) (a s r:Int):Prop:=(r=-1/\∀ st,idx m a=some st->∀ v∈st.eU,v.Sym≠s)\/∃ st v,idx m a=some st/\v∈st.eU/\v.Sym=s/\r=v.jH
theorem Ea (m:List State) (a s:Int) (hm:∀ st∈m,st.eU.length<=64):Tot (rm m a s) (GoTo m a s):=by
 unfold rm;by_cases aQ:0<=a/\a<(m.length:Int)
 ·obtain ⟨st,b1,nH⟩:=oh aQ.1 aQ.2;have aj:=hm st nH;have d1:decide (0<=a)=true:=decide_eq_true aQ.1;have d2:decide (a<(m.length:Int))=true:=decide_eq_true aQ.2;rw [d1,d2];simp only [cond_true,b1,Option.bind_some];refine .aA (Ξ:=hn (λ_=>∀ v∈st.eU,v.Sym≠s) (λr:Int=>∃ v,v∈st.eU/\v.Sym=s/\r=v.jH)) ?_ λx J=>?_
  ·refine Tot.upto (λs=>s) st.eU.length (λk _=>∀ v∈st.eU.take k,v.Sym≠s) rfl (by omega) (by simp) λk i hk he bf=>?_;subst he;rw [eA k (by omega)];refine Tot.bp (λaT=>?_) (λdV=>.aq (by
    show ∀ v∈st.eU,v.Sym≠s;rw [List.take_of_length_le (by omega)] at bf; exact bf))
   have aT:k<st.eU.length:=by omega
   rw [dX aT];simp only [Option.bind_some];refine Tot.bp (λe=>.aq ⟨_,List.getElem_mem aT,e,rfl⟩) (λe=>.aq ⟨aT,rfl,λv hv=>?_⟩);rw [lz aT,List.mem_append,List.mem_singleton] at hv;rcases hv with hv | rfl
   ·exact bf v hv
   ·exact e
  ·rcases x with x | x
   ·exact .aq (.inl ⟨rfl,λQo aR=>by rw [b1] at aR; cases aR; exact J⟩)
   ·obtain ⟨v,h1,af,aI⟩:=J;exact .aq (.inr ⟨st,v,b1,h1,af,aI⟩)
 ·refine .aA (Ξ:=hn (λ_=>True) (λ_:Int=>False)) (Tot.loop (λ_=>True) (λ_=>0) trivial (by show 0<1000000000000000000; omega) λi _=>?_) λx J=>?_
  ·refine .aA (Ξ:=λc=>c=false) ?_ λc aa=>by subst aa; exact .aq trivial
   refine Tot.bp (λh1=>Tot.bp (λaf=>absurd ⟨h1,af⟩ aQ) (λ_=>.aq rfl)) (λ_=>.aq rfl)
  ·rcases x with x | x
   ·refine .aq (.inl ⟨rfl,λst aR=>absurd ⟨(nb aR).1,(nb aR).2.1⟩ aQ⟩)
   ·exact J.elim
theorem GoTo.aM {g:bN}{m:List State}(hm:mL g m) {a s r:Int}(h:GoTo m a s r):-1<=r/\r<m.length:=by
 rcases h with ⟨rfl,_⟩ | ⟨st,v,h1,af,_,rfl⟩
 ·have:=hm.gJ; exact ⟨by omega,by omega⟩
 ·have:=hm.aZ st (nb h1).2.2 v af;exact ⟨by have:=this.t0; omega,this.t1⟩
theorem GoTo.yes {g:bN}{m:List State}(hm:mL g m) {a s r:Int}(h:GoTo m a s r) {st:State}{v:Move}(aB:idx m a=some st) (hv:v∈st.eU) (e:v.Sym=s):0<=r/\r<m.length:=by
 rcases h with ⟨rfl,h⟩ | ⟨st,v,h1,af,_,rfl⟩
 ·exact absurd e (h st aB v hv)
 ·have:=hm.aZ st (nb h1).2.2 v af;exact ⟨this.t0,this.t1⟩
theorem Ml {g:bN}{m:List State}(hm:mL g m) (a:Int) (l:List Int) (aP:-1<=a/\a<m.length) (aj:l.length<=1000):Tot (Ao m a l) λr=>-1<=r/\r<m.length:=by
 unfold Ao;refine .aA (Ξ:=λr:Int=>-1<=r/\r<m.length) ?_ λr ao=>.aq ao;refine Tot.upto (λs=>s.2) l.length (λ_ s=>-1<=s.1/\s.1<m.length) rfl (by omega) aP λk s hk he bf=>?_;obtain ⟨r,i⟩:=s;simp only at he bf ⊢;subst he;rw [eA k (by omega)];refine .aA (Ξ:=λc=>c=true->k<l.length) (Tot.bp (λh=>.aq λ_=>by omega) (λ_=>.aq λh=>by cases h)) λc aa=>Tot.bE (λh=>?_) (λ_=>.aq bf);have aT:=aa h;rw [dX aT];exact Tot.aV (.aA (Ea m r _ hm.xP) λz aX=>.aq ⟨aT,rfl,aX.aM hm⟩)
def u0 (m:List State) (t:Trans):Prop:=∃ st v,idx m t.State=some st/\v∈st.eU/\v.Sym=t.fD/\1000<=t.fD
structure wB (m:List State) (l:List Trans):Prop where
 n:l.length<=9600
 ok:∀ t∈l,u0 m t
 fF:∀ (q:Nat) (st:State) (v:Move),m[q]?=some st->v∈st.eU->1000<=v.Sym->(⟨q,v.Sym⟩:Trans)∈l
theorem SG {g:bN}{m:List State}(hm:mL g m):Tot (qD m) (wB m):=by
 have aF:=hm.nj;unfold qD;refine .aA (Ξ:=wB m) ?_ λr ao=>.aq ao;refine Tot.upto (λs=>s.2) m.length (λk s=>s.1.length<=64 * k/\(∀ t∈s.1,u0 m t)/\∀ (q:Nat) (st:State) (v:Move),q<k->m[q]?=some st->v∈st.eU->1000<=v.Sym->(⟨q,v.Sym⟩:Trans)∈s.1) rfl (by omega) ⟨Nat.le_refl 0,λt h=>(by cases h),λq _ _ h=>absurd h (Nat.not_lt_zero _)⟩ λk s hk he bf=>?_;obtain ⟨l,i⟩:=s;obtain ⟨h1,af,aI⟩:=bf;simp only at he h1 af aI ⊢;subst he;rw [eA k (by omega)];refine Tot.bp (λaT=>?_) (λdV=>.aq ⟨?_,af,λq st v bg=>aI q st v ?_ bg⟩)
 ·have aT:k<m.length:=by omega
  have n':m[k]?=some m[k]:=List.getElem?_eq_getElem aT;have nH:=List.getElem_mem aT;rw [dX aT];generalize m[k]=st at *;have vp:=hm.xP st nH;simp only [Option.bind_some];refine .aA (Ξ:=λvF:List Trans=>vF.length<=64 * (k+1)/\(∀ t∈vF,u0 m t)/\(∀ t∈l,t∈vF)/\∀ v∈st.eU,1000<=v.Sym->(⟨k,v.Sym⟩:Trans)∈vF) ?_ λvF hY=>.aq ⟨aT,rfl,hY.1,hY.2.1,λq Qo v bg bF cG eh=>?_⟩
  ·refine Tot.upto (λs=>s.2) st.eU.length (λj s=>s.1.length<=64 * k+j/\(∀ t∈s.1,u0 m t)/\(∀ t∈l,t∈s.1)/\∀ v∈st.eU.take j,1000<=v.Sym->(⟨k,v.Sym⟩:Trans)∈s.1) rfl (by omega) ⟨h1,af,λ_ h=>h,λv hv=>by simp at hv⟩ λj s ah he bf=>?_;obtain ⟨o,i⟩:=s;obtain ⟨g1,g2,g3,g4⟩:=bf;simp only at he g1 g2 g3 g4 ⊢;subst he;rw [eA j (by omega)];refine Tot.bp (λaT=>?_) (λdV=>.aq ⟨by show o.length<=_; omega,g2,g3,by
    rw [List.take_of_length_le (by omega)] at g4; exact g4⟩)
   have aT:j<st.eU.length:=by omega
   have gb:=lz aT;have EW:=List.getElem_mem aT;rw [dX aT];generalize st.eU[j]=v at *;simp only [Option.bind_some];refine .aA (Ξ:=λo:List Trans=>o.length<=64 * k+(j+1)/\(∀ t∈o,u0 m t)/\(∀ t∈l,t∈o)/\∀ v∈st.eU.take (j+1),1000<=v.Sym->(⟨k,v.Sym⟩:Trans)∈o) ?_ λo a1=>.aq ⟨aT,rfl,a1⟩;refine .aA (Ξ:=λo:List Trans=>o.length<=64 * k+(j+1)/\(∀ t∈o,u0 m t)/\(∀ t∈l,t∈o)/\∀ v∈st.eU.take (j+1),1000<=v.Sym->(⟨k,v.Sym⟩:Trans)∈o) (Tot.bp (λh=>?_) (λh=>.aq ⟨by omega,g2,g3,λw hw aB=>?_⟩)) λo a1=>.aq a1
   ·refine .aA (Ξ:=λ_=>True) (Tot.ap (by simp [lim]; omega) trivial) λ_ _=>.aq ⟨by simp; omega,λt aw=>?_,λt aw=>List.mem_append_left _ (g3 t aw),λw hw aB=>?_⟩
    ·rcases List.mem_append.1 aw with aw | aw
     ·exact g2 t aw
     ·rw [List.mem_singleton.1 aw];exact ⟨st,v,Xd n',EW,rfl,h⟩
    ·rw [gb,List.mem_append,List.mem_singleton] at hw;rcases hw with hw | rfl
     ·exact List.mem_append_left _ (g4 w hw aB)
     ·simp
   ·rw [gb,List.mem_append,List.mem_singleton] at hw;rcases hw with hw | rfl
    ·exact g4 w hw aB
    ·exact absurd aB h
  ·by_cases e:q=k
   ·subst e;rw [n'] at bF; cases bF;exact hY.2.2.2 v cG eh
   ·exact hY.2.2.1 _ (aI q Qo v (by omega) bF cG eh)
 ·show l.length<=9600;omega
 ·have:=(List.getElem?_eq_some_iff.1 bg).1;omega
theorem Ba (l:List Trans) (a n:Int) (aj:l.length<=9600):Tot (z8 l a n) λr=>-1<=r/\r<l.length/\((⟨a,n⟩:Trans)∈l->0<=r):=by
 unfold z8;refine .aA (Ξ:=hn (λ_=>(⟨a,n⟩:Trans)∉l) (λr:Int=>0<=r/\r<l.length)) ?_ λx J=>?_
 ·refine Tot.upto (λs=>s) l.length (λk _=>(⟨a,n⟩:Trans)∉l.take k) rfl (by omega) (by simp) λk i hk he bf=>?_;subst he;rw [eA k (by omega)];refine Tot.bp (λaT=>?_) (λdV=>.aq (by
   show (⟨a,n⟩:Trans)∉l;rw [List.take_of_length_le (by omega)] at bf; exact bf))
  have aT:k<l.length:=by omega
  have gb:=lz aT;rw [dX aT];generalize l[k]=y at *;simp only [Option.bind_some];refine .aA (Ξ:=λc:Bool=>c=false->y≠⟨a,n⟩) (Tot.bp (λh=>.aq λaR e=>?_) (λh=>.aq λ_ e=>h (by rw [e]))) λc aa=>Tot.bE (λh=>.aq ⟨by show (0:Int)<=k; omega,by show (k:Int)<_; omega⟩) (λh=>.aq ⟨aT,rfl,?_⟩)
  ·have:=of_decide_eq_false aR;exact this (by rw [e])
  ·rw [gb,List.mem_append,List.mem_singleton];exact λaR=>aR.elim bf λe=>aa h e.symm
 ·rcases x with x | x
  ·refine .aq ⟨by omega,by omega,λh=>absurd h J⟩
  ·have J:0<=x/\x<l.length:=J;exact .aq ⟨by omega,J.2,λ_=>J.1⟩
theorem Sh (l:List Item) (aj:l.length<=1000000):Tot (CQ l) λ_=>True:=by
 unfold CQ;refine .aA (Ξ:=λ_=>True) ?_ λx J=>by
  rcases x with x | x
  ·exact .aq trivial
  ·exact .aq trivial
 refine Tot.upto (λs=>s) l.length (λ_ _=>True) rfl (by omega) trivial λk i hk he _=>?_;subst he;rw [eA k (by omega)];refine Tot.bp (λaT=>?_) (λ_=>.aq trivial);have aT:k<l.length:=by omega
 rw [dX aT];simp only [Option.bind_some];refine .aA (Ξ:=λ_=>True) (Tot.bp (λ_=>.aq trivial) (λ_=>.aq trivial)) λc _=>Tot.bE (λ_=>.aq trivial) (λ_=>.aq ⟨aT,rfl,trivial⟩)
theorem Mf (B:List Bool) (l:List Int) (aj:l.length<=1000) (h:∀ s∈l,s<1000\/(1000<=s/\s - 1000<B.length)) (ff:B.length<=1000):Tot (z_ B l) λ_=>True:=by
 unfold z_;refine .aA (Ξ:=λ_=>True) ?_ λx J=>by
  rcases x with x | x
  ·exact .aq trivial
  ·exact .aq trivial
 refine Tot.upto (λs=>s) l.length (λ_ _=>True) rfl (by omega) trivial λk i hk he _=>?_;subst he;rw [eA k (by omega)];refine Tot.bp (λaT=>?_) (λ_=>.aq trivial);have aT:k<l.length:=by omega
 have ax:=h _ (List.getElem_mem aT);rw [dX aT];generalize l[k]=y at *;simp only [Option.bind_some];refine .aA (Ξ:=λ_=>True) (Tot.bp (λ_=>.aq trivial) (λh1=>?_)) λc _=>Tot.bE (λ_=>.aq trivial) (λ_=>.aq ⟨aT,rfl,trivial⟩);have hw:aJ (y - 1000)=y - 1000:=by rw [cA]; omega
 rw [hw];obtain ⟨b,av,_⟩:=oh (l:=B) (i:=y - 1000) (by omega) (by omega);rw [av];exact .aq trivial
theorem PK {g:bN}(aO:gB g) {q:Prod}(bg:q∈g.bh) {B:List Bool}(ff:B.length=g.b0.length):∀ s∈q.eI,s<1000\/(1000<=s/\s - 1000<B.length):=λs aB=>by
 have aw:=aO.kH;have aF:=aO.dy;rcases (aO.hz q bg).right s aB with h | h <;> omega
theorem Me (g:bN) (aO:gB g):Tot (z7 g) λB=>B.length=g.b0.length:=by
 have aw:=aO.kH;have aF:=aO.dy;have au:=aO.h0;unfold z7;refine .aA (Ξ:=λB=>B=List.replicate g.b0.length false) (Tot.mk (by simp [lim]; omega) (by simp)) λZ7 Un=>?_;subst Un;refine .aA (Ξ:=λB:List Bool=>B.length=g.b0.length) ?_ λB ff=>.aq ff;refine Tot.loop (λs=>s.1.length=g.b0.length) (λs=>2 * (g.b0.length - ht s.1)+s.2.toNat) (by simp) (by
  show 2 * (g.b0.length - ht _)+1<1000000000000000000; omega) λs aB=>?_
 obtain ⟨B,f⟩:=s;simp only at aB ⊢;refine Tot.bE (λaW=>?_) (λ_=>.aq aB);subst aW;refine .aA (Ξ:=λr:List Bool × Bool=>r.1.length=g.b0.length/\ht B<=ht r.1/\(r.2=true->ht B<ht r.1)) ?_ λr ao=>?_
 ·refine Tot.upto (λs=>s.2.2) g.bh.length (λ_ s=>s.1.length=g.b0.length/\ht B<=ht s.1/\(s.2.1=true->ht B<ht s.1)) rfl (by omega) ⟨aB,Nat.le_refl _,λh=>by cases h⟩ λk s hk he bf=>?_;obtain ⟨C,f,i⟩:=s;obtain ⟨h1,af,aI⟩:=bf;simp only at he h1 af aI ⊢;subst he;rw [eA k (by omega)];refine Tot.bp (λaT=>?_) (λdV=>.aq ⟨h1,af,aI⟩);have aT:k<g.bh.length:=by omega
  have mZ:=List.getElem_mem aT;rw [dX aT];generalize g.bh[k]=q at *;have bg:=aO.hz q mZ;have Ob:=bg.left;obtain ⟨b,av,_⟩:=oh (l:=C) (i:=q.Left) Ob.1 (by omega);simp only [Option.bind_some,av];refine .aA (Ξ:=λr:List Bool × Bool=>r.1.length=g.b0.length/\ht B<=ht r.1/\(r.2=true->ht B<ht r.1)) ?_ λr ao=>.aq ⟨aT,rfl,ao⟩;refine .aA (Ξ:=λc:Bool=>c=true->b=false) ?_ λc aa=>?_
  ·cases b with
   | true=>exact .aq λh=>by cases h
   | false =>
    refine .aA (Mf C q.eI (by have:=aO.aH q mZ; omega) (PK aO mZ h1) (by omega)) λ_ _=>.aq λ_=>rfl
  ·refine .aA (Ξ:=λr:List Bool × Bool=>r.1.length=g.b0.length/\ht B<=ht r.1/\(r.2=true->ht B<ht r.1)) (Tot.bE (λh=>.aq ?_) (λh=>.aq ⟨h1,af,aI⟩)) λr ao=>.aq ao;have Vn:=aa h;subst Vn;have zv:q.Left.toNat<C.length:=by omega
   have n':C.getD q.Left.toNat false=false:=by
    unfold idx at av;rw [if_pos Ob.1] at av;rw [List.getD_eq_getElem?_getD,av]; rfl
   have:=wW C q.Left.toNat zv n';exact ⟨by rw [List.length_set]; exact h1,by show ht B<=ht (C.set _ _); omega,λ_=>by show ht B<ht (C.set _ _); omega⟩
 ·obtain ⟨h1,af,aI⟩:=ao;refine .aq ⟨h1,?_⟩;have aa:=SN r.1;show 2 * (g.b0.length - ht r.1)+r.2.toNat<2 * (g.b0.length - ht B)+true.toNat;cases iO:r.2 with
  | false=>simp only [Bool.toNat_false,Bool.toNat_true]; omega
  | true =>
   have:=aI iO;simp only [Bool.toNat_true]; omega
structure jq (T:Nat) (r:List Int):Prop where
 a:fR iS r
 i:∀ x∈r,0<=x/\x<T
theorem jq.len {T:Nat}{r:List Int}(h:jq T r):r.length<=T:=by
 have:=zR (m:=(List.range T).map λk:Nat=>(k:Int)) (h.a.nd Fz) λx J=>by
  have:=h.i x J;exact List.mem_map.2 ⟨x.toNat,by rw [List.mem_range]; omega,by omega⟩
 grind
theorem jq.nil {T:Nat}:jq T []:=⟨.nil,λx h=>by cases h⟩
theorem jq.put {T:Nat}(dM:T<=100000) {r:List Int}(h:jq T r) {x:Int}(J:0<=x/\x<T):Tot (pT r x) λdm=>jq T dm/\r.length<=dm.length:=by
 have aj:=h.len;refine (Eb r x h.a (by omega)).use λdm ed=>⟨⟨ed.1,λy ax=>?_⟩,zR (h.a.nd Fz) λy ax=>(ed.2.2 y).2 (.inl ax)⟩;rcases (ed.2.2 y).1 ax with aR | rfl
 ·exact h.i y aR
 grind
def mE (L:List (List Int)) (i:Nat):Nat:=(L.getD i []).length
def jj (L:List (List Int)):Nat:=(L.map List.length).sum
theorem Qx:∀ (L L':List (List Int)),L.length=L'.length->(∀ i,mE L i<=mE L' i)->jj L<=jj L'/\((∃ i,mE L i<mE L' i)->jj L<jj L')
 | [],[],_,_=>⟨Nat.le_refl _,λ⟨i,h⟩=>absurd h (Nat.lt_irrefl _)⟩
 | a::L,b::L',aj,h=>by
  obtain ⟨h1,af⟩:=Qx L L' (by simpa using aj) λi=>by simpa [mE] using h (i+1)
  have aQ:a.length<=b.length:=by simpa [mE] using h 0
  have cy:jj (a::L)=a.length+jj L:=by simp [jj]
  have b9:jj (b::L')=b.length+jj L':=by simp [jj]
  rw [cy,b9];refine ⟨by omega,λ⟨i,hi⟩=>?_⟩;cases i with
  | zero =>
   have:a.length<b.length:=by simpa [mE] using hi
   omega
  | succ i =>
   have:=af ⟨i,by simpa [mE] using hi⟩;omega
def Sets (T:Nat) (L:List (List Int)):Prop:=∀ r∈L,jq T r
theorem Qw {T:Nat}:∀ {L:List (List Int)},Sets T L->jj L<=L.length * T
 | [],_=>by simp [jj]
 | a::L,h=>by
  have h1:=(h a (by simp)).len;have af:=Qw (L:=L) λr ao=>h r (by simp [ao]);have cy:jj (a::L)=a.length+jj L:=by simp [jj]
  rw [cy,List.length_cons,Nat.succ_mul]; omega
structure pd (T:Nat) (L L':List (List Int)):Prop where
 n:L'.length=L.length
 s:Sets T L'
 u:∀ i,mE L i<=mE L' i
theorem pd.refl {T:Nat}{L:List (List Int)}(h:Sets T L):pd T L L:=⟨rfl,h,λ_=>Nat.le_refl _⟩
theorem pd.trans {T:Nat}{A B C:List (List Int)}(h:pd T A B) (aR:pd T B C):pd T A C:=⟨aR.n.trans h.n,aR.s,λi=>Nat.le_trans (h.u i) (aR.u i)⟩
theorem pd.set {T:Nat}{L:List (List Int)}{k:Nat}{r dm:List Int}(aB:Sets T L) (hk:L[k]?=some r) (h:jq T dm) (aj:r.length<=dm.length):pd T L (L.set k dm):=by
 have fv:=(List.getElem?_eq_some_iff.1 hk).1;refine ⟨List.length_set ..,λx J=>?_,λi=>?_⟩
 ·rcases List.mem_or_eq_of_mem_set J with aR | aR
  ·exact aB x aR
  grind
 grind [mE]
theorem Xe {L:List (List Int)}{k:Nat}{r:List Int}(h:L[k]?=some r):mE L k=r.length:=by
 grind [mE]
theorem Xc {α:Type}{l:List α}{i:Int}{y:α}(h:idx l i=some y):l[i.toNat]?=some y:=by
 grind [idx]
theorem Mk (T:Nat) (dM:T<=1000) (a0 aD:List (List Int)) (aF:a0.length<=9600) (he:aD.length=a0.length) (aQ:Sets T a0) (h1:Sets a0.length aD):Tot (An a0 aD) λr=>r.length=a0.length/\Sets T r:=by
 unfold An;refine .aA (Ξ:=λr:List (List Int)=>r.length=a0.length/\Sets T r) ?_ λr ao=>.aq ao;have av:a0.length * T<=9600 * 1000:=Nat.mul_le_mul aF dM;refine Tot.loop (λs=>s.1.length=a0.length/\Sets T s.1) (λs=>2 * (a0.length * T - jj s.1)+s.2.toNat) ⟨rfl,aQ⟩ (by
  show 2 * (a0.length * T - jj _)+1<1000000000000000000;omega) λs aB=>?_
 obtain ⟨L,f⟩:=s;obtain ⟨aj,aB⟩:=aB;simp only at aj aB ⊢;refine Tot.bE (λaW=>?_) (λ_=>.aq ⟨aj,aB⟩);subst aW;refine .aA (Ξ:=λr:List (List Int) × Bool=>pd T L r.1/\(r.2=true->∃ i,mE L i<mE r.1 i)) ?_ λr ao=>?_
 ·refine Tot.upto (λs=>s.2.2) L.length (λ_ s=>pd T L s.1/\(s.2.1=true->∃ i,mE L i<mE s.1 i)) rfl (by omega) ⟨.refl aB,λh=>by cases h⟩ λk s hk h_ bf=>?_;obtain ⟨C,f,i⟩:=s;obtain ⟨hu,sJ⟩:=bf;simp only at h_ hu sJ ⊢;subst h_;rw [eA k (by omega)];have On:=hu.n;refine Tot.bp (λaT=>?_) (λdV=>.aq ⟨hu,sJ⟩);have NX:k<C.length:=by omega
  have hh:k<aD.length:=by omega
  have acG:C[k]?=some C[k]:=List.getElem?_eq_getElem NX;have qp:=h1 _ (List.getElem_mem hh);rw [dX hh,dX NX];generalize aD[k]=row at *;generalize C[k]=nk at *;simp only [Option.bind_some];have l6:=qp.len;refine .aA (Ξ:=λD:List (List Int)=>pd T C D) ?_ λD hq=>?_
  ·refine Tot.upto (λs=>s.2) row.length (λ_ s=>pd T C s.1) rfl (by omega) (.refl hu.s) λj s ah h_ bf=>?_;obtain ⟨D,i⟩:=s;simp only at h_ bf ⊢;subst h_;rw [eA j (by omega)];have Us:=bf.n;refine Tot.bp (λaT=>?_) (λ_=>.aq bf);have aT:j<row.length:=by omega
   have ax:=qp.i _ (List.getElem_mem aT);rw [dX aT];generalize row[j]=y at *;simp only [Option.bind_some];refine .aA (Ξ:=λE:List (List Int)=>pd T C E) ?_ λE lg=>.aq ⟨aT,rfl,lg⟩;refine Tot.count (λs=>s.2) T (λs=>∃ n:Nat,s.2=(n:Int)/\pd T C s.1) ⟨0,rfl,bf⟩ (by show (T:Int) - 0<_; omega) λs aB=>?_;obtain ⟨E,i⟩:=s;obtain ⟨n,EK,lg⟩:=aB;simp only at EK lg ⊢;subst EK;have acr:=lg.n;obtain ⟨z,aX,W'⟩:=oh (l:=E) (i:=y) ax.1 (by omega);have pK:=lg.s z W';have vB:=pK.len;have IG:k<E.length:=by omega
   have VH:E[k]?=some E[k]:=List.getElem?_eq_getElem IG;rw [aX];simp only [Option.bind_some];refine Tot.bp (λaT=>?_) (λ_=>.aq lg);have aT:n<z.length:=by omega
   rw [eA n (by omega),dX IG,dX aT];simp only [Option.bind_some];refine .aA ((lg.s _ (List.getElem_mem IG)).put (by omega) (pK.i _ (List.getElem_mem aT))) λdm ed=>.aq ⟨⟨n+1,rfl,?_⟩,by show (n:Int)<((n+1:Nat):Int); omega,by show ((n+1:Nat):Int)<=T; omega⟩;exact lg.trans (.set lg.s VH ed.1 ed.2)
  ·have Us:=hq.n;have NY:k<D.length:=by omega
   have acH:D[k]?=some D[k]:=List.getElem?_eq_getElem NY;have zD:=hu.trans hq;refine .aA (Ξ:=λc:Bool=>c=true->∃ i,mE L i<mE D i) ?_ λc aa=>.aq ⟨by omega,rfl,zD,aa⟩;refine Tot.bE (λaW=>.aq λ_=>?_) (λ_=>?_)
   ·obtain ⟨i,hi⟩:=sJ aW;exact ⟨i,Nat.lt_of_lt_of_le hi (hq.u i)⟩
   ·rw [dX NY];refine Tot.aV (.aq λh=>⟨k,?_⟩);have aI:=hq.u k;have bF:=hu.u k
    grind [Xe]
 ·obtain ⟨hu,aW⟩:=ao;have B5:=hu.n;obtain ⟨aI,bF⟩:=Qx L r.1 B5.symm hu.u;have cG:=Qw hu.s;rw [show r.1.length=a0.length by omega] at cG;refine .aq ⟨⟨by show r.1.length=_; omega,hu.s⟩,?_⟩;show 2 * (a0.length * T - jj r.1)+r.2.toNat<2 * (a0.length * T - jj L)+true.toNat;cases iO:r.2 with
  | false=>simp only [Bool.toNat_false,Bool.toNat_true]; omega
  | true =>
   grind
theorem mL.sym {g:bN}(aO:gB g) {m:List State}(hm:mL g m) {st:State}(b1:st∈m) {v:Move}(hv:v∈st.eU):0<=v.Sym/\(v.Sym<1000->v.Sym<g.ba.length)/\(1000<=v.Sym->v.Sym - 1000<g.b0.length):=by
 have aw:=aO.kH;rcases Xy.1 (hm.aZ st b1 v hv).s with h | h
 ·exact ⟨h.1,λ_=>h.2,λaR=>by omega⟩
 ·exact ⟨by omega,λaR=>by omega,λ_=>by omega⟩
theorem u0.go {g:bN}{m:List State}(hm:mL g m) {t:Trans}(h:u0 m t):Tot (rm m t.State t.fD) λr=>0<=r/\r<m.length:=by
 obtain ⟨st,v,h1,af,aI,_⟩:=h;exact (Ea m t.State t.fD hm.xP).use λr ao=>ao.yes hm h1 af aI
theorem P' {T:Nat}{L:List (List Int)}{r:List Int}(h:Sets T L) (ao:jq T r):Sets T (L++[r]):=λx J=>by
 rcases List.mem_append.1 J with J | J
 ·exact h x J
 ·rw [List.mem_singleton.1 J]; exact ao
theorem SD (g:bN) (aO:gB g) {m:List State}(hm:mL g m):Tot (Da m) λr=>∃ dD,qD m=some dD/\wB m dD/\r.length=dD.length/\Sets g.ba.length r:=by
 have aw:=aO.kH;obtain ⟨dD,qh,iE⟩:=SG hm;have xn:=iE.n;unfold Da;rw [qh];refine Tot.aV (.aA (Ξ:=λr:List (List Int)=>r.length=dD.length/\Sets g.ba.length r) ?_ λr ao=>.aq ⟨dD,rfl,iE,ao⟩);refine Tot.upto (λs=>s.2) dD.length (λk s=>s.1.length=k/\Sets g.ba.length s.1) rfl (by omega) ⟨rfl,λr h=>by cases h⟩ λk s hk he bf=>?_;obtain ⟨L,i⟩:=s;obtain ⟨h1,af⟩:=bf;simp only at he h1 af ⊢;subst he;rw [eA k (by omega)];refine Tot.bp (λaT=>?_) (λdV=>.aq ⟨by show L.length=_; omega,af⟩);have aT:k<dD.length:=by omega
 have gb:=iE.ok _ (List.getElem_mem aT);rw [dX aT];generalize dD[k]=t at *;simp only [Option.bind_some];refine .aA (gb.go hm) λto B'=>?_;obtain ⟨st,b1,nL⟩:=oh B'.1 B'.2;have di:=hm.qz st nL;have vp:=hm.xP st nL;rw [b1];simp only [Option.bind_some];refine .aA (Sh _ (by have:=di.len aO; omega)) λc _=>?_;refine .aA (Ξ:=jq g.ba.length) (Tot.bE (λ_=>?_) (λ_=>.aq .nil)) λAv zz=>?_
 ·refine .aA (Ξ:=λ_=>True) (Tot.ap (by simp [lim]) trivial) λ_ _=>.aq ⟨List.pairwise_singleton ..,λx J=>?_⟩;rw [List.mem_singleton.1 J]; omega
 refine .aA (Ξ:=jq g.ba.length) ?_ λr ao=>?_
 ·refine Tot.upto (λs=>s.2) st.eU.length (λk s=>jq g.ba.length s.1) rfl (by omega) zz λj s ah he bf=>?_;obtain ⟨r,i⟩:=s;simp only at he bf ⊢;subst he;rw [eA j (by omega)];refine Tot.bp (λaT=>?_) (λ_=>.aq bf);have aT:j<st.eU.length:=by omega
  have hv:=hm.sym aO nL (List.getElem_mem aT);rw [dX aT];generalize st.eU[j]=v at *;simp only [Option.bind_some];refine .aA (Ξ:=jq g.ba.length) ?_ λr ao=>.aq ⟨aT,rfl,ao⟩;refine .aA (Ξ:=jq g.ba.length) (Tot.bp (λh=>?_) (λ_=>.aq bf)) λr ao=>.aq ao;exact .aA (bf.put (by omega) ⟨hv.1,hv.2.1 h⟩) λr ao=>.aq ao.1
 ·refine .aA (Ξ:=λ_=>True) (Tot.ap (by simp [lim]; omega) trivial) λ_ _=>.aq ⟨aT,rfl,by simp; omega,P' af ao⟩
theorem SE (g:bN) (aO:gB g) {m:List State}(hm:mL g m) {dD:List Trans}(qh:qD m=some dD) (iE:wB m dD):Tot (Db g m) λr=>r.length=dD.length/\Sets dD.length r:=by
 have aw:=aO.kH;have kA:=aO.dy;have xn:=iE.n;unfold Db;rw [qh];refine Tot.aV (.aA (Me g aO) λB ff=>.aA (Ξ:=λr:List (List Int)=>r.length=dD.length/\Sets dD.length r) ?_ λr ao=>.aq ao);refine Tot.upto (λs=>s.2) dD.length (λk s=>s.1.length=k/\Sets dD.length s.1) rfl (by omega) ⟨rfl,λr h=>by cases h⟩ λk s hk he bf=>?_;obtain ⟨L,i⟩:=s;obtain ⟨h1,af⟩:=bf;simp only at he h1 af ⊢;subst he;rw [eA k (by omega)];refine Tot.bp (λaT=>?_) (λdV=>.aq ⟨by show L.length=_; omega,af⟩);have aT:k<dD.length:=by omega
 have gb:=iE.ok _ (List.getElem_mem aT);rw [dX aT];generalize dD[k]=t at *;simp only [Option.bind_some];refine .aA (gb.go hm) λto B'=>?_;obtain ⟨st,b1,nL⟩:=oh B'.1 B'.2;have qq:=Xc b1;have vp:=hm.xP st nL;rw [b1];simp only [Option.bind_some];refine .aA (Ξ:=jq dD.length) ?_ λr ao=>?_
 ·refine Tot.upto (λs=>s.2) st.eU.length (λk s=>jq dD.length s.1) rfl (by omega) .nil λj s ah he bf=>?_;obtain ⟨r,i⟩:=s;simp only at he bf ⊢;subst he;rw [eA j (by omega)];refine Tot.bp (λaT=>?_) (λ_=>.aq bf);have aT:j<st.eU.length:=by omega
  have EW:=List.getElem_mem aT;have hv:=hm.sym aO nL EW;rw [dX aT];generalize st.eU[j]=v at *;simp only [Option.bind_some];refine .aA (Ξ:=jq dD.length) ?_ λr ao=>.aq ⟨aT,rfl,ao⟩;refine .aA (Ξ:=λc:Bool=>c=true->1000<=v.Sym) (Tot.bp (λh=>?_) (λ_=>.aq λh=>by cases h)) λc aa=>?_
  ·have hw:aJ (v.Sym - 1000)=v.Sym - 1000:=by
    have:=hv.2.2 h;rw [cA]; omega
   rw [hw];obtain ⟨b,av,_⟩:=oh (l:=B) (i:=v.Sym - 1000) (by omega) (by have:=hv.2.2 h; omega);rw [av];exact Tot.aV (.aq λ_=>h)
  ·refine .aA (Ξ:=jq dD.length) (Tot.bE (λh=>?_) (λ_=>.aq bf)) λr ao=>.aq ao;have vm:=iE.fF to.toNat st v qq EW (aa h);rw [show ((to.toNat:Nat):Int)=to by omega] at vm;refine .aA (Ba dD to v.Sym xn) λz aX=>?_;exact .aA (bf.put (by omega) ⟨aX.2.2 vm,aX.2.1⟩) λr ao=>.aq ao.1
 ·refine .aA (Ξ:=λ_=>True) (Tot.ap (by simp [lim]; omega) trivial) λ_ _=>.aq ⟨aT,rfl,by simp; omega,P' af ao⟩
theorem SF (g:bN) (aO:gB g) {m:List State}(hm:mL g m) {dD:List Trans}(qh:qD m=some dD) (iE:wB m dD):Tot (Dc g m) λr=>r.length=dD.length/\Sets dD.length r:=by
 have aw:=aO.kH;have kA:=aO.dy;have uf:=aO.h0;have xn:=iE.n;unfold Dc;rw [qh];refine Tot.aV (.aA (Me g aO) λB ff=>.aA (Ξ:=λr=>r=List.replicate dD.length ([]:List Int)) (Tot.mk (by simp [lim]; omega) (by simp)) λZ9 UD=>.aA (Ξ:=λr:List (List Int)=>r.length=dD.length/\Sets dD.length r) ?_ λr ao=>.aq ao);subst UD;have Z6:∀ {L:List (List Int)},(L.length=dD.length/\Sets dD.length L)->∀ {z:Int}{r dm:List Int},idx L z=some r->jq dD.length dm->(L.set z.toNat dm).length=dD.length/\Sets dD.length (L.set z.toNat dm):=λ{L} h8 {z r dm} _ ed=>⟨by rw [List.length_set]; exact h8.1,λx J=>by
  rcases List.mem_or_eq_of_mem_set J with aR | aR
  ·exact h8.2 x aR
  ·rw [aR]; exact ed⟩
 refine Tot.upto (λs=>s.2) dD.length (λk s=>s.1.length=dD.length/\Sets dD.length s.1) rfl (by omega) ⟨by simp,λr h=>by rw [List.eq_of_mem_replicate h]; exact .nil⟩ λk s hk he bf=>?_;obtain ⟨L,i⟩:=s;simp only at he bf ⊢;subst he;rw [eA k (by omega)];refine Tot.bp (λaT=>?_) (λdV=>.aq bf);have aT:k<dD.length:=by omega
 have gb:=iE.ok _ (List.getElem_mem aT);rw [dX aT];generalize dD[k]=t at *;simp only [Option.bind_some];refine .aA (Ξ:=λr:List (List Int)=>r.length=dD.length/\Sets dD.length r) ?_ λr ao=>.aq ⟨aT,rfl,ao⟩;refine Tot.upto (λs=>s.2) g.bh.length (λk s=>s.1.length=dD.length/\Sets dD.length s.1) rfl (by omega) bf λp s au he bf=>?_;obtain ⟨L,i⟩:=s;simp only at he bf ⊢;subst he;rw [eA p (by omega)];refine Tot.bp (λEJ=>?_) (λdV=>.aq bf);have EJ:p<g.bh.length:=by omega
 have mZ:=List.getElem_mem EJ;rw [dX EJ];generalize g.bh[p]=q at *;have bg:=aO.hz q mZ;have B5:=aO.aH q mZ;have kV:=PK aO mZ ff;simp only [Option.bind_some];refine .aA (Ξ:=λr:List (List Int)=>r.length=dD.length/\Sets dD.length r) ?_ λr ao=>.aq ⟨EJ,rfl,ao⟩;refine Tot.bE (λ_=>.aq bf) (λ_=>.aA (Ξ:=λr:List (List Int)=>r.length=dD.length/\Sets dD.length r) ?_ λr ao=>.aq ao);refine Tot.upto (λs=>s.2) q.eI.length (λk s=>s.1.length=dD.length/\Sets dD.length s.1) rfl (by omega) bf λj s ah he bf=>?_;obtain ⟨L,i⟩:=s;simp only at he bf ⊢;subst he;rw [eA j (by omega)];refine Tot.bp (λeE=>?_) (λdV=>.aq bf);have eE:j<q.eI.length:=by omega
 rw [dX eE];generalize q.eI[j]=y at *;simp only [Option.bind_some];refine .aA (Ξ:=λr:List (List Int)=>r.length=dD.length/\Sets dD.length r) ?_ λr ao=>.aq ⟨eE,rfl,ao⟩;refine .aA (Ξ:=λ_=>True) (Tot.bp (λ_=>.aq trivial) (λ_=>?_)) λc _=>Tot.bE (λ_=>.aq bf) (λ_=>?_)
 ·refine .aA (Ξ:=λr=>r=q.eI.drop (j+1)) (Tot.sub ⟨by omega,by omega,by omega⟩ ?_) λr ao=>?_
  ·rw [List.take_of_length_le]
   ·congr 1
   ·rw [List.length_drop]; omega
  ·subst ao;exact .aA (Mf B _ (by rw [List.length_drop]; omega) (λs aB=>kV s (List.mem_of_mem_drop aB)) (by omega)) λ_ _=>.aq trivial
 refine .aA (Ξ:=λr=>r.length<=8) (Tot.sub ⟨by omega,by omega,by omega⟩ (by rw [List.length_take,List.length_drop]; omega)) λr ao=>?_;obtain ⟨st,_,b1,_⟩:=gb;have I4:=nb b1;refine .aA (Ml hm t.State r ⟨by omega,I4.2.1⟩ (by omega)) λz aX=>?_;refine .aA (Ξ:=λr:List (List Int)=>r.length=dD.length/\Sets dD.length r) (Tot.bE (λ_=>?_) (λ_=>.aq bf)) λr ao=>.aq ao;refine .aA (Ba dD z y xn) λn aF=>?_;refine .aA (Ξ:=λr:List (List Int)=>r.length=dD.length/\Sets dD.length r) (Tot.bp (λaQ=>?_) (λ_=>.aq bf)) λr ao=>.aq ao;obtain ⟨Av,zz,zB⟩:=oh (l:=L) aQ (by rw [bf.1]; exact aF.2.1);rw [zz];refine Tot.aV (.aA ((bf.2 Av zB).put (by omega) ⟨by omega,by omega⟩) λdm ed=>.aq (Z6 bf zz ed.1))
theorem Sv (g:bN) (aO:gB g) {m:List State}(hm:mL g m):Tot (Al g m) λr=>∃ dD,qD m=some dD/\wB m dD/\r.length=dD.length/\Sets g.ba.length r:=by
 have aw:=aO.kH;unfold Al;refine .aA (SD g aO hm) λv' h1=>?_;obtain ⟨dD,qh,iE,IL,xm⟩:=h1;have xn:=iE.n;refine .aA (SE g aO hm qh iE) λlx af=>.aA (Mk g.ba.length (by omega) v' lx (by omega) (by omega) xm (by rw [IL]; exact af.2)) λAw aI=>?_;refine .aA (SF g aO hm qh iE) λyd bF=>.aA (Mk g.ba.length (by omega) Aw yd (by omega) (by omega) aI.2 (by rw [aI.1,IL]; exact bF.2)) λDj cG=>?_;exact .aq ⟨dD,qh,iE,by omega,cG.2⟩
def qW (g:bN) (p:Int):Prop:=0<p/\p<g.bh.length
theorem Bc (g:bN) (aO:gB g) (K:List Item) (aj:K.length<=1000000):Tot (C5 g K) λr=>r.length<=540/\∀ p∈r,qW g p:=by
 unfold C5;refine .aA (Hk g aO K aj) λc aa=>?_;have gX:=tA aO aa.1 λx J=>((aa.2 x).1 J).jf;refine .aA (Ξ:=λr:List Int=>r.length<=540/\∀ p∈r,qW g p) ?_ λr ao=>.aq ao;refine Tot.upto (λs=>s.2) c.length (λk s=>s.1.length<=k/\∀ p∈s.1,qW g p) rfl (by omega) ⟨Nat.le_refl 0,λp h=>by cases h⟩ λk s hk he bf=>?_;obtain ⟨L,i⟩:=s;obtain ⟨h1,af⟩:=bf;simp only at he h1 af ⊢;subst he;rw [eA k (by omega)];refine Tot.bp (λaT=>?_) (λdV=>.aq ⟨by show L.length<=_; omega,af⟩);have aT:k<c.length:=by omega
 have hi:=((aa.2 _).1 (List.getElem_mem aT)).jf;rw [dX aT];generalize c[k]=x at *;obtain ⟨q,bg,aI,bF⟩:=hi;simp only [Option.bind_some];refine .aA (Ξ:=λL:List Int=>L.length<=k+1/\∀ p∈L,qW g p) ?_ λr ao=>.aq ⟨aT,rfl,ao⟩;refine .aA (Ξ:=λc:Bool=>c=true->0<x.Prod) (Tot.bp (λh=>?_) (λ_=>.aq λh=>by cases h)) λc aa=>?_
 ·rw [bg]; exact Tot.aV (.aq λ_=>h)
 refine .aA (Ξ:=λL:List Int=>L.length<=k+1/\∀ p∈L,qW g p) (Tot.bE (λh=>?_) (λ_=>.aq ⟨by omega,af⟩)) λr ao=>.aq ao;refine .aA (Ξ:=λ_=>True) (Tot.ap (by simp [lim]; omega) trivial) λ_ _=>.aq ⟨by simp; omega,λp au=>?_⟩;rcases List.mem_append.1 au with au | au
 ·exact af p au
 ·rw [List.mem_singleton.1 au]; exact ⟨aa h,(nb bg).2.1⟩
theorem Sw (g:bN) (aO:gB g) {m:List State}(hm:mL g m) {dD:List Trans}(qh:qD m=some dD) (iE:wB m dD) (q p:Int):Tot (C6 g m q p) λr=>r.length<=9600/\∀ x∈r,0<=x/\x<dD.length:=by
 have xn:=iE.n;have uf:=aO.h0;have kA:=aO.dy;unfold C6;refine .aA (Ξ:=λc:Bool=>c=false->0<=p/\p<g.bh.length) (Tot.bp (λ_=>.aq λh=>by cases h) (λ_=>Tot.bp (λ_=>.aq λh=>by cases h) (λ_=>Tot.bp (λ_=>.aq λh=>by cases h) (λh=>.aq λaR=>by have:=of_decide_eq_false aR; omega)))) λc aa=>Tot.bE (λ_=>.aq ⟨Nat.zero_le _,λx h=>by cases h⟩) (λh=>?_);obtain ⟨aQ,h1⟩:=aa h;rw [qh];refine Tot.aV ?_;refine .aA (Ξ:=λr:List Int=>r.length<=9600/\∀ x∈r,0<=x/\x<dD.length) ?_ λr ao=>.aq ao;obtain ⟨hz,EP,V_⟩:=oh aQ h1;have B5:=aO.aH hz V_;refine Tot.upto (λs=>s.2) dD.length (λk s=>s.1.length<=k/\∀ x∈s.1,0<=x/\x<dD.length) rfl (by omega) ⟨Nat.le_refl 0,λp h=>by cases h⟩ λk s hk he bf=>?_;obtain ⟨L,i⟩:=s;obtain ⟨af,aI⟩:=bf;simp only at he af aI ⊢;subst he;rw [eA k (by omega)];refine Tot.bp (λaT=>?_) (λdV=>.aq ⟨by show L.length<=_; omega,aI⟩);have aT:k<dD.length:=by omega
 have gb:=iE.ok _ (List.getElem_mem aT);rw [dX aT,EP];generalize dD[k]=t at *;obtain ⟨st,_,b1,_⟩:=gb;have I4:=nb b1;simp only [Option.bind_some];refine .aA (Ξ:=λL:List Int=>L.length<=k+1/\∀ x∈L,0<=x/\x<dD.length) ?_ λr ao=>.aq ⟨aT,rfl,ao⟩;refine .aA (Ξ:=λ_=>True) (Tot.bp (λh=>?_) (λ_=>.aq trivial)) λc aa=>?_
 ·exact .aA (Ml hm t.State hz.eI ⟨by omega,I4.2.1⟩ (by omega)) λ_ _=>.aq trivial
 refine .aA (Ξ:=λL:List Int=>L.length<=k+1/\∀ x∈L,0<=x/\x<dD.length) (Tot.bE (λh=>?_) (λ_=>.aq ⟨by omega,aI⟩)) λr ao=>.aq ao;refine .aA (Ξ:=λ_=>True) (Tot.ap (by simp [lim]; omega) trivial) λ_ _=>.aq ⟨by simp; omega,λp au=>?_⟩;rcases List.mem_append.1 au with au | au
 ·exact aI p au
 ·rw [List.mem_singleton.1 au]; exact ⟨by omega,by omega⟩
structure yS (g:bN) (l:k9):Prop where
 p:qW g l.Prod
 t:jq g.ba.length l.ba
theorem Sp (g:bN) (aO:gB g) {m:List State}(hm:mL g m):Tot (C2 g m) λr=>r.length<=81000/\∀ l∈r,yS g l:=by
 have aw:=aO.kH;have xi:=hm.nj;unfold C2;refine .aA (Sv g aO hm) λF aN=>?_;obtain ⟨dD,qh,iE,acs,jN⟩:=aN;have xn:=iE.n;refine .aA (Ξ:=λr:List k9=>r.length<=81000/\∀ l∈r,yS g l) ?_ λr ao=>.aq ao;refine Tot.upto (λs=>s.2) m.length (λk s=>s.1.length<=540 * k/\∀ l∈s.1,yS g l) rfl (by omega) ⟨Nat.le_refl 0,λp h=>by cases h⟩ λk s hk he bf=>?_;obtain ⟨L,i⟩:=s;obtain ⟨h1,af⟩:=bf;simp only at he h1 af ⊢;subst he;rw [eA k (by omega)];refine Tot.bp (λaT=>?_) (λdV=>.aq ⟨by show L.length<=_; omega,af⟩);have aT:k<m.length:=by omega
 have di:=hm.qz _ (List.getElem_mem aT);rw [dX aT];generalize m[k]=st at *;refine Tot.aV (.aA (Bc g aO st.Kernel (by have:=di.len aO; omega)) λE lg=>?_);obtain ⟨acq,Uu⟩:=lg;refine .aA (Ξ:=λL:List k9=>L.length<=540 * (k+1)/\∀ l∈L,yS g l) ?_ λr ao=>.aq ⟨aT,rfl,ao⟩;refine Tot.upto (λs=>s.2) E.length (λj s=>s.1.length<=540 * k+j/\∀ l∈s.1,yS g l) rfl (by omega) ⟨h1,af⟩ λj s ah he bf=>?_;obtain ⟨L,i⟩:=s;obtain ⟨h1,af⟩:=bf;simp only at he h1 af ⊢;subst he;rw [eA j (by omega)];refine Tot.bp (λeE=>?_) (λdV=>.aq ⟨by show L.length<=_; omega,af⟩);have eE:j<E.length:=by omega
 have au:=Uu _ (List.getElem_mem eE);rw [dX eE];generalize E[j]=p at *;simp only [Option.bind_some];refine .aA (Sw g aO hm qh iE k p) λB ff=>?_;obtain ⟨acn,Uq⟩:=ff;refine .aA (Ξ:=jq g.ba.length) ?_ λS bj=>?_
 ·refine Tot.upto (λs=>s.2) B.length (λ_ s=>jq g.ba.length s.1) rfl (by omega) .nil λb s av he bf=>?_;obtain ⟨S,i⟩:=s;simp only at he bf ⊢;subst he;rw [eA b (by omega)];refine Tot.bp (λzw=>?_) (λdV=>.aq bf);have zw:b<B.length:=by omega
  have J:=Uq _ (List.getElem_mem zw);rw [dX zw];generalize B[b]=x at *;obtain ⟨row,qp,zB⟩:=oh (l:=F) J.1 (by omega);have l7:=jN row zB;have l6:=l7.len;simp only [Option.bind_some,qp];refine .aA (Ξ:=jq g.ba.length) ?_ λS bj=>.aq ⟨zw,rfl,bj⟩;refine Tot.upto (λs=>s.2) row.length (λ_ s=>jq g.ba.length s.1) rfl (by omega) bf λz s aX he bf=>?_;obtain ⟨S,i⟩:=s;simp only at he bf ⊢;subst he;rw [eA z (by omega)];refine Tot.bp (λqn=>?_) (λdV=>.aq bf);have qn:z<row.length:=by omega
  rw [dX qn];exact Tot.aV (.aA (bf.put (by omega) (l7.i _ (List.getElem_mem qn))) λr ao=>.aq ⟨qn,rfl,ao.1⟩)
 ·refine .aA (Ξ:=λ_=>True) (Tot.ap (by simp [lim]; omega) trivial) λ_ _=>.aq ⟨eE,rfl,by simp; omega,λl aj=>?_⟩;rcases List.mem_append.1 aj with aj | aj
  ·exact af l aj
  ·rw [List.mem_singleton.1 aj]; exact ⟨au,bj⟩
def ot (c:Cell):Nat:=c.bh.length+(if 0<=c.j8 then 1 else 0)+(if c.lX then 1 else 0)
theorem Zz {x:Option Int}{c:Cell}(aj:c.bh.length<=1000) (e:x=(((bif decide (0<=c.j8) then
some (aJ ((c.bh.length:Int)+1))
else
some (c.bh.length:Int))).bind λjv =>
((bif c.lX then
some (aJ (jv+1))
else
some jv)).bind λiv =>
some iv)):x=some (ot c:Int):=by
 subst e;have hw:aJ ((c.bh.length:Int)+1)=(c.bh.length:Int)+1:=by rw [cA]; omega
 have WE:aJ ((c.bh.length:Int)+1+1)=(c.bh.length:Int)+1+1:=by rw [cA]; omega
 unfold ot;by_cases h:0<=c.j8
 ·cases af:c.lX <;> simp [h,hw,WE]
 ·cases af:c.lX <;> simp [h,hw]
theorem MA (c:Cell) (aj:c.bh.length<=1000):Ah c=some (ot c:Int):=Zz aj (by unfold Ah; rfl)
structure o9 (g:bN) (n:Nat) (c:Cell):Prop where
 s:0<=c.State/\c.State<n
 t:0<=c.bW/\c.bW<g.ba.length
 f:-1<=c.j8/\c.j8<n
 p:fR iS c.bh
 q:∀ p∈c.bh,qW g p
 Zv:0<ot c
theorem o9.len {g:bN}(aO:gB g) {n:Nat}{c:Cell}(h:o9 g n c):c.bh.length<=60:=by
 have:=aO.h0;have:=jq.len (T:=g.bh.length) ⟨h.p,λx J=>⟨by have:=(h.q x J).1; omega,(h.q x J).2⟩⟩;omega
def yG (a b:Cell):Prop:=a.State<b.State\/(a.State=b.State/\a.bW<b.bW)
structure AR (g:bN) (n:Nat) (l:List Cell):Prop where
 ok:∀ c∈l,o9 g n c
 adn:l.Pairwise yG
 n:l.length<=6000
theorem Bb (g:bN) (aO:gB g) {m:List State}(hm:mL g m) (qA:List k9) (aj:qA.length<=81000) (hk:∀ l∈qA,yS g l):Tot (C1 g m qA) (AR g m.length):=by
 have aw:=aO.kH;have xi:=hm.nj;have uf:=aO.h0;unfold C1;refine .aA (Ξ:=AR g m.length) ?_ λr ao=>.aq ao;refine Tot.upto (λs=>s.2) m.length (λk s=>s.1.length<=40 * k/\(∀ c∈s.1,o9 g m.length c)/\s.1.Pairwise yG/\∀ c∈s.1,c.State<k) rfl (by omega) ⟨Nat.le_refl 0,λp h=>(by cases h),.nil,λp h=>by cases h⟩ λk s vn he bf=>?_;obtain ⟨L,i⟩:=s;obtain ⟨h1,af,aI,bF⟩:=bf;simp only at he h1 af aI bF ⊢;subst he;rw [eA k (by omega)];refine Tot.bp (λaT=>?_) (λdV=>.aq ⟨af,aI,by show L.length<=_; omega⟩);have aT:k<m.length:=by omega
 have di:=hm.qz _ (List.getElem_mem aT);rw [dX aT];generalize m[k]=st at *;have acw:=di.len aO;refine .aA (Ξ:=λL:List Cell=>L.length<=40 * (k+1)/\(∀ c∈L,o9 g m.length c)/\L.Pairwise yG/\∀ c∈L,c.State<(k+1:Nat)) ?_ λr ao=>.aq ⟨aT,rfl,ao⟩;refine Tot.upto (λs=>s.2) g.ba.length (λj s=>s.1.length<=40 * k+j/\(∀ c∈s.1,o9 g m.length c)/\s.1.Pairwise yG/\∀ c∈s.1,c.State<k\/(c.State=k/\c.bW<j)) rfl (by omega) ⟨h1,af,aI,λc aa=>.inl (bF c aa)⟩ λj s ah he bf=>?_;obtain ⟨L,i⟩:=s;obtain ⟨h1,af,aI,bF⟩:=bf;simp only at he h1 af aI bF ⊢;subst he;rw [eA j (by omega)];refine Tot.bp (λeE=>?_) (λdV=>.aq ⟨by show L.length<=_; omega,af,aI,λc aa=>by rcases bF c aa with h | h <;> omega⟩);refine .aA (Ξ:=λL:List Cell=>L.length<=40 * k+(j+1)/\(∀ c∈L,o9 g m.length c)/\L.Pairwise yG/\∀ c∈L,c.State<k\/(c.State=k/\c.bW<(j+1:Nat))) ?_ λr ao=>.aq ⟨by omega,rfl,ao⟩;refine .aA (Ea m k j hm.xP) λeP Wm=>?_;have Wn:=Wm.aM hm;refine .aA (Ξ:=λ_=>True) ?_ λac _=>?_
 ·refine Tot.upto (λs=>s.2) st.Kernel.length (λ_ _=>True) rfl (by omega) trivial λz s aX he _=>?_;obtain ⟨b,i⟩:=s;simp only at he ⊢;subst he;rw [eA z (by omega)];simp only [Option.bind_some];refine Tot.bp (λqn=>?_) (λ_=>.aq trivial);have qn:z<st.Kernel.length:=by omega
  rw [dX qn];simp only [Option.bind_some];refine .aA (Ξ:=λ_=>True) (Tot.bE (λ_=>.aq trivial) (λ_=>Tot.bp (λ_=>Tot.bp (λ_=>.aq trivial) (λ_=>.aq trivial)) (λ_=>.aq trivial))) λ_ _=>.aq ⟨qn,rfl,trivial⟩
 refine .aA (Ξ:=λP:List Int=>fR iS P/\∀ p∈P,qW g p) ?_ λP cn=>?_
 ·refine Tot.upto (λs=>s.2) qA.length (λ_ s=>fR iS s.1/\∀ p∈s.1,qW g p) rfl (by omega) ⟨.nil,λp h=>by cases h⟩ λz s aX he bf=>?_;obtain ⟨P,i⟩:=s;obtain ⟨g1,g2⟩:=bf;simp only at he g1 g2 ⊢;subst he;rw [eA z (by omega)];refine Tot.bp (λqn=>?_) (λdV=>.aq ⟨g1,g2⟩);have qn:z<qA.length:=by omega
  have h8:=hk _ (List.getElem_mem qn);rw [dX qn];generalize qA[z]=l at *;have Wt:=h8.t.len;have UL:=jq.len (T:=g.bh.length) ⟨g1,λx J=>⟨by have:=(g2 x J).1; omega,(g2 x J).2⟩⟩;simp only [Option.bind_some];refine .aA (Ξ:=λP:List Int=>fR iS P/\∀ p∈P,qW g p) ?_ λr ao=>.aq ⟨qn,rfl,ao⟩;refine .aA (Ξ:=λ_=>True) (Tot.bp (λ_=>.aA (Mh l.ba j (by omega)) λ_ _=>.aq trivial) (λ_=>.aq trivial)) λc _=>?_;refine .aA (Ξ:=λP:List Int=>fR iS P/\∀ p∈P,qW g p) (Tot.bE (λ_=>?_) (λ_=>.aq ⟨g1,g2⟩)) λr ao=>.aq ao;refine .aA (Eb P l.Prod g1 (by omega)) λr ao=>.aq ⟨ao.1,λp au=>?_⟩;rcases (ao.2.2 p).1 au with h | rfl
  ·exact g2 p h
  ·exact h8.p
 ·have UL:=jq.len (T:=g.bh.length) ⟨cn.1,λx J=>⟨by have:=(cn.2 x J).1; omega,(cn.2 x J).2⟩⟩;rw [MA _ (by show P.length<=_; omega)];refine Tot.aV (.aA (Ξ:=λL:List Cell=>L.length<=40 * k+(j+1)/\(∀ c∈L,o9 g m.length c)/\L.Pairwise yG/\∀ c∈L,c.State<k\/(c.State=k/\c.bW<(j+1:Nat))) (Tot.bp (λaQ=>?_) (λ_=>.aq ⟨by omega,af,aI,λc aa=>by rcases bF c aa with h | h <;> omega⟩)) λr ao=>.aq ao);refine .aA (Ξ:=λ_=>True) (Tot.ap (by simp [lim]; omega) trivial) λ_ _=>.aq ⟨by simp; omega,λc aa=>?_,List.pairwise_append.2 ⟨aI,List.pairwise_singleton ..,λa aP b av=>?_⟩,λc aa=>?_⟩
  ·rcases List.mem_append.1 aa with aa | aa
   ·exact af c aa
   ·rw [List.mem_singleton.1 aa];exact ⟨⟨by show (0:Int)<=k; omega,by show (k:Int)<_; omega⟩,⟨by show (0:Int)<=j; omega,by show (j:Int)<_; omega⟩,Wn,cn.1,cn.2,by omega⟩
  ·rw [List.mem_singleton.1 av];rcases bF a aP with h | h
   ·exact .inl h
   ·exact .inr h
  ·rcases List.mem_append.1 aa with aa | aa
   ·rcases bF c aa with h | h
    ·exact .inl h
    ·exact .inr ⟨h.1,by omega⟩
   ·rw [List.mem_singleton.1 aa];exact .inr ⟨rfl,by show (j:Int)<_; omega⟩
open Go Go.Own
theorem iJ.Xz {m:fK}{T L:Nat}(h:iJ m T L):k_ m (3+T) m.cb.length 0 0 :=
 ⟨h.gF,h.lo,h.hi,by have:=h.ty; omega,rfl,by rw [h.hC]; decide,by rw [h.hz]; exact Nat.le_refl 0,by rw [h.hz]; exact λp au=>absurd au (by simp),h.lvl,h.jz⟩
theorem t77 (s:Source) (av:rK s):Tot (v_ s) λr=>r.2.1=0->gB r.1:=by
 unfold v_;refine .aA (t103 s av) λc aa=>Tot.bE (λ_=>.aq λh=>absurd h (by decide)) (λil=>?_);have ok:LC s:=aa (by simpa using il);refine .aA (Tot.mk (by decide) (rfl:List.replicate (3:Int).toNat false=List.replicate (3:Int).toNat false)) λa7 jX=>?_;have Vz:=av.zg;have B5:=av.aH
 -- declarations
 refine Tot.aA (Ξ:=λr=>iJ r.1 (1001 * 1000) 0) ?_ λbS cG=>?_
 ·refine Tot.count (λz=>z.2.2) s.Decls.length (λz=>0<=z.2.2/\z.2.2<=s.Decls.length/\iJ z.1 (1001 * z.2.2.toNat) 0/\z.1.cr<=z.2.2) ⟨Int.le_refl 0,by show (0:Int)<=_; omega,⟨by show a7.length=3; rw [<- jX]; rfl,Nat.le_refl 3,Nat.le_refl 3,Nat.le_refl 0,Nat.le_refl 0,rfl,rfl,Int.le_refl 0,by show ∀ t∈[_,_,_],0<=bW.Level t; simp⟩,Int.le_refl 0⟩ (by show (s.Decls.length:Int) - 0<_; omega) λz aX=>?_;obtain ⟨m,st,i⟩:=z;obtain ⟨aQ,h1,hm,pB⟩:=aX;simp only at aQ h1 hm pB ⊢;have hw:aJ (i+1)=i+1:=by rw [cA]; omega
  rw [hw];have IK:=hm.lvl;refine Tot.bp (λaT=>?_) (λ_=>.aq (hm.mono (by omega) (Nat.le_refl _)));refine .aA (Tot.hr (Φ:=λy=>y∈s.Decls) aQ aT λy _ ax=>ax) λd aS=>?_;have hq:=av.decls d aS;have zr:=hq.n;refine .aA (Ξ:=λ_=>True) (Tot.bE (λ_=>.aq trivial) (λ_=>.aq trivial)) λik _=>.aA (Ξ:=λj=>0<=j/\j<=i+1) (Tot.bE (λ_=>.aq (by rw [cA]; omega)) (λ_=>.aq (by omega))) λjw zk=>?_;refine Tot.aA (Ξ:=λr=>iJ r.1 (1001 * i.toNat+1000) 0/\r.1.cr<=i+1) ?_ λeu sE=>.aq ⟨⟨?_,?_,?_,?_⟩,?_,?_⟩
  ·refine Tot.count (λz=>z.2.2) d.eJ.length (λz=>0<=z.2.2/\z.2.2<=d.eJ.length/\iJ z.1 (1001 * i.toNat+z.2.2.toNat) 0/\z.1.cr<=i+1) ⟨Int.le_refl 0,by show (0:Int)<=_; omega,⟨hm.gF,hm.lo,hm.hi,hm.ty,hm.fw,hm.hz,hm.hC,zk.1,hm.jz⟩,zk.2⟩ (by show (d.eJ.length:Int) - 0<_; omega) λz aX=>?_;obtain ⟨m,st,k⟩:=z;obtain ⟨g0,g1,hm,pB⟩:=aX;simp only at g0 g1 hm pB ⊢;have qs:aJ (k+1)=k+1:=by rw [cA]; omega
   rw [qs];refine Tot.bp (λq'=>?_) (λ_=>.aq ⟨hm.mono (by omega) (Nat.le_refl _),pB⟩);have E_:Tot (idx d.eJ k) λy=>y∈d.eJ:=Tot.hr g0 q' λy _ ax=>ax;refine Tot.aA (Ξ:=λj=>iJ j.1 (1001 * i.toNat+k.toNat+1) 0/\j.1.cr<=i+1) ?_ λj ah=>.aq ⟨⟨?_,?_,?_,ah.2⟩,?_,?_⟩
   ·refine Tot.bE (λ_=>?_) (λ_=>?_)
    ·refine .aA E_ λx J=>.aA (t104 m d x hm.gF (by have:=hm.hi; omega) (by have:=hm.ty; omega) (ok.decls d aS x J)) λm' aO=>.aq ⟨hm.grow aO,by show m'.cr<=_; rw [aO.lvl]; exact pB⟩
    ·refine Tot.aA (Ξ:=λj=>iJ j (1001 * i.toNat+k.toNat+1) 0/\j.cr<=i+1) ?_ λj ah=>.aA E_ λ_ _=>.aq ah;refine Tot.bE (λ_=>?_) (λ_=>.aq ⟨hm.mono (by omega) (Nat.le_refl _),pB⟩);exact .aA E_ λ_ _=>.aA E_ λ_ _=>.aA (t105 m _ _) λm' im=>.aq ⟨(hm.same im.1).mono (by omega) (Nat.le_refl _),by rw [im.1.jz]; exact pB⟩
   ·show 0<=k+1; omega
   ·show k+1<=(d.eJ.length:Int); omega
   ·show iJ j.1 (1001 * i.toNat+(k+1).toNat) 0;exact ah.1.mono (by omega) (Nat.le_refl _)
   ·show k<k+1; omega
   ·show k+1<=(d.eJ.length:Int); omega
  ·show 0<=i+1; omega
  ·show i+1<=(s.Decls.length:Int); omega
  ·show iJ eu.1 (1001 * (i+1).toNat) 0;exact sE.1.mono (by omega) (Nat.le_refl _)
  ·exact sE.2
  ·show i<i+1; omega
  ·show i+1<=(s.Decls.length:Int); omega
 -- what stands on the left
 refine Tot.aA (Ξ:=λr=>iJ r (1001 * 1000) 1000) ?_ λcW HS=>?_
 ·refine Tot.count (λz=>z.2) s.dG.length (λz=>0<=z.2/\z.2<=s.dG.length/\iJ z.1 (1001 * 1000) z.2.toNat) ⟨Int.le_refl 0,by show (0:Int)<=_; omega,cG⟩ (by show (s.dG.length:Int) - 0<_; omega) λz aX=>?_;obtain ⟨m,i⟩:=z;obtain ⟨aQ,h1,hm⟩:=aX;simp only at aQ h1 hm ⊢;have hw:aJ (i+1)=i+1:=by rw [cA]; omega
  rw [hw];refine Tot.bp (λaT=>?_) (λ_=>.aq (hm.mono (Nat.le_refl _) (by omega)));have vl:=hm.hi;have vo:=hm.fw;refine Tot.aA (Ξ:=λj=>iJ j (1001 * 1000) (i.toNat+1)) ?_ λj ah=>.aq ⟨⟨?_,?_,?_⟩,?_,?_⟩
  ·refine .aA (Tot.hr (Φ:=λ_=>True) aQ aT λy _ ax=>trivial) λr ao=>.aA (t106 m _ (by simp only [dL]; omega)) λt _=>?_;refine Tot.aA (Ξ:=λj=>iJ j (1001 * 1000) i.toNat) ?_ λiQ po=>?_
   ·exact Tot.bE (λ_=>.aA (t105 m _ _) λm' im=>.aq (hm.same im.1)) (λ_=>.aq hm)
   ·have acW:=po.fw;refine .aA (t107 iQ _ (by simp only [dL]; omega)) λk _=>?_;refine Tot.aA (Ξ:=λl=>l.length<=i.toNat+1) ?_ λl aj=>.aq ⟨po.gF,po.lo,po.hi,po.ty,aj,po.hz,po.hC,po.lvl,po.jz⟩;refine Tot.bE (λ_=>?_) (λ_=>.aq (by omega));exact .aA (Ξ:=λ_=>True) (Tot.ap (by simp [lim]; omega) trivial) λ_ _=>.aq (by simp; omega)
  ·show 0<=i+1; omega
  ·show i+1<=(s.dG.length:Int); omega
  ·show iJ j (1001 * 1000) (i+1).toNat;exact ah.mono (Nat.le_refl _) (by omega)
  ·show i<i+1; omega
  ·show i+1<=(s.dG.length:Int); omega
 -- types and starts
 refine Tot.aA (Ξ:=λr=>iJ r (1001 * 1000) 1000) ?_ λhl tL=>?_
 ·refine Tot.count (λz=>z.2) s.Decls.length (λz=>0<=z.2/\z.2<=s.Decls.length/\iJ z.1 (1001 * 1000) 1000) ⟨Int.le_refl 0,by show (0:Int)<=_; omega,HS⟩ (by show (s.Decls.length:Int) - 0<_; omega) λz aX=>?_;obtain ⟨m,i⟩:=z;obtain ⟨aQ,h1,hm⟩:=aX;simp only at aQ h1 hm ⊢;have hw:aJ (i+1)=i+1:=by rw [cA]; omega
  rw [hw];refine Tot.bp (λaT=>?_) (λ_=>.aq hm);refine Tot.aA (Ξ:=λr=>iJ r (1001 * 1000) 1000) ?_ λow T8=>.aq ⟨⟨?_,?_,T8⟩,?_,?_⟩
  ·have mX:i.toNat<s.Decls.length:=by omega
   have hi:idx s.Decls i=some s.Decls[i.toNat]:=by simp [idx,aQ,mX]
   rw [hi];generalize aS:s.Decls[i.toNat]=d;have jW:d∈s.Decls:=by rw [<- aS]; exact List.getElem_mem mX
   have zr:=(av.decls d jW).n;refine Tot.count (λz=>z.2) d.eJ.length (λz=>0<=z.2/\z.2<=d.eJ.length/\iJ z.1 (1001 * 1000) 1000) ⟨Int.le_refl 0,by show (0:Int)<=_; omega,hm⟩ (by show (d.eJ.length:Int) - 0<_; omega) λz aX=>?_;obtain ⟨m,k⟩:=z;obtain ⟨g0,g1,hm⟩:=aX;simp only at g0 g1 hm ⊢;have qs:aJ (k+1)=k+1:=by rw [cA]; omega
   rw [qs];refine Tot.aV (Tot.bp (λq'=>?_) (λ_=>.aq hm));have vo:=hm.fw;refine Tot.aA (Ξ:=λj=>iJ j (1001 * 1000) 1000) ?_ λj ah=>.aq ⟨⟨?_,?_,ah⟩,?_,?_⟩
   ·refine Tot.aV (.aA (Tot.hr (Φ:=λ_=>True) g0 q' λ_ _ _=>trivial) λx _=>?_);refine .aA (Ξ:=λ_=>True) (Tot.aV (Tot.bE (λ_=>.aA (t107 m _ (by simp only [dL]; omega)) λ_ _=>.aq trivial) (λ_=>.aq trivial))) λc _=>?_;refine Tot.aA (Ξ:=λj=>iJ j (1001 * 1000) 1000) ?_ λj ah=>.aq ah;exact Tot.bE (λ_=>.aA (t105 m _ _) λm' im=>.aq (hm.same im.1)) (λ_=>.aq hm)
   ·show 0<=k+1; omega
   ·show k+1<=(d.eJ.length:Int); omega
   ·show k<k+1; omega
   ·show k+1<=(d.eJ.length:Int); omega
  ·show 0<=i+1; omega
  ·show i+1<=(s.Decls.length:Int); omega
  ·show i<i+1; omega
  ·show i+1<=(s.Decls.length:Int); omega
 -- the start
 have sO:=ok.pos;refine Tot.aA (Ξ:=λ_=>True) (Tot.bE (λ_=>.aA (Ξ:=λ_=>True) (Tot.hr (by decide) (by omega) λ_ _ _=>trivial) λ_ _=>.aq trivial) (λ_=>.aq trivial)) λxG _=>?_;have acZ:=tL.fw;refine .aA (t107 hl xG (by simp only [dL]; omega)) λmI q8=>?_;have Ue:-1<=mI/\mI<hl.cb.length:=by rcases q8 with h | h <;> omega
 -- the alternatives
 have h8:hl.cb.length<=1000:=tL.fw;generalize UE:hl.cb.length=L at h8 Ue;refine Tot.aA (Ξ:=λr=>k_ r (3+1001 * 1000+1001 * 1000000) L (1001 * 1000000) (1+1001 * 1000000)/\1<=r.aG.bh.length) ?_ λbu Uf=>?_
 ·have ub:=tL.Xz;rw [UE] at ub;refine Tot.count (λz=>z.2) s.dG.length (λz=>0<=z.2/\z.2<=s.dG.length/\k_ z.1 (3+1001 * 1000+1001 * (1000 * z.2.toNat)) L (1001 * (1000 * z.2.toNat)) (1+1001 * (1000 * z.2.toNat))/\1<=z.1.aG.bh.length) ⟨Int.le_refl 0,by show (0:Int)<=_; omega,⟨ub.gF,ub.lo,ub.hi,ub.ty,ub.fw,ub.hC,Nat.le_refl 1,λp au=>?_,ub.lvl,ub.jz⟩,Nat.le_refl 1⟩ (by show (s.dG.length:Int) - 0<_; omega) λz aX=>?_
  ·rw [List.mem_singleton.1 au];have acK:=tL.hC;have ky:=tL.lo;refine ⟨⟨Int.le_refl 0,by show (0:Int)<=L+hl.b_; omega⟩,λy ax=>?_,⟨by show (-1:Int)<=-1; omega,by show (-1:Int)<_; omega⟩⟩;have ax:y∈[aJ (1001+mI)]:=ax;rw [List.mem_singleton.1 ax];have:aJ (1001+mI)=1001+mI:=by rw [cA]; omega
   rw [this];exact .inr (by show 1000<=1001+mI/\1001+mI<=1000+((L:Int)+hl.b_); omega)
  ·obtain ⟨m,i⟩:=z;obtain ⟨aQ,h1,hm,vq⟩:=aX;simp only at aQ h1 hm vq ⊢;have hw:aJ (i+1)=i+1:=by rw [cA]; omega
   rw [hw];refine Tot.bp (λaT=>?_) (λ_=>.aq ⟨hm.mono (by omega) (by omega) (by omega),vq⟩);refine Tot.aA (Ξ:=λr=>k_ r (3+1001 * 1000+1001 * (1000 * (i.toNat+1))) L (1001 * (1000 * (i.toNat+1))) (1+1001 * (1000 * (i.toNat+1)))/\1<=r.aG.bh.length) ?_ λkJ Es=>.aq ⟨⟨?_,?_,?_,Es.2⟩,?_,?_⟩
   ·have mX:i.toNat<s.dG.length:=by omega
    have hi:idx s.dG i=some s.dG[i.toNat]:=by simp [idx,aQ,mX]
    rw [hi];generalize aS:s.dG[i.toNat]=d;have jW:d∈s.dG:=by rw [<- aS]; exact List.getElem_mem mX
    have zr:=(av.rules d jW).n;refine Tot.count (λz=>z.2) d.eF.length (λz=>0<=z.2/\z.2<=d.eF.length/\k_ z.1 (3+1001 * 1000+1001 * (1000 * i.toNat+z.2.toNat)) L (1001 * (1000 * i.toNat+z.2.toNat)) (1+1001 * (1000 * i.toNat+z.2.toNat))/\1<=z.1.aG.bh.length) ⟨Int.le_refl 0,by show (0:Int)<=_; omega,hm,vq⟩ (by show (d.eF.length:Int) - 0<_; omega) λz aX=>?_;obtain ⟨m,k⟩:=z;obtain ⟨g0,g1,hm,vq⟩:=aX;simp only at g0 g1 hm vq ⊢;have qs:aJ (k+1)=k+1:=by rw [cA]; omega
    rw [qs];refine Tot.aV (Tot.bp (λq'=>?_) (λ_=>.aq ⟨hm.mono (by omega) (by omega) (by omega),vq⟩));refine Tot.aV (Tot.aV (.aA (Tot.hr (Φ:=λy=>y∈d.eF) g0 q' λ_ _ h=>h) λa aP=>?_));refine .aA (t108 m d.Left a hm (by omega) (by omega) (by omega) (by omega) ((av.rules d jW).alts a aP) (ok.rules d jW a aP)) λm' im=>.aq ⟨⟨?_,?_,?_,im.2⟩,?_,?_⟩
    ·show 0<=k+1; omega
    ·show k+1<=(d.eF.length:Int); omega
    ·show k_ m' (3+1001 * 1000+1001 * (1000 * i.toNat+(k+1).toNat)) L (1001 * (1000 * i.toNat+(k+1).toNat)) (1+1001 * (1000 * i.toNat+(k+1).toNat));exact im.1.mono (by omega) (by omega) (by omega)
    ·show k<k+1; omega
    ·show k+1<=(d.eF.length:Int); omega
   ·show 0<=i+1; omega
   ·show i+1<=(s.dG.length:Int); omega
   ·show k_ kJ (3+1001 * 1000+1001 * (1000 * (i+1).toNat)) L (1001 * (1000 * (i+1).toNat)) (1+1001 * (1000 * (i+1).toNat));exact Es.1.mono (by omega) (by omega) (by omega)
   ·show i<i+1; omega
   ·show i+1<=(s.dG.length:Int); omega
 obtain ⟨pq,Ug⟩:=Uf;refine Tot.pj (λh=>.aq λaR=>absurd aR h) (λhe=>?_);have acg:=pq.fw;have ace:=pq.hi;have aci:=pq.ty;have acf:=pq.hC;have ach:=pq.As
 -- nonterminals
 refine Tot.aA (Ξ:=λl=>l.length=1+L) ?_ λuO HV=>?_
 ·refine Tot.count (λz=>z.2) bu.cb.length (λz=>0<=z.2/\z.2<=bu.cb.length/\z.1.length=1+z.2.toNat) ⟨Int.le_refl 0,by show (0:Int)<=_; omega,rfl⟩ (by show (bu.cb.length:Int) - 0<_; omega) λz aX=>?_;obtain ⟨l,i⟩:=z;obtain ⟨aQ,h1,aj⟩:=aX;simp only at aQ h1 aj ⊢;have hw:aJ (i+1)=i+1:=by rw [cA]; omega
  rw [hw];refine Tot.bp (λaT=>?_) (λ_=>.aq (by show l.length=1+L; omega));refine .aA (Tot.hr (Φ:=λ_=>True) aQ aT λ_ _ _=>trivial) λqM _=>.aA (t109 _ _ (by show bu.cL.length<=_; simp only [dL]; omega)) λyy Uh=>?_;have ack:yy=-1\/(0<=yy/\yy<bu.cL.length):=Uh;refine .aA (Ξ:=λ_=>True) (Tot.bp (λh=>.aA (Ξ:=λ_=>True) (Tot.hr h (by omega) λ_ _ _=>trivial) λ_ _=>.aq trivial) (λ_=>.aq trivial)) λuu _=>?_;refine .aA (Ξ:=λ_=>True) (Tot.ap (by simp [lim]; omega) trivial) λ_ _=>.aq ⟨⟨?_,?_,?_⟩,?_,?_⟩
  ·show 0<=i+1; omega
  ·show i+1<=(bu.cb.length:Int); omega
  ·show (l++[_]).length=1+(i+1).toNat;simp; omega
  ·show i<i+1; omega
  ·show i+1<=(bu.cb.length:Int); omega
 refine Tot.aA (Ξ:=λl=>(l.length:Int)=1+L+bu.b_) ?_ λk7 M9=>?_
 ·refine Tot.count (λz=>z.2) (bu.b_+1) (λz=>1<=z.2/\z.2<=bu.b_+1/\(z.1.length:Int)=1+L+(z.2 - 1)) ⟨Int.le_refl 1,by show (1:Int)<=_; omega,by show (uO.length:Int)=1+L+(1 - 1); omega⟩ (by show bu.b_+1 - 1<_; omega) λz aX=>?_;obtain ⟨l,i⟩:=z;obtain ⟨aQ,h1,aj⟩:=aX;simp only at aQ h1 aj ⊢;have hw:aJ (i+1)=i+1:=by rw [cA]; omega
  rw [hw];refine Tot.bp (λaT=>?_) (λ_=>.aq (by show (l.length:Int)=1+L+bu.b_; omega));refine .aA (t110 i (by omega) (by omega)) λGz acm=>.aA (Ξ:=λ_=>True) (Tot.cat (by show 1+Gz.size<=_; omega) trivial) λwu _=>?_;refine .aA (Ξ:=λ_=>True) (Tot.ap (by simp [lim]; omega) trivial) λ_ _=>.aq ⟨⟨?_,?_,?_⟩,?_,?_⟩
  ·show 1<=i+1; omega
  ·show i+1<=bu.b_+1; omega
  ·show ((l++[_]).length:Int)=1+L+(i+1 - 1);simp; omega
  ·show i<i+1; omega
  ·show i+1<=bu.b_+1; omega
 -- numbers
 have r3:=pq.gF;refine Tot.aA (Ξ:=λl=>l.length=bu.aG.ba.length/\∀ t∈l,0<=t.Level) ?_ λmc Ui=>?_
 ·refine Tot.count (λz=>z.2.2) bu.aG.ba.length (λz=>3<=z.2.2/\z.2.2<=bu.aG.ba.length/\z.1.length=bu.aG.ba.length/\∀ t∈z.1,0<=t.Level) ⟨Int.le_refl 3,by have:=pq.lo; show (3:Int)<=_; omega,rfl,pq.jz⟩ (by show (bu.aG.ba.length:Int) - 3<_; omega) λz aX=>?_;obtain ⟨l,n,i⟩:=z;obtain ⟨aQ,h1,aj,hv⟩:=aX;simp only at aQ h1 aj hv ⊢;have hw:aJ (i+1)=i+1:=by rw [cA]; omega
  rw [hw];refine Tot.bp (λaT=>?_) (λ_=>.aq ⟨aj,hv⟩);refine Tot.aA (Ξ:=λj=>j.1.length=bu.aG.ba.length/\∀ t∈j.1,0<=t.Level) ?_ λj ah=>.aq ⟨⟨?_,?_,ah⟩,?_,?_⟩
  ·refine .aA (Tot.hr (Φ:=λ_=>True) (by omega) (by rw [r3]; omega) λ_ _ _=>trivial) λ_ _=>?_;refine Tot.aA (Ξ:=λj=>j.1.length=bu.aG.ba.length/\∀ t∈j.1,0<=t.Level) ?_ λj ah=>.aq ah;refine Tot.bE (λ_=>?_) (λ_=>.aq ⟨aj,hv⟩);refine .aA (Tot.hr (Φ:=λy=>y∈l) (by omega) aT λ_ _ h=>h) λy ax=>.aq ⟨by show (l.set _ _).length=_; simp [aj],λt aw=>?_⟩;rcases O1 aw with aw | rfl
   ·exact hv t aw
   ·exact (hv y ax:0<=y.Level)
  ·show 3<=i+1; omega
  ·show i+1<=(bu.aG.ba.length:Int); omega
  ·show i<i+1; omega
  ·show i+1<=(bu.aG.ba.length:Int); omega
 -- limits
 obtain ⟨M_,Uj⟩:=Ui;refine Tot.aA (Ξ:=λc=>c=false->mc.length<=40/\k7.length<=24/\bu.aG.bh.length<=60) ?_ λBa HP=>?_
 ·refine Tot.bp (λ_=>.aq λh=>by cases h) (λh1=>Tot.bp (λ_=>.aq λh=>by cases h) (λaf=>.aq λh=>?_));have aI:=of_decide_eq_false h;omega
 refine Tot.aA (Ξ:=λc=>c=false->Ba=false/\∀ p∈bu.aG.bh,p.eI.length<=8) ?_ λAK HQ=>?_
 ·refine Tot.count (λz=>z.2) bu.aG.bh.length (λz=>0<=z.2/\z.2<=bu.aG.bh.length/\(z.1=false->Ba=false/\∀ (j:Nat) (p:Prod),(j:Int)<z.2->bu.aG.bh[j]?=some p->p.eI.length<=8)) ⟨Int.le_refl 0,by show (0:Int)<=_; omega,λh=>⟨h,λj p ah=>by have ah:(j:Int)<0:=ah; omega⟩⟩ (by show (bu.aG.bh.length:Int) - 0<_; omega) λz aX=>?_;obtain ⟨c,i⟩:=z;obtain ⟨aQ,h1,aj⟩:=aX;simp only at aQ h1 aj ⊢;have hw:aJ (i+1)=i+1:=by rw [cA]; omega
  rw [hw];refine Tot.bp (λaT=>?_) (λdV=>.aq λh=>⟨(aj h).1,λp au=>?_⟩)
  ·refine Tot.aA (Ξ:=λfS=>fS=false->c=false/\∀ p,bu.aG.bh[i.toNat]?=some p->p.eI.length<=8) ?_ λfS fo=>.aq ⟨⟨?_,?_,λh=>?_⟩,?_,?_⟩
   ·refine Tot.bE (λ_=>.aq λh=>by cases h) (λVr=>.aA (Tot.hr (Φ:=λy=>idx bu.aG.bh i=some y) aQ aT λ_ h _=>h) λy ax=>.aq λh=>⟨Vr,λp au=>?_⟩);have af:=(pM ax).2.2;rw [au] at af; cases af;have:=of_decide_eq_false h;omega
   ·show 0<=i+1; omega
   ·show i+1<=(bu.aG.bh.length:Int); omega
   ·obtain ⟨aD,a2⟩:=fo h;obtain ⟨hp,iB⟩:=aj aD;refine ⟨hp,λj p ah au=>?_⟩;have ah:(j:Int)<i+1:=ah;by_cases VO:(j:Int)<i
    ·exact iB j p VO au
    ·have:j=i.toNat:=by omega
     subst this;exact a2 p au
   ·show i<i+1; omega
   ·show i+1<=(bu.aG.bh.length:Int); omega
  ·obtain ⟨j,ah,rfl⟩:=List.mem_iff_getElem.1 au;exact (aj h).2 j _ (by omega) (List.getElem?_eq_getElem ah)
 refine Tot.bE (λ_=>.aq λh=>absurd h (by decide)) (λaa=>.aq λ_=>?_);obtain ⟨aD,a2⟩:=HQ aa;obtain ⟨hp,iB,lH⟩:=HP aD;have ky:=pq.lo;refine ⟨⟨?_,hp⟩,⟨?_,iB⟩,⟨Ug,lH⟩,λp au=>?_,a2,Uj⟩
 ·show 3<=mc.length; omega
 ·show 1<=k7.length; omega
 ·have:=pq.hz p au;exact this.mono (by show _<=mc.length; omega) (by show (L:Int)+bu.b_<=((k7.length:Nat):Int) - 1; omega)
theorem t62 (s:Source) (av:rK s):Tot (x7 s) λr=>r.2=true->gB r.1:=by
 unfold x7;exact .aA (t77 s av) λr ao=>.aq λh=>ao (of_decide_eq_true h)
theorem Sn (s:Source) (av:rK s):Tot (x5 s) λr=>r.2.2=true->gB r.1/\mL r.1 r.2.1:=by
 unfold x5;refine .aA (t62 s av) λr ao=>Tot.bE (λ_=>.aq λh=>by cases h) (λh=>?_);have aO:=ao (by simpa using h);refine .aA (Su r.1 aO) λm hm=>.aq λh=>⟨aO,?_⟩;have h:m.2=0:=of_decide_eq_true h;rcases hm with hm | hm
 ·exact hm.2
 ·omega
structure GG (g:bN) (m:List State) (cs:List Cell):Prop where
 rT:gB g
 adh:mL g m
 ce:AR g m.length cs
theorem qc (s:Source) (av:rK s):Tot (vX s) λr=>r.2.2.2=true->GG r.1 r.2.1 r.2.2.1:=by
 unfold vX;refine .aA (Sn s av) λr ao=>Tot.bE (λ_=>.aq λh=>by cases h) (λh=>?_);obtain ⟨aO,hm⟩:=ao (by simpa using h);exact .aA (Sp r.1 aO hm) λqA N2=>.aA (Bb r.1 aO hm qA N2.1 N2.2) λcs hJ=>.aq λ_=>⟨aO,hm,hJ⟩
def zO (g:bN) (p:Int):Int × Int:=match idx g.bh p with
 | some q=>match idx g.ba q.Prec with
  | some t=>(t.Level,t.ft)
  | none=>(0,0)
 | none=>(0,0)
def dec (g:bN) (p t:Int):Int:=match idx g.ba t with
 | some k=>if (zO g p).1=0\/k.Level=0 then 0 else if (zO g p).1<k.Level then 1 else if k.Level<(zO g p).1 then 2 else if k.ft=1 then 2 else if k.ft=2 then 1 else 3
 | none=>0
theorem Tv (g:bN) (aO:gB g) (p:Int) (au:0<=p/\p<g.bh.length):Dd g p=some (zO g p):=by
 obtain ⟨q,bg,hm⟩:=oh au.1 au.2;have av:=(aO.hz q hm).prec;unfold Dd zO;have d1:decide (p<0)=false:=decide_eq_false (by omega);have d2:decide ((g.bh.length:Int)<=p)=false:=decide_eq_false (by omega);rw [d1,d2,bg];simp only [cond_false,Option.bind_some];by_cases h:q.Prec<0
 ·rw [decide_eq_true h,Jw (.inl h)]; rfl
 ·obtain ⟨t,aw,_⟩:=oh (l:=g.ba) (i:=q.Prec) (by omega) av.2;rw [decide_eq_false h,aw]; rfl
theorem Tu (g:bN) (aO:gB g) (p t:Int) (au:0<=p/\p<g.bh.length) (aw:0<=t/\t<g.ba.length):C7 g p t=some (dec g p t):=by
 obtain ⟨k,hk,hm⟩:=oh aw.1 aw.2;unfold C7 dec;rw [Tv g aO p au,hk];have d1:decide (t<0)=false:=decide_eq_false (by omega);have d2:decide ((g.ba.length:Int)<=t)=false:=decide_eq_false (by omega);rw [d1,d2];generalize zO g p=x;simp only [cond_false,Option.bind_some];by_cases h1:x.1=0
 ·simp [h1]
 ·by_cases af:k.Level=0
  ·simp [h1,af]
  ·rw [if_neg (by omega)];simp only [h1,af,decide_false,cond_false,Option.bind_some];by_cases aI:x.1<k.Level
   ·simp [aI]
   ·by_cases bF:k.Level<x.1
    ·simp [aI,bF]
    ·by_cases cG:k.ft=1
     ·simp [aI,bF,cG]
     ·by_cases eh:k.ft=2 <;> simp [aI,bF,cG,eh]
def sv (g:bN) (c:Cell):Act:=match c.bh with
 | []=>if c.lX=true then ⟨3,0⟩ else ⟨1,c.j8⟩
 | p::_=>if c.lX=true then ⟨3,0⟩ else if c.j8<0 then ⟨2,p⟩ else if dec g p c.bW=2 then ⟨2,p⟩ else if dec g p c.bW=3 then ⟨4,0⟩ else ⟨1,c.j8⟩
def zd (g:bN) (c:Cell):List fb:=match c.bh with
 | []=>[]
 | p::r=>r.map (λx=>(⟨c.State,c.bW,p,x⟩:fb))++(if c.lX=true\/(0<=c.j8/\dec g p c.bW=0) then [(⟨c.State,c.bW,-1,p⟩:fb)] else [])
structure oy (g:bN) (n:Nat) (a:Act):Prop where
 k:0<=a.Kind/\a.Kind<=4
 gJ:a.Kind=0->a.N=0
 nj:a.Kind=1->0<=a.N/\a.N<n
 oX:a.Kind=2->qW g a.N
 O3:a.Kind=3->a.N=0
 XE:a.Kind=4->a.N=0
theorem RC {g:bN}{n:Nat}{c:Cell}(h:o9 g n c):oy g n (sv g c)/\(sv g c).Kind≠0:=by
 have B_:=h.Zv;have aW:=h.f;have a3:oy g n ⟨3,0⟩:=⟨⟨by decide,by decide⟩,λh=>(by cases h),λh=>(by cases h),λh=>(by cases h),λ_=>rfl,λh=>by cases h⟩;have a4:oy g n ⟨4,0⟩:=⟨⟨by decide,by decide⟩,λh=>(by cases h),λh=>(by cases h),λh=>(by cases h),λ_=>rfl,λ_=>rfl⟩;have aD:0<=c.j8->oy g n ⟨1,c.j8⟩:=λaQ=>⟨⟨by show (0:Int)<=1; decide,by show (1:Int)<=4; decide⟩,λh=>(by cases h),λ_=>⟨aQ,aW.2⟩,λh=>(by cases h),λh=>(by cases h),λh=>by cases h⟩;have a2:∀ p∈c.bh,oy g n ⟨2,p⟩:=λp au=>⟨⟨by show (0:Int)<=2; decide,by show (2:Int)<=4; decide⟩,λh=>(by cases h),λh=>(by cases h),λ_=>h.q p au,λh=>(by cases h),λh=>by cases h⟩;unfold sv;unfold ot at B_;cases cn:c.bh with
 | nil =>
  simp only;rw [cn] at B_;by_cases h1:c.lX=true
  ·rw [if_pos h1]; exact ⟨a3,by decide⟩
  ·rw [if_neg h1];rw [if_neg h1] at B_;refine ⟨aD ?_,by show (1:Int)≠0; decide⟩;by_cases af:0<=c.j8
   ·exact af
   ·rw [if_neg af] at B_; simp at B_
 | cons p r =>
  simp only;have au:=a2 p (by rw [cn]; simp);split
  ·exact ⟨a3,by decide⟩
  ·split
   ·exact ⟨au,by show (2:Int)≠0; decide⟩
   ·split
    ·exact ⟨au,by show (2:Int)≠0; decide⟩
    ·split
     ·exact ⟨a4,by decide⟩
     ·exact ⟨aD (by omega),by show (1:Int)≠0; decide⟩
theorem Mn {g:bN}(aO:gB g) {n:Nat}{c:Cell}(h:o9 g n c):(zd g c).length<=60:=by
 have aj:=h.len aO;unfold zd;cases cn:c.bh with
 | nil=>simp
 | cons p r =>
  rw [cn,List.length_cons] at aj;simp only [List.length_append,List.length_map];split
  ·simp; omega
  ·simp; omega
theorem w1 (g:bN) (aO:gB g) {n:Nat}(c:Cell) (h:o9 g n c):x6 g c=some (sv g c,zd g c):=by
 have aj:=h.len aO
 suffices aB:Tot (x6 g c) λr=>r=(sv g c,zd g c) by
  obtain ⟨r,ao,e⟩:=aB; rw [ao,e]
 unfold x6 sv zd;cases cn:c.bh with
 | nil =>
  simp only;refine .aA (Ξ:=λl:List fb=>l=[]) ?_ λl aj=>?_
  ·refine Tot.loop (λs=>s=(([]:List fb),(1:Int))) (λ_=>0) rfl (by show 0<1000000000000000000; omega) λs aB=>?_;subst aB;exact .aq rfl
  ·subst aj;cases h1:c.lX
   ·exact .aq (by simp)
   ·exact .aq (by simp)
 | cons p r =>
  rw [cn,List.length_cons] at aj;simp only;have hd:idx (p::r) 0=some p:=rfl;refine .aA (Ξ:=λl:List fb=>l=r.map (λx=>(⟨c.State,c.bW,p,x⟩:fb))) ?_ λl aj=>?_
  ·refine Tot.count (λs=>s.2) ((r.length:Int)+1) (λs=>∃ k:Nat,k<=r.length/\s.2=((k+1:Nat):Int)/\s.1=(r.take k).map (λx=>(⟨c.State,c.bW,p,x⟩:fb))) ⟨0,Nat.zero_le _,rfl,rfl⟩ (by show (r.length:Int)+1 - 1<_; omega) λs aB=>?_;obtain ⟨l,i⟩:=s;obtain ⟨k,hk,he,bf⟩:=aB;simp only at he bf ⊢;subst he bf;rw [eA (k+1) (by omega),hd];refine Tot.bp (λaT=>?_) (λdV=>.aq ?_)
   ·rw [List.length_cons] at aT;have aT:k<r.length:=by omega
    have cy:idx (p::r) ((k+1:Nat):Int)=some r[k]:=by
     simp only [idx,if_pos (show (0:Int)<=((k+1:Nat):Int) by omega),Int.toNat_natCast,List.getElem?_cons_succ];exact List.getElem?_eq_getElem aT
    rw [cy];refine Tot.aV (Tot.aV (.aA (Ξ:=λ_=>True) (Tot.ap (by simp [lim]; omega) trivial) λ_ _=>.aq ⟨⟨k+1,by omega,rfl,?_⟩,by show ((k+1:Nat):Int)<((k+1+1:Nat):Int); omega,by show ((k+1+1:Nat):Int)<=(r.length:Int)+1; omega⟩));show _=(r.take (k+1)).map _;rw [lz aT,List.map_append]; rfl
   ·rw [List.length_cons] at dV;rw [List.take_of_length_le (by omega)]; rfl
  ·subst aj;have au:=h.q p (by rw [cn]; simp);have Hy:=Tu g aO p c.bW ⟨by have:=au.1; omega,au.2⟩ h.t;have dl:decide (((p::r).length:Int)=0)=false:=decide_eq_false (by simp; omega);simp only [hd,Hy,dl,cond_false,Option.bind_some];generalize vk:dec g p c.bW=v;refine ⟨_,?_,rfl⟩;have Ny:c' (r.map (λx=>(⟨c.State,c.bW,p,x⟩:fb))) [(⟨c.State,c.bW,(-1),p⟩:fb)]=some (r.map (λx=>(⟨c.State,c.bW,p,x⟩:fb))++[⟨c.State,c.bW,(-1),p⟩]):=by
    unfold c'; rw [if_pos (by simp [lim]; omega)]
   cases h1:c.lX
   ·by_cases af:c.j8<0
    ·have aI:¬ (0<=c.j8):=by omega
     simp [af,aI]
    ·have aI:0<=c.j8:=by omega
     by_cases bF:v=0
     ·simp [af,aI,bF,Ny]
     ·by_cases cG:v=2
      ·simp [af,aI,cG]
      ·by_cases eh:v=3
       ·simp [af,aI,eh]
       ·simp [af,aI,bF,cG,eh]
   ·simp [Ny]
def rowOf (g:bN) (l:List Cell):List Act:=l.foldl (λrow c=>row.set c.bW.toNat (sv g c)) (List.replicate g.ba.length ⟨0,0⟩)
def iA (cs:List Cell) (q:Nat):List Cell:=cs.filter λc=>decide (c.State=(q:Int))
def go (m:List State) (q s:Int):Int:=(rm m q s).getD (-1)
theorem go_eq {g:bN}{m:List State}(hm:mL g m) (q s:Int):rm m q s=some (go m q s)/\GoTo m q s (go m q s):=by
 obtain ⟨r,ao,h⟩:=Ea m q s hm.xP;unfold go;rw [ao];exact ⟨rfl,h⟩
theorem PN (g:bN):∀ (l:List Cell),(rowOf g l).length=g.ba.length:=λl=>by
 suffices h:∀ (l:List Cell) (r:List Act),(l.foldl (λrow c=>row.set c.bW.toNat (sv g c)) r).length=r.length by
  unfold rowOf; rw [h]; simp
 intro l
 induction l with
 | nil=>intro r; rfl
 | cons c l aU=>intro r; rw [List.foldl_cons,aU,List.length_set]
theorem YE (g:bN) (l:List Cell) (c:Cell):rowOf g (l++[c])=(rowOf g l).set c.bW.toNat (sv g c):=by
 unfold rowOf; rw [List.foldl_append]; rfl
theorem YB {g:bN}{n:Nat}:∀ {l:List Cell},(∀ c∈l,o9 g n c)->∀ a∈rowOf g l,oy g n a:=by
 intro l h
 suffices aB:∀ (l:List Cell) (r:List Act),(∀ c∈l,o9 g n c)->(∀ a∈r,oy g n a)->∀ a∈l.foldl (λrow c=>row.set c.bW.toNat (sv g c)) r,oy g n a by
  refine aB l _ h λa aP=>?_;rw [List.eq_of_mem_replicate aP];exact ⟨⟨by decide,by decide⟩,λ_=>rfl,λh=>(by cases h),λh=>(by cases h),λh=>(by cases h),λh=>by cases h⟩
 intro l
 induction l with
 | nil=>intro r _ ao; exact ao
 | cons c l aU =>
  intro r aj ao;rw [List.foldl_cons];refine aU _ (λd aS=>aj d (by simp [aS])) λa aP=>?_;rcases List.mem_or_eq_of_mem_set aP with h | h
  ·exact ao a h
  ·rw [h]; exact (RC (aj c (by simp))).1
def w4 (g:bN) (m:List State) (q:Nat):List Int:=(List.range g.b0.length).map λa:Nat=>go m q (1000+(a:Int))
def l1 (g:bN) (l:List Cell):List fb:=l.flatMap (zd g)
theorem Ho {g:bN}(aO:gB g) {n:Nat}:∀ {l:List Cell},(∀ c∈l,o9 g n c)->(l1 g l).length<=60 * l.length
 | [],_=>by simp [l1]
 | c::l,h=>by
  have h1:=Mn aO (h c (by simp));have af:=Ho aO (l:=l) λd aS=>h d (by simp [aS]);unfold l1 at af ⊢;rw [List.flatMap_cons,List.length_append,List.length_cons];omega
theorem Qv {α:Type}{l:List α}{k:Nat}(h:k<l.length) (p:α->Bool):(l.take (k+1)).filter p=(l.take k).filter p++(if p l[k] then [l[k]] else []):=by
 rw [lz h,List.filter_append];congr 1;rw [List.filter_cons]
 split <;> simp
structure GJ (g:bN) (m:List State) (cs:List Cell) (d:gT):Prop where
 a:d.cB=(List.range m.length).map λq=>rowOf g (iA cs q)
 o:d.dT=(List.range m.length).map λq=>w4 g m q
theorem Sj (g:bN) (m:List State) (cs:List Cell) (er:GG g m cs):Tot (Af g m cs) λr=>GJ g m cs r.1/\r.2=(List.range m.length).flatMap λq=>l1 g (iA cs q):=by
 obtain ⟨aO,hm,aa⟩:=er;have aw:=aO.kH;have aF:=aO.dy;have xi:=hm.nj;have Is:=aa.n;unfold Af;refine .aA (Ξ:=λr:List (List Act) × List (List Int) × List fb=>r.1=(List.range m.length).map (λq=>rowOf g (iA cs q))/\r.2.1=(List.range m.length).map (λq=>w4 g m q)/\r.2.2=(List.range m.length).flatMap λq=>l1 g (iA cs q)) ?_ λr ao=>.aq ⟨⟨ao.1,ao.2.1⟩,ao.2.2⟩;have sJ:∀ q,(l1 g (iA cs q)).length<=360000:=λq=>by
  have h1:=Ho aO (l:=iA cs q) λc vg=>aa.ok c ((List.mem_filter.1 vg).1);have af:=List.length_filter_le (λc:Cell=>decide (c.State=(q:Int))) cs;unfold iA at h1 ⊢;omega
 have Iy:∀ k,((List.range k).flatMap λq=>l1 g (iA cs q)).length<=360000 * k:=λk=>by
  induction k with
  | zero=>simp
  | succ k aU =>
   rw [List.range_succ,List.flatMap_append,List.length_append];have:=sJ k;simp only [List.flatMap_cons,List.flatMap_nil,List.append_nil];omega
 refine Tot.upto (λs=>s.2.2.2) m.length (λk s=>s.1=(List.range k).map (λq=>rowOf g (iA cs q))/\s.2.1=(List.range k).map (λq=>w4 g m q)/\s.2.2.1=(List.range k).flatMap λq=>l1 g (iA cs q)) rfl (by omega) ⟨rfl,rfl,rfl⟩ λk s hk he bf=>?_;obtain ⟨A,G,C,i⟩:=s;obtain ⟨h1,af,aI⟩:=bf;simp only at he h1 af aI ⊢;subst he h1 af aI;rw [eA k (by omega)];refine Tot.bp (λaT=>?_) (λdV=>.aq ?_)
 ·have aT:k<m.length:=by omega
  refine .aA (Ξ:=λr=>r=List.replicate g.ba.length (⟨0,0⟩:Act)) (Tot.mk (by simp [lim]; omega) (by simp)) λtt gG=>?_;subst gG;have acF:=Iy k;refine .aA (Ξ:=λr:List fb × List Act=>r.1=(List.range k).flatMap (λq=>l1 g (iA cs q))++l1 g (iA cs k)/\r.2=rowOf g (iA cs k)) ?_ λr ao=>?_
  ·refine Tot.upto (λs=>s.2.2) cs.length (λj s=>s.1=(List.range k).flatMap (λq=>l1 g (iA cs q))++l1 g (iA (cs.take j) k)/\s.2.1=rowOf g (iA (cs.take j) k)) rfl (by omega) ⟨by simp [iA,l1],by simp [iA,rowOf]⟩ λj s ah he bf=>?_;obtain ⟨C,R,i⟩:=s;obtain ⟨h1,af⟩:=bf;simp only at he h1 af ⊢;subst he h1 af;rw [eA j (by omega)];refine Tot.bp (λeE=>?_) (λdV=>.aq ?_)
   ·have eE:j<cs.length:=by omega
    have xd:=aa.ok _ (List.getElem_mem eE);have sK:=Qv eE (λc:Cell=>decide (c.State=(k:Int)));have ac8:(l1 g (iA (cs.take j) k)).length<=360000:=by
     have h1:=Ho aO (l:=iA (cs.take j) k) λc vg=>aa.ok c (List.mem_of_mem_take ((List.mem_filter.1 vg).1));have af:=List.length_filter_le (λc:Cell=>decide (c.State=(k:Int))) (cs.take j);rw [List.length_take] at af;unfold iA at h1 ⊢;omega
    rw [dX eE];generalize cs[j]=c at *;simp only [Option.bind_some];refine .aA (Ξ:=λr:List fb × List Act=>r.1=(List.range k).flatMap (λq=>l1 g (iA cs q))++l1 g (iA (cs.take (j+1)) k)/\r.2=rowOf g (iA (cs.take (j+1)) k)) ?_ λr ao=>.aq ⟨eE,rfl,ao⟩;refine .aA (Ξ:=λr:List fb × List Act=>r.1=(List.range k).flatMap (λq=>l1 g (iA cs q))++l1 g (iA (cs.take (j+1)) k)/\r.2=rowOf g (iA (cs.take (j+1)) k)) (Tot.bp (λaB=>?_) (λaB=>.aq ?_)) λr ao=>.aq ao
    ·rw [decide_eq_true aB,if_pos rfl] at sK;rw [w1 g aO c xd];simp only [Option.bind_some];have l6:=PN g (iA (cs.take j) k);obtain ⟨a0,w7,_⟩:=oh (l:=rowOf g (iA (cs.take j) k)) (i:=c.bW) xd.t.1 (by rw [l6]; exact xd.t.2);rw [w7];have gX:=Mn aO xd;refine Tot.aV (.aA (Ξ:=λ_=>True) (Tot.ap (by rw [List.length_append]; simp only [lim]; omega) trivial) λ_ _=>.aq ⟨?_,?_⟩)
     ·show _=_++l1 g ((cs.take (j+1)).filter _);rw [sK];unfold l1;rw [List.flatMap_append,List.append_assoc];simp [iA]
     ·show _=rowOf g ((cs.take (j+1)).filter _);rw [sK,YE]; rfl
    ·have:(if (decide (c.State=(k:Int)))=true then [c] else [])=[]:=by simp [aB]
     rw [this,List.append_nil] at sK;unfold iA;rw [sK];exact ⟨rfl,rfl⟩
   ·have e:cs.take j=cs:=List.take_of_length_le (by omega);rw [e];exact ⟨rfl,rfl⟩
  ·obtain ⟨C,R⟩:=r;obtain ⟨h1,af⟩:=ao;simp only at h1 af ⊢;subst h1 af;refine .aA (Ξ:=λr=>r=List.replicate g.b0.length (0:Int)) (Tot.mk (by simp [lim]; omega) (by simp)) λGM Uy=>?_;subst Uy;refine .aA (Ξ:=λr:List Int=>r=w4 g m k) ?_ λr ao=>?_
   ·refine Tot.upto (λs=>s.2) g.b0.length (λj s=>s.1.length=g.b0.length/\∀ i:Nat,i<j->s.1[i]?=some (go m k (1000+(i:Int)))) rfl (by omega) ⟨by simp,λi hi=>absurd hi (Nat.not_lt_zero _)⟩ λj s ah he bf=>?_;obtain ⟨L,i⟩:=s;obtain ⟨h1,af⟩:=bf;simp only at he h1 af ⊢;subst he;rw [eA j (by omega)];refine Tot.bp (λeE=>?_) (λdV=>.aq ?_)
    ·have eE:j<L.length:=by omega
     have hw:aJ (1000+(j:Int))=1000+(j:Int):=by rw [cA]; omega
     rw [hw,(go_eq hm k _).1,dX eE];refine Tot.aV (Tot.aV (.aq ⟨by omega,rfl,?_,λi hi=>?_⟩))
     ·show (L.set _ _).length=_;rw [List.length_set]; exact h1
     ·show (L.set (j:Int).toNat _)[i]?=_;rw [Int.toNat_natCast,P8 eE];by_cases e:i=j
      ·subst e; rw [if_pos rfl]
      ·rw [if_neg e]; exact af i (by omega)
    ·show L=w4 g m k;refine List.ext_getElem? λi=>?_;unfold w4;by_cases hi:i<g.b0.length
     ·rw [af i (by omega),List.getElem?_map,List.getElem?_range hi]; rfl
     ·rw [List.getElem?_eq_none (by omega),List.getElem?_eq_none (by simp; omega)]
   ·subst ao;refine .aA (Ξ:=λ_=>True) (Tot.ap (by simp [lim]; omega) trivial) λ_ _=>.aA (Ξ:=λ_=>True) (Tot.ap (by simp [lim]; omega) trivial) λ_ _=>.aq ⟨aT,rfl,?_,?_,?_⟩
    ·show _=(List.range (k+1)).map _;rw [List.range_succ,List.map_append]; rfl
    ·show _=(List.range (k+1)).map _;rw [List.range_succ,List.map_append]; rfl
    ·show _=(List.range (k+1)).flatMap _;rw [List.range_succ,List.flatMap_append]; simp
 ·have:k=m.length:=by omega
  subst this;exact ⟨rfl,rfl,rfl⟩
structure ss (g:bN) (n:Nat) (d:gT):Prop where
 gJ:0<n/\n<=150
 rT:gB g
 a:d.cB.length=n
 jJ:∀ r∈d.cB,r.length=g.ba.length/\∀ a∈r,oy g n a
 o:d.dT.length=n
 vN:∀ r∈d.dT,r.length=g.b0.length/\∀ v∈r,-1<=v/\v<n
theorem GJ.aM {g:bN}{m:List State}{cs:List Cell}{d:gT}(h:GJ g m cs d) (er:GG g m cs):ss g m.length d:=by
 obtain ⟨aO,hm,aa⟩:=er;refine ⟨⟨hm.gJ,hm.nj⟩,aO,by rw [h.a]; simp,λr ao=>?_,by rw [h.o]; simp,λr ao=>?_⟩
 ·rw [h.a] at ao;obtain ⟨q,_,rfl⟩:=List.mem_map.1 ao;exact ⟨PN g _,YB λc vg=>aa.ok c (List.mem_filter.1 vg).1⟩
 ·rw [h.o] at ao;obtain ⟨q,_,rfl⟩:=List.mem_map.1 ao;refine ⟨by simp [w4],λv hv=>?_⟩;obtain ⟨a,_,rfl⟩:=List.mem_map.1 hv;exact (go_eq hm q _).2.aM hm
theorem Yp {g:bN}(aO:gB g) {n:Nat}{cs:List Cell}(aa:AR g n cs) {f:Cell->Option Int}(aW:∀ c:Cell,c.bh.length<=1000->f c=some (ot c:Int)):Tot (b2 (R:=Int) (λ(s1:Int × Int) =>
(bif decide (s1.2<(cs.length:Int)) then
((idx cs s1.2).bind λbx =>
(f bx).bind λbR =>
((bif decide (1<bR) then
some (aJ (s1.1+1))
else
some s1.1)).bind λfa =>
some fa).bind λkX =>
some (.inl (kX,aJ (s1.2+1)))
else
some (.inr s1.1))) (0,0)) λr=>r=((cs.filter λc=>decide (1<ot c)).length:Int):=by
 have Is:=aa.n;refine Tot.upto (λs=>s.2) cs.length (λk s=>s.1=(((cs.take k).filter λc=>decide (1<ot c)).length:Int)) rfl (by omega) rfl λk s hk he bf=>?_;obtain ⟨z,i⟩:=s;simp only at he bf ⊢;subst he bf;rw [eA k (by omega)];refine Tot.bp (λaT=>?_) (λdV=>.aq ?_)
 ·have aT:k<cs.length:=by omega
  have Vt:=aa.ok _ (List.getElem_mem aT);have sK:=Qv aT (λc:Cell=>decide (1<ot c));have sJ:=List.length_filter_le (λc:Cell=>decide (1<ot c)) (cs.take k);rw [List.length_take] at sJ;rw [dX aT];generalize cs[k]=c at *;have gX:=Vt.len aO;rw [show (some c).bind=λ(f:Cell->Option Int)=>f c from rfl]
  simp only [aW c (by omega),Option.bind_some];refine .aA (Ξ:=λz:Int=>z=(((cs.take (k+1)).filter λc=>decide (1<ot c)).length:Int)) ?_ λr ao=>.aq ⟨aT,rfl,ao⟩;rw [sK];refine .aA (Ξ:=λz:Int=>z=(((cs.take k).filter (λc=>decide (1<ot c))++if decide (1<ot c)=true then [c] else []).length:Int)) (Tot.bp (λh=>.aq ?_) (λh=>.aq ?_)) λr ao=>.aq ao
  ·have:1<ot c:=by omega
   rw [eA _ (by omega)];simp [this]
  ·have:¬ 1<ot c:=by omega
   simp [this]
 ·have e:cs.take k=cs:=List.take_of_length_le (by omega);rw [e]; rfl
theorem tE {g:bN}(aO:gB g) {n:Nat}{cs:List Cell}(aa:AR g n cs):Tot (CW cs) λr=>r=((cs.filter λc=>decide (1<ot c)).length:Int):=by
 unfold CW;exact .aA (Yp aO aa MA) λr ao=>.aq ao
theorem Se (s:Source) (av:rK s):Tot (sl s) λr=>r.2.2.2=true->∃ n,ss r.1 n r.2.1:=by
 unfold sl;refine .aA (qc s av) λr ao=>Tot.bE (λ_=>.aq λh=>by cases h) (λh=>?_);have er:=ao (by simpa using h);exact .aA (Sj _ _ _ er) λd aS=>.aA (tE er.rT er.ce) λ_ _=>.aq λ_=>⟨_,aS.1.aM er⟩
theorem Tt (a:Act):Aj a=mD a:=by
 grind [Aj,mD]
theorem Hw (n:Int):x4 n=s_ n:=by
 grind [x4,s_]
theorem QA (a:Act):Tot (mD a) λ_=>True:=by
 unfold mD
 repeat' first | apply Tot.bi | refine Tot.bE (λ_=>?_) (λ_=>?_) | exact Tot.aq trivial | apply Tot.aq
theorem ZD (n:Int):Tot (s_ n) λ_=>True:=by
 grind [s_,Tot.aq]
theorem Sr (a:Act):∃ c,mD a=some c/\(c=0\/s_ c=some a):=by
 obtain ⟨c,aa,_⟩:=QA a;refine ⟨c,aa,?_⟩;obtain ⟨K,N⟩:=a;have g:∀ p q:Prop,∀ [Decidable p] [Decidable q],(bif decide p then some (decide q) else some false)=some (decide (p/\q)):=λp q _ _=>by
  by_cases au:p <;> simp [au]
 by_cases h1:K=1/\0<=N/\N<=19999
 ·obtain ⟨rfl,h1⟩:=h1;have e:aJ (N+1)=N+1:=by rw [cA]; omega
  have b9:aJ (N+1 - 1)=N:=by rw [cA]; omega
  simp [mD,h1,e] at aa;subst aa;have af:1<=N+1/\N+1<=20000:=by omega
  have fH:aJ N=N:=by rw [cA]; omega
  exact .inr (by simp [s_,af,fH])
 ·by_cases af:K=2/\1<=N/\N<=19999
  ·obtain ⟨rfl,af⟩:=af;have e:aJ (-N)=-N:=by rw [cA]; omega
   have b9:aJ N=N:=by rw [cA]; omega
   simp [mD,af,e] at aa;subst aa;have aI:¬ 1<=-N:=by omega
   have bF:-N<=-1/\-19999<=-N:=by omega
   exact .inr (by simp [s_,aI,bF,b9])
  ·by_cases aI:K=3/\N=0
   ·obtain ⟨rfl,rfl⟩:=aI;have:mD ⟨3,0⟩=some 20001:=by decide
    rw [this] at aa; cases aa;exact .inr (by decide)
   ·by_cases bF:K=4/\N=0
    ·obtain ⟨rfl,rfl⟩:=bF;have:mD ⟨4,0⟩=some 20002:=by decide
     rw [this] at aa; cases aa;exact .inr (by decide)
    ·refine .inl ?_;have xH:(bif decide (K=1) then (bif decide (0<=N) then some (decide (N<=19999)) else some false) else some false)=some false:=by
      rw [g]; by_cases h:K=1
      ·have:=λaR=>h1 ⟨h,aR⟩;simp [h]; omega
      ·simp [h]
     have oV:(bif decide (K=2) then (bif decide (1<=N) then some (decide (N<=19999)) else some false) else some false)=some false:=by
      rw [g]; by_cases h:K=2
      ·have:=λaR=>af ⟨h,aR⟩;simp [h]; omega
      ·simp [h]
     have Xq:(bif decide (K=3) then some (decide (N=0)) else some false)=some false:=by rw [g]; simp [aI]
     have JK:(bif decide (K=4) then some (decide (N=0)) else some false)=some false:=by rw [g]; simp [bF]
     unfold mD at aa;rw [xH,oV,Xq,JK] at aa;simpa using aa.symm
def oB (l:List Int) (v:Int):Prop:=(l=[]/\v=-1)\/(v∈l/\∀ x∈l,l.count x<l.count v\/(l.count x=l.count v/\v<=x))
theorem oB.uniq {l:List Int}{v w:Int}(h:oB l v) (aR:oB l w):v=w:=by
 rcases h with ⟨h1,af⟩ | ⟨h1,af⟩ <;> rcases aR with ⟨aI,bF⟩ | ⟨aI,bF⟩
 ·omega
 ·subst h1; cases aI
 ·subst aI; cases h1
 ·have a:=af w aI;have b:=bF v h1;omega
theorem wX (l:List Int) (y x:Int):(l++[y]).count x=l.count x+(if y=x then 1 else 0):=by
 rw [List.count_append];by_cases e:y=x
 ·subst e; simp
 ·rw [if_neg e,List.count_eq_zero.2 λhm=>e (List.mem_singleton.1 hm).symm]
theorem Tf {l:List Int}{x:Int}(h:x∈l):0<l.count x:=List.count_pos_iff.2 h
theorem oB.snoc {l:List Int}{b y:Int}(h:oB l b) (aQ:∀ x∈l,0<=x) (ax:0<=y):oB (l++[y]) (if b<0\/(l++[y]).count b<(l++[y]).count y\/((l++[y]).count y=(l++[y]).count b/\y<b) then y else b):=by
 refine .inr ?_;rcases h with ⟨rfl,rfl⟩ | ⟨av,hm⟩
 ·rw [if_pos (.inl (by decide))];refine ⟨by simp,λx J=>?_⟩;rw [List.nil_append,List.mem_singleton] at J;subst J; exact .inr ⟨rfl,Int.le_refl _⟩
 ·have Ez:=aQ b av;have key:∀ x∈l++[y],x∈l\/x=y:=λx J=>by simpa using J
  have wZ:(l++[y]).count y=l.count y+1:=by rw [wX,if_pos rfl]
  by_cases NB:b=y
  ·subst NB;rw [if_neg (by omega)];refine ⟨by simp,λx J=>?_⟩;rw [wZ];by_cases e:x=b
   ·subst e; exact .inr ⟨wZ,Int.le_refl _⟩
   ·rw [wX,if_neg (λh=>e h.symm)];rcases key x J with J | J
    ·have:=hm x J; omega
    ·exact absurd J e
  ·have ka:(l++[y]).count b=l.count b:=by rw [wX,if_neg (λh=>NB h.symm)]; rfl
   by_cases aa:b<0\/(l++[y]).count b<(l++[y]).count y\/((l++[y]).count y=(l++[y]).count b/\y<b)
   ·rw [if_pos aa];rw [ka,wZ] at aa;refine ⟨by simp,λx J=>?_⟩;rw [wZ];by_cases e:x=y
    ·subst e; exact .inr ⟨wZ,Int.le_refl _⟩
    ·rw [wX,if_neg (λh=>e h.symm)];rcases key x J with J | J
     ·have:=hm x J; omega
     ·exact absurd J e
   ·rw [if_neg aa];rw [ka,wZ] at aa;refine ⟨by simp [av],λx J=>?_⟩;rw [ka];by_cases e:x=y
    ·subst e; rw [wZ]; omega
    ·rw [wX,if_neg (λh=>e h.symm)];rcases key x J with J | J
     ·have:=hm x J; omega
     ·exact absurd J e
theorem JL {x:Int}(h:-1<=x/\x<=1000000):sg x=true:=by unfold sg; rw [decide_eq_true]; omega
theorem zc (l:List Int) (aj:l.length<=100000) (aQ:∀ x∈l,0<=x/\x<=1000000):Tot (vZ l) (oB l):=by
 unfold vZ;refine .aA (Ξ:=oB l) ?_ λr ao=>.aq ao;refine Tot.upto (λs=>s.2.2) l.length (λk s=>s.1.length=k/\(∀ x,(o3 s.1 x).getD 0=((l.take k).count x:Int))/\oB (l.take k) s.2.1) rfl (by omega) ⟨rfl,λx=>by simp [o3],.inl ⟨rfl,rfl⟩⟩ λk s hk he bf=>?_;obtain ⟨m,b,i⟩:=s;obtain ⟨h1,af,aI⟩:=bf;simp only at he h1 af aI ⊢;subst he;rw [eA k (by omega)];refine Tot.bp (λaT=>?_) (λdV=>.aq ?_)
 ·have aT:k<l.length:=by omega
  have ax:=aQ _ (List.getElem_mem aT);have gb:=lz aT;have Nt:∀ x∈l.take k,0<=x/\x<=1000000:=λx J=>aQ x (List.mem_of_mem_take J);have gX:=List.count_le_length (a:=l[k]) (l:=l.take k);rw [dX aT];generalize l[k]=y at *;have av:-1<=b/\b<=1000000:=by
   rcases aI with ⟨_,rfl⟩ | ⟨h,_⟩
   ·omega
   ·have:=Nt b h; omega
  rw [List.length_take] at gX;have cy:si sg 0 m y=some ((l.take k).count y:Int):=by unfold si; rw [if_pos (JL ⟨by omega,ax.2⟩),af]
  have b9:aJ (((l.take k).count y:Int)+1)=(((l.take k).count y+1:Nat):Int):=eA _ (by omega);have fH:zQ sg m y (((l.take k).count y+1:Nat):Int)=some ((y,(((l.take k).count y+1:Nat):Int))::m):=by
   unfold zQ;rw [JL ⟨by omega,ax.2⟩,Bool.true_and,if_pos (decide_eq_true (by simp only [lim]; omega))]
  have N4:∀ x,(o3 ((y,(((l.take k).count y+1:Nat):Int))::m) x).getD 0=((l.take (k+1)).count x:Int):=λx=>by
   rw [gb,wX];unfold o3;by_cases e:y=x
   ·subst e; rw [if_pos rfl,if_pos rfl]; rfl
   ·rw [if_neg e,if_neg e,af]; rfl
  have mR:∀ x,(-1<=x/\x<=1000000)->si sg 0 ((y,(((l.take k).count y+1:Nat):Int))::m) x=some ((l.take (k+1)).count x:Int):=λx J=>by unfold si; rw [if_pos (JL J),N4]
  have aB:=aI.snoc (y:=y) (λx J=>(Nt x J).1) ax.1;rw [<- gb] at aB;have il:=List.count_le_length (a:=y) (l:=l.take (k+1));have tX:=List.count_le_length (a:=b) (l:=l.take (k+1));rw [List.length_take] at il tX;simp only [Option.bind_some,cy,b9,fH,mR y ⟨by omega,ax.2⟩,mR b av];have hw:aJ (((l.take (k+1)).count y:Int) - ((l.take (k+1)).count b:Int))=((l.take (k+1)).count y:Int) - ((l.take (k+1)).count b:Int):=by rw [cA]; omega
  rw [hw];refine .aA (Ξ:=λr:List (Int × Int) × Int=>r.1=(y,(((l.take k).count y+1:Nat):Int))::m/\oB (l.take (k+1)) r.2) ?_ λr ao=>.aq ⟨aT,rfl,by rw [ao.1]; simp [h1],by rw [ao.1]; exact N4,ao.2⟩;refine .aA (Ξ:=λc:Bool=>c=decide (b<0\/(l.take (k+1)).count b<(l.take (k+1)).count y\/((l.take (k+1)).count y=(l.take (k+1)).count b/\y<b))) ?_ λc aa=>?_
  ·refine Tot.bp (λh=>.aq (decide_eq_true (.inl h)).symm) (λh=>Tot.bp (λaR=>.aq (decide_eq_true (.inr (.inl (by omega)))).symm) (λaR=>Tot.bp (λaf=>.aq ?_) (λaf=>.aq (decide_eq_false (by omega)).symm)));exact decide_eq_decide.2 (by omega)
  ·subst aa;refine .aA (Ξ:=λz=>z=(if b<0\/(l.take (k+1)).count b<(l.take (k+1)).count y\/((l.take (k+1)).count y=(l.take (k+1)).count b/\y<b) then y else b)) (Tot.bp (λh=>.aq (if_pos h).symm) (λh=>.aq (if_neg h).symm)) λz aX=>.aq ⟨rfl,?_⟩
   show oB _ z;rw [aX]; exact aB
 ·have e:l.take k=l:=List.take_of_length_le (by omega);rw [e] at aI;exact aI
theorem zb (l:List Int) (aj:l.length<=100000) (aQ:∀ x∈l,0<=x/\x<=1000000):Tot (vY l) (oB l):=by
 unfold vY;refine .aA (Ξ:=λr:List Int=>fR iS r/\r.length<=l.length/\∀ x,x∈r↔x∈l) ?_ λD hq=>?_
 ·refine Tot.upto (λs=>s.2) l.length (λk s=>fR iS s.1/\s.1.length<=k/\∀ x,x∈s.1↔x∈l.take k) rfl (by omega) ⟨.nil,Nat.le_refl 0,λx=>by simp⟩ λk s hk he bf=>?_;obtain ⟨r,i⟩:=s;obtain ⟨h1,af,aI⟩:=bf;simp only at he h1 af aI ⊢;subst he;rw [eA k (by omega)];refine Tot.bp (λaT=>?_) (λdV=>.aq ?_)
  ·have aT:k<l.length:=by omega
   have gb:=lz aT;rw [dX aT];generalize l[k]=y at *;refine Tot.aV (.aA (Eb r y h1 (by omega)) λdm ed=>.aq ⟨aT,rfl,ed.1,by have:=ed.2.1; show dm.length<=k+1; omega,λx=>?_⟩);rw [gb,List.mem_append,List.mem_singleton,<- aI];exact ed.2.2 x
  ·have e:l.take k=l:=List.take_of_length_le (by omega);rw [e] at aI;exact ⟨h1,by omega,aI⟩
 ·obtain ⟨Ur,acp,Eu⟩:=hq;refine .aA (Ξ:=λr:Int=>oB l r) ?_ λr ao=>.aq ao;refine Tot.upto (λs=>s.2.2) D.length (λk s=>(k=0/\s.1=-1/\s.2.1=0)\/(s.1∈D.take k/\s.2.1=(l.count s.1:Int)/\∀ x∈D.take k,l.count x<l.count s.1\/(l.count x=l.count s.1/\s.1<=x))) rfl (by omega) (.inl ⟨rfl,rfl,rfl⟩) λk s hk he bf=>?_;obtain ⟨b,n,i⟩:=s;simp only at he bf ⊢;subst he;rw [eA k (by omega)];refine Tot.bp (λaT=>?_) (λdV=>.aq ?_)
  ·have aT:k<D.length:=by omega
   have gb:=lz aT;have E0:=List.getElem_mem aT;have uh:∀ x∈D.take k,x<D[k]:=λx J=>by
    obtain ⟨j,ah,rfl⟩:=List.mem_iff_getElem.1 J;rw [List.length_take] at ah;rw [List.getElem_take];exact OZ.1 (L1 Ur (by omega) aT (by omega))
   rw [dX aT];generalize D[k]=y at *;have EZ:=(Eu y).1 E0;refine .aA (Ξ:=λr:Int × Int=>r.1∈D.take (k+1)/\r.2=(l.count r.1:Int)/\∀ x∈D.take (k+1),l.count x<l.count r.1\/(l.count x=l.count r.1/\r.1<=x)) ?_ λr ao=>.aq ⟨aT,rfl,.inr ao⟩;refine .aA (Ξ:=λz:Int=>z=(l.count y:Int)) ?_ λz aX=>?_
   ·refine Tot.upto (λs=>s.2) l.length (λj s=>s.1=((l.take j).count y:Int)) rfl (by omega) (by simp) λj s ah he bf=>?_;obtain ⟨z,i⟩:=s;simp only at he bf ⊢;subst he bf;rw [eA j (by omega)];refine Tot.bp (λeE=>?_) (λdV=>.aq ?_)
    ·have eE:j<l.length:=by omega
     have nM:=lz eE;have gX:=List.count_le_length (a:=y) (l:=l.take j);rw [List.length_take] at gX;rw [dX eE];generalize l[j]=x at *;simp only [Option.bind_some];refine .aA (Ξ:=λz:Int=>z=((l.take (j+1)).count y:Int)) ?_ λz aX=>.aq ⟨eE,rfl,aX⟩;rw [nM,wX];refine .aA (Ξ:=λz:Int=>z=(((l.take j).count y+if x=y then 1 else 0:Nat):Int)) (Tot.bp (λe=>.aq ?_) (λe=>.aq ?_)) λz aX=>.aq aX
     ·rw [if_pos e,eA _ (by omega)]
     ·rw [if_neg e]; rfl
    ·have e:l.take j=l:=List.take_of_length_le (by omega);rw [e]; rfl
   ·subst aX;refine .aA (Ξ:=λr:Int × Int=>r.1∈D.take (k+1)/\r.2=(l.count r.1:Int)/\∀ x∈D.take (k+1),l.count x<l.count r.1\/(l.count x=l.count r.1/\r.1<=x)) ?_ λr ao=>.aq ao;have xe:=Tf EZ;rw [gb];have key:∀ x∈D.take k++[y],x∈D.take k\/x=y:=λx J=>by simpa using J
    refine Tot.bp (λaa=>Tot.aV (.aq ⟨by simp,rfl,λx J=>?_⟩)) (λaa=>?_)
    ·rcases key x J with J | rfl
     ·rcases bf with ⟨rfl,_,_⟩ | ⟨h1,af,aI⟩
      ·simp at J
      ·have:=aI x J; show l.count x<l.count y\/_; omega
     ·exact .inr ⟨rfl,Int.le_refl _⟩
    ·rcases bf with ⟨rfl,_,rfl⟩ | ⟨h1,af,aI⟩
     ·omega
     ·refine .aq ⟨by simp [h1],af,λx J=>?_⟩;rcases key x J with J | rfl
      ·exact aI x J
      ·have:=uh b h1;have aa:¬ ((n:Int)<(l.count x:Int)):=aa;have af:n=(l.count b:Int):=af;show l.count x<l.count b\/(l.count x=l.count b/\b<=x);omega
  ·have e:D.take k=D:=List.take_of_length_le (by omega);rw [e] at bf;rcases bf with ⟨rfl,rfl,_⟩ | ⟨h1,af,aI⟩
   ·have:D=[]:=List.eq_nil_of_length_eq_zero (by omega);refine .inl ⟨?_,rfl⟩;refine List.eq_nil_iff_forall_not_mem.2 λx J=>?_;have:=(Eu x).2 J
    subst_vars
    cases this
   ·exact .inr ⟨(Eu b).1 h1,λx J=>aI x ((Eu x).2 J)⟩
def gf (l:List Int):Int:=(vY l).getD (-1)
def GO (l:List Int):Prop:=l.length<=100000/\∀ x∈l,0<=x/\x<=1000000
theorem zV {l:List Int}(h:GO l):vZ l=some (gf l)/\vY l=some (gf l)/\oB l (gf l):=by
 obtain ⟨v,hv,h1⟩:=zc l h.1 h.2;obtain ⟨w,hw,af⟩:=zb l h.1 h.2;have e:gf l=w:=by unfold gf; rw [hw]; rfl
 have b9:=h1.uniq af
 grind
def hL {α:Type}(keep:α->Bool) (val:α->Int) (l:List α):List b4:=(l.zipIdx.filter λp=>keep p.1).map λp=>(⟨(p.2:Nat),val p.1⟩:b4)
theorem FJ {α:Type}(keep:α->Bool) (val:α->Int) (l:List α) (x:α):hL keep val (l++[x])=hL keep val l++(if keep x=true then [(⟨l.length,val x⟩:b4)] else []):=by
 grind [hL]
theorem s' {α:Type}(keep:α->Bool) (val:α->Int) (l:List α):(hL keep val l).length<=l.length:=by
 grind [hL,List.length_zipIdx]
theorem O0 {α:Type}{keep:α->Bool}{val:α->Int}{l:List α}{p:b4}:p∈hL keep val l↔∃ (k:Nat) (x:α),l[k]?=some x/\keep x=true/\p=⟨k,val x⟩:=by
 unfold hL;rw [List.mem_map];constructor
 ·grind
 ·rintro ⟨k,x,h1,af,rfl⟩;exact ⟨(x,k),by rw [List.mem_filter,List.mem_zipIdx_iff_getElem?]; exact ⟨h1,af⟩,rfl⟩
def red (r:List Act):List Int:=(r.filter λa=>decide (a.Kind=2)).map (·.N)
theorem PJ (r:List Act) (a:Act):red (r++[a])=red r++(if a.Kind=2 then [a.N] else []):=by
 grind [red]
theorem Ku (r:List Act):(red r).length<=r.length:=by
 grind [red]
def lf (a:Act):Int:=(mD a).getD 0
theorem Mp (a:Act):Aj a=some (lf a)/\mD a=some (lf a):=by
 obtain ⟨c,aa,_⟩:=QA a
 grind [lf,Tt]
def j0 (d:Int) (a:Act):Bool:=!decide (a.Kind=0)&&(!decide (a.Kind=2)||!decide (a.N=d))
def ly (r:List Act):Row:=⟨gf (red r),hL (j0 (gf (red r))) lf r⟩
def jx (d v:Int):Bool:=decide (0<=v)&&!decide (v=d)
def pos (c:List Int):List Int:=c.filter λv=>decide (0<=v)
theorem PE (r:List Int) (a:Int):pos (r++[a])=pos r++(if 0<=a then [a] else []):=by
 grind [pos]
def k4 (c:List Int):Row:=⟨gf (pos c),hL (jx (gf (pos c))) id c⟩
def dR (d:gT) (a:Nat):List Int:=d.dT.map λr=>r.getD a 0
theorem Kv {g:bN}{n:Nat}(aO:gB g) {r:List Act}(aj:r.length=g.ba.length) (h:∀ a∈r,oy g n a):GO (red r):=by
 have aw:=aO.kH;have au:=aO.h0;have:=Ku r;refine ⟨by omega,λx J=>?_⟩;unfold red at J;obtain ⟨a,aP,rfl⟩:=List.mem_map.1 J;rw [List.mem_filter] at aP;have hk:=(h a aP.1).oX (of_decide_eq_true aP.2);have h1:=hk.1;have af:=hk.2;omega
theorem Kq {c:List Int}(aj:c.length<=150) (h:∀ v∈c,v<150):GO (pos c):=by
 have:=List.length_filter_le (λv:Int=>decide (0<=v)) c;refine ⟨by unfold pos; omega,λx J=>?_⟩
 grind [pos]
theorem tF (g:bN) (n:Nat) (d:gT) (aS:ss g n d):Tot (CX d) λr=>r=d.cB.map ly:=by
 have aO:=aS.rT;have aw:=aO.kH;have aF:=aS.gJ;have aP:=aS.a;unfold CX;refine .aA (Ξ:=λr:List Row=>r=d.cB.map ly) ?_ λr ao=>.aq ao;refine Tot.upto (λs=>s.2) d.cB.length (λk s=>s.1=(d.cB.take k).map ly) rfl (by omega) rfl λk s hk he bf=>?_;obtain ⟨R,i⟩:=s;simp only at he bf ⊢;subst he bf;rw [eA k (by omega)];refine Tot.bp (λaT=>?_) (λdV=>.aq ?_)
 ·have aT:k<d.cB.length:=by omega
  have gb:=lz aT;obtain ⟨l6,sP⟩:=aS.jJ _ (List.getElem_mem aT);simp only [dX aT,Option.bind_some];generalize d.cB[k]=r at *;have nL:=Kv aO l6 sP;obtain ⟨w1,Bj,_⟩:=zV nL;refine .aA (Ξ:=λl:List Int=>l=red r) ?_ λl aj=>?_
  ·refine Tot.upto (λs=>s.2) r.length (λj s=>s.1=red (r.take j)) rfl (by omega) rfl λj s ah he bf=>?_;obtain ⟨L,i⟩:=s;simp only at he bf ⊢;subst he bf;rw [eA j (by omega)];refine Tot.bp (λeE=>?_) (λdV=>.aq ?_)
   ·have eE:j<r.length:=by omega
    have nM:=lz eE;have hlen:=Ku (r.take j);rw [List.length_take] at hlen;simp only [dX eE,Option.bind_some];generalize r[j]=a at *;refine .aA (Ξ:=λL:List Int=>L=red (r.take (j+1))) ?_ λr ao=>.aq ⟨eE,rfl,ao⟩;rw [nM,PJ];refine .aA (Ξ:=λL:List Int=>L=red (r.take j)++(if a.Kind=2 then [a.N] else [])) (Tot.bp (λh=>?_) (λh=>.aq ?_)) λr ao=>.aq ao
    ·rw [if_pos h];exact .aA (Ξ:=λ_=>True) (Tot.ap (by simp [lim]; omega) trivial) λ_ _=>.aq rfl
    grind
   grind
  ·subst aj;rw [w1];refine Tot.aV (.aA (Ξ:=λl:List b4=>l=hL (j0 (gf (red r))) lf r) ?_ λl aj=>?_)
   ·generalize gf (red r)=D;refine Tot.upto (λs=>s.2) r.length (λj s=>s.1=hL (j0 D) lf (r.take j)) rfl (by omega) rfl λj s ah he bf=>?_;obtain ⟨L,i⟩:=s;simp only at he bf ⊢;subst he bf;rw [eA j (by omega)];refine Tot.bp (λeE=>?_) (λdV=>.aq ?_)
    ·have eE:j<r.length:=by omega
     have nM:=lz eE;have hlen:=s' (j0 D) lf (r.take j);have eZ:(r.take j).length=j:=by rw [List.length_take]; omega
     rw [List.length_take] at hlen;simp only [dX eE,Option.bind_some];generalize r[j]=a at *;rw [(Mp a).1];refine .aA (Ξ:=λL:List b4=>L=hL (j0 D) lf (r.take (j+1))) ?_ λr ao=>.aq ⟨eE,rfl,ao⟩;rw [nM,FJ,eZ];refine .aA (Ξ:=λc:Bool=>c=j0 D a) (Tot.bE (λh=>?_) (λh=>.aq ?_)) λc aa=>?_
     ·refine Tot.bE (λaf=>.aq ?_) (λaf=>.aq ?_)
      all_goals grind [j0]
     ·grind [j0]
     subst aa;refine .aA (Ξ:=λL:List b4=>L=hL (j0 D) lf (r.take j)++(if j0 D a=true then [(⟨j,lf a⟩:b4)] else [])) (Tot.bE (λh=>?_) (λh=>.aq ?_)) λr ao=>.aq ao
     ·rw [if_pos h];exact Tot.aV (.aA (Ξ:=λ_=>True) (Tot.ap (by simp [lim]; omega) trivial) λ_ _=>.aq rfl)
     grind
    grind
   ·subst aj;refine .aA (Ξ:=λ_=>True) (Tot.ap (by simp [lim]; omega) trivial) λ_ _=>.aq ⟨aT,rfl,?_⟩
    grind [ly]
 grind
theorem tD (g:bN) (n:Nat) (d:gT) (aS:ss g n d):Tot (Ab d) λr=>r=d.cB.map ly:=by
 have aO:=aS.rT;have aw:=aO.kH;have aF:=aS.gJ;have aP:=aS.a;unfold Ab;refine .aA (Ξ:=λr:List Row=>r=d.cB.map ly) ?_ λr ao=>.aq ao;refine Tot.upto (λs=>s.2) d.cB.length (λk s=>s.1=(d.cB.take k).map ly) rfl (by omega) rfl λk s hk he bf=>?_;obtain ⟨R,i⟩:=s;simp only at he bf ⊢;subst he bf;rw [eA k (by omega)];refine Tot.bp (λaT=>?_) (λdV=>.aq ?_)
 ·have aT:k<d.cB.length:=by omega
  have gb:=lz aT;obtain ⟨l6,sP⟩:=aS.jJ _ (List.getElem_mem aT);simp only [dX aT,Option.bind_some];generalize d.cB[k]=r at *;have nL:=Kv aO l6 sP;obtain ⟨w1,Bj,_⟩:=zV nL;refine .aA (Ξ:=λl:List Int=>l=red r) ?_ λl aj=>?_
  ·refine Tot.upto (λs=>s.2) r.length (λj s=>s.1=red (r.take j)) rfl (by omega) rfl λj s ah he bf=>?_;obtain ⟨L,i⟩:=s;simp only at he bf ⊢;subst he bf;rw [eA j (by omega)];refine Tot.bp (λeE=>?_) (λdV=>.aq ?_)
   ·have eE:j<r.length:=by omega
    have nM:=lz eE;have hlen:=Ku (r.take j);rw [List.length_take] at hlen;simp only [dX eE,Option.bind_some];generalize r[j]=a at *;refine .aA (Ξ:=λL:List Int=>L=red (r.take (j+1))) ?_ λr ao=>.aq ⟨eE,rfl,ao⟩;rw [nM,PJ];refine .aA (Ξ:=λL:List Int=>L=red (r.take j)++(if a.Kind=2 then [a.N] else [])) (Tot.bp (λh=>?_) (λh=>.aq ?_)) λr ao=>.aq ao
    ·rw [if_pos h];exact .aA (Ξ:=λ_=>True) (Tot.ap (by simp [lim]; omega) trivial) λ_ _=>.aq rfl
    grind
   grind
  ·subst aj;rw [Bj];refine Tot.aV (.aA (Ξ:=λl:List b4=>l=hL (j0 (gf (red r))) lf r) ?_ λl aj=>?_)
   ·generalize gf (red r)=D;refine Tot.upto (λs=>s.2) r.length (λj s=>s.1=hL (j0 D) lf (r.take j)) rfl (by omega) rfl λj s ah he bf=>?_;obtain ⟨L,i⟩:=s;simp only at he bf ⊢;subst he bf;rw [eA j (by omega)];refine Tot.bp (λeE=>?_) (λdV=>.aq ?_)
    ·have eE:j<r.length:=by omega
     have nM:=lz eE;have hlen:=s' (j0 D) lf (r.take j);have eZ:(r.take j).length=j:=by rw [List.length_take]; omega
     rw [List.length_take] at hlen;simp only [dX eE,Option.bind_some];generalize r[j]=a at *;rw [(Mp a).2];refine .aA (Ξ:=λL:List b4=>L=hL (j0 D) lf (r.take (j+1))) ?_ λr ao=>.aq ⟨eE,rfl,ao⟩;rw [nM,FJ,eZ];refine .aA (Ξ:=λc:Bool=>c=j0 D a) (Tot.bE (λh=>?_) (λh=>.aq ?_)) λc aa=>?_
     ·refine Tot.bE (λaf=>.aq ?_) (λaf=>.aq ?_)
      all_goals grind [j0]
     ·grind [j0]
     subst aa;refine .aA (Ξ:=λL:List b4=>L=hL (j0 D) lf (r.take j)++(if j0 D a=true then [(⟨j,lf a⟩:b4)] else [])) (Tot.bE (λh=>?_) (λh=>.aq ?_)) λr ao=>.aq ao
     ·rw [if_pos h];exact Tot.aV (.aA (Ξ:=λ_=>True) (Tot.ap (by simp [lim]; omega) trivial) λ_ _=>.aq rfl)
     grind
    grind
   ·subst aj;refine .aA (Ξ:=λ_=>True) (Tot.ap (by simp [lim]; omega) trivial) λ_ _=>.aq ⟨aT,rfl,?_⟩
    grind [ly]
 grind
theorem u4 (d:gT) (a:Nat):(dR d a).length=d.dT.length:=by simp [dR]
theorem Ec {d:gT}{a q:Nat}(h:q<d.dT.length):(dR d a).take (q+1)=(dR d a).take q++[(d.dT[q]).getD a 0]:=by
 rw [lz (by rw [u4]; exact h)];congr 2;simp [dR]
theorem Hp {g:bN}{n:Nat}{d:gT}(aS:ss g n d) {a:Nat}(aP:a<g.b0.length):∀ v∈dR d a,-1<=v/\v<n:=λv hv=>by
 unfold dR at hv;obtain ⟨r,ao,rfl⟩:=List.mem_map.1 hv;obtain ⟨h1,af⟩:=aS.vN r ao;refine af _ ?_;rw [List.getD_eq_getElem?_getD,List.getElem?_eq_getElem (by omega)];exact List.getElem_mem _
theorem E6 {r:List Int}{a:Nat}(h:a<r.length):idx r (a:Int)=some (r.getD a 0):=by
 rw [dX h,List.getD_eq_getElem?_getD,List.getElem?_eq_getElem h]; rfl
theorem PD (c:List Int):(pos c).length<=c.length:=List.length_filter_le ..
theorem Sk (g:bN) (n:Nat) (d:gT) (aS:ss g n d):Tot (CY d) λr=>r=(List.range g.b0.length).map λa=>k4 (dR d a):=by
 have aO:=aS.rT;have aw:=aO.dy;have aF:=aS.gJ;have aP:=aS.o;have aQ:0<d.dT.length:=by omega
 obtain ⟨Wf,_⟩:=aS.vN _ (List.getElem_mem aQ);have i0:idx d.dT 0=some d.dT[0]:=dX (k:=0) aQ;unfold CY;refine Tot.bp (λh=>absurd h (by omega)) (λ_=>?_);rw [i0];refine Tot.aV (.aA (Ξ:=λr:List Row=>r=(List.range g.b0.length).map λa=>k4 (dR d a)) ?_ λr ao=>.aq ao);refine Tot.upto (λs=>s.2) g.b0.length (λk s=>s.1=(List.range k).map λa=>k4 (dR d a)) rfl (by omega) rfl λk s hk he bf=>?_;obtain ⟨R,i⟩:=s;simp only at he bf ⊢;subst he bf;rw [eA k (by omega)];refine Tot.bp (λaT=>?_) (λdV=>.aq ?_)
 ·have h':k<g.b0.length:=by omega
  have nL:=Kq (c:=dR d k) (by rw [u4]; omega) λv hv=>by have:=(Hp aS h' v hv).2; omega
  obtain ⟨w1,Bj,_⟩:=zV nL;have gX:=u4 d k;refine .aA (Ξ:=λl:List Int=>l=pos (dR d k)) ?_ λl aj=>?_
  ·refine Tot.upto (λs=>s.2) d.dT.length (λj s=>s.1=pos ((dR d k).take j)) rfl (by omega) rfl λj s ah he bf=>?_;obtain ⟨L,i⟩:=s;simp only at he bf ⊢;subst he bf;rw [eA j (by omega)];refine Tot.bp (λeE=>?_) (λdV=>.aq ?_)
   ·have eE:j<d.dT.length:=by omega
    have nM:=Ec (a:=k) eE;have hlen:=PD ((dR d k).take j);rw [List.length_take] at hlen;obtain ⟨l6,_⟩:=aS.vN _ (List.getElem_mem eE);simp only [dX eE,Option.bind_some,E6 (show k<(d.dT[j]).length by omega)];generalize (d.dT[j]).getD k 0=v at *;refine .aA (Ξ:=λL:List Int=>L=pos ((dR d k).take (j+1))) ?_ λr ao=>.aq ⟨eE,rfl,ao⟩;rw [nM,PE];refine .aA (Ξ:=λL:List Int=>L=pos ((dR d k).take j)++(if 0<=v then [v] else [])) (Tot.bp (λh=>?_) (λh=>.aq ?_)) λr ao=>.aq ao
    ·rw [if_pos h];exact .aA (Ξ:=λ_=>True) (Tot.ap (by simp [lim]; omega) trivial) λ_ _=>.aq rfl
    ·rw [if_neg h,List.append_nil]
   ·have e:(dR d k).take j=dR d k:=List.take_of_length_le (by omega);rw [e]; rfl
  ·subst aj;rw [w1];refine Tot.aV (.aA (Ξ:=λl:List b4=>l=hL (jx (gf (pos (dR d k)))) id (dR d k)) ?_ λl aj=>?_)
   ·generalize gf (pos (dR d k))=D;refine Tot.upto (λs=>s.2) d.dT.length (λj s=>s.1=hL (jx D) id ((dR d k).take j)) rfl (by omega) rfl λj s ah he bf=>?_;obtain ⟨L,i⟩:=s;simp only at he bf ⊢;subst he bf;rw [eA j (by omega)];refine Tot.bp (λeE=>?_) (λdV=>.aq ?_)
    ·have eE:j<d.dT.length:=by omega
     have nM:=Ec (a:=k) eE;have hlen:=s' (jx D) id ((dR d k).take j);have eZ:((dR d k).take j).length=j:=by rw [List.length_take]; omega
     rw [eZ] at hlen;obtain ⟨l6,_⟩:=aS.vN _ (List.getElem_mem eE);simp only [dX eE,Option.bind_some,E6 (show k<(d.dT[j]).length by omega)];generalize (d.dT[j]).getD k 0=v at *;refine .aA (Ξ:=λL:List b4=>L=hL (jx D) id ((dR d k).take (j+1))) ?_ λr ao=>.aq ⟨eE,rfl,ao⟩;rw [nM,FJ,eZ];refine .aA (Ξ:=λc:Bool=>c=jx D v) (Tot.bE (λh=>.aq ?_) (λh=>.aq ?_)) λc aa=>?_
     ·unfold jx; rw [h]; rfl
     ·unfold jx; rw [h]; rfl
     subst aa;refine .aA (Ξ:=λL:List b4=>L=hL (jx D) id ((dR d k).take j)++(if jx D v=true then [(⟨j,id v⟩:b4)] else [])) (Tot.bE (λh=>?_) (λh=>.aq ?_)) λr ao=>.aq ao
     ·rw [if_pos h];exact .aA (Ξ:=λ_=>True) (Tot.ap (by simp [lim]; omega) trivial) λ_ _=>.aq rfl
     ·rw [if_neg (by rw [h]; decide),List.append_nil]
    ·have e:(dR d k).take j=dR d k:=List.take_of_length_le (by omega);rw [e]; rfl
   ·subst aj;refine .aA (Ξ:=λ_=>True) (Tot.ap (by simp [lim]; omega) trivial) λ_ _=>.aq ⟨h',rfl,?_⟩;show _=(List.range (k+1)).map λa=>k4 (dR d a);rw [List.range_succ,List.map_append]; rfl
 ·have:k=g.b0.length:=by omega
  subst this; rfl
theorem ny (g:bN) (n:Nat) (d:gT) (aS:ss g n d):Tot (Ac d) λr=>r=(List.range g.b0.length).map λa=>k4 (dR d a):=by
 have aO:=aS.rT;have aw:=aO.dy;have aF:=aS.gJ;have aP:=aS.o;have aQ:0<d.dT.length:=by omega
 obtain ⟨Wf,_⟩:=aS.vN _ (List.getElem_mem aQ);have i0:idx d.dT 0=some d.dT[0]:=dX (k:=0) aQ;have g0:decide ((0:Int)<(d.dT.length:Int))=true:=decide_eq_true (by omega);unfold Ac;refine .aA (Ξ:=λr:List Row=>r=(List.range g.b0.length).map λa=>k4 (dR d a)) ?_ λr ao=>.aq ao;refine Tot.upto (λs=>s.2) g.b0.length (λk s=>s.1=(List.range k).map λa=>k4 (dR d a)) rfl (by omega) rfl λk s hk he bf=>?_;obtain ⟨R,i⟩:=s;simp only at he bf ⊢;subst he bf;rw [eA k (by omega),g0,i0];simp only [cond_true,Option.bind_some];refine Tot.bp (λaT=>?_) (λdV=>.aq ?_)
 ·have h':k<g.b0.length:=by omega
  have nL:=Kq (c:=dR d k) (by rw [u4]; omega) λv hv=>by have:=(Hp aS h' v hv).2; omega
  obtain ⟨w1,Bj,_⟩:=zV nL;have gX:=u4 d k;refine .aA (Ξ:=λl:List Int=>l=pos (dR d k)) ?_ λl aj=>?_
  ·refine Tot.upto (λs=>s.2) d.dT.length (λj s=>s.1=pos ((dR d k).take j)) rfl (by omega) rfl λj s ah he bf=>?_;obtain ⟨L,i⟩:=s;simp only at he bf ⊢;subst he bf;rw [eA j (by omega)];refine Tot.bp (λeE=>?_) (λdV=>.aq ?_)
   ·have eE:j<d.dT.length:=by omega
    have nM:=Ec (a:=k) eE;have hlen:=PD ((dR d k).take j);rw [List.length_take] at hlen;obtain ⟨l6,_⟩:=aS.vN _ (List.getElem_mem eE);simp only [dX eE,Option.bind_some,E6 (show k<(d.dT[j]).length by omega)];generalize (d.dT[j]).getD k 0=v at *;refine .aA (Ξ:=λL:List Int=>L=pos ((dR d k).take (j+1))) ?_ λr ao=>.aq ⟨eE,rfl,ao⟩;rw [nM,PE];refine .aA (Ξ:=λL:List Int=>L=pos ((dR d k).take j)++(if 0<=v then [v] else [])) (Tot.bp (λh=>?_) (λh=>.aq ?_)) λr ao=>.aq ao
    ·rw [if_pos h];exact .aA (Ξ:=λ_=>True) (Tot.ap (by simp [lim]; omega) trivial) λ_ _=>.aq rfl
    ·rw [if_neg h,List.append_nil]
   ·have e:(dR d k).take j=dR d k:=List.take_of_length_le (by omega);rw [e]; rfl
  ·subst aj;rw [Bj];refine Tot.aV (.aA (Ξ:=λl:List b4=>l=hL (jx (gf (pos (dR d k)))) id (dR d k)) ?_ λl aj=>?_)
   ·generalize gf (pos (dR d k))=D;refine Tot.upto (λs=>s.2) d.dT.length (λj s=>s.1=hL (jx D) id ((dR d k).take j)) rfl (by omega) rfl λj s ah he bf=>?_;obtain ⟨L,i⟩:=s;simp only at he bf ⊢;subst he bf;rw [eA j (by omega)];refine Tot.bp (λeE=>?_) (λdV=>.aq ?_)
    ·have eE:j<d.dT.length:=by omega
     have nM:=Ec (a:=k) eE;have hlen:=s' (jx D) id ((dR d k).take j);have eZ:((dR d k).take j).length=j:=by rw [List.length_take]; omega
     rw [eZ] at hlen;obtain ⟨l6,_⟩:=aS.vN _ (List.getElem_mem eE);simp only [dX eE,Option.bind_some,E6 (show k<(d.dT[j]).length by omega)];generalize (d.dT[j]).getD k 0=v at *;refine .aA (Ξ:=λL:List b4=>L=hL (jx D) id ((dR d k).take (j+1))) ?_ λr ao=>.aq ⟨eE,rfl,ao⟩;rw [nM,FJ,eZ];refine .aA (Ξ:=λc:Bool=>c=jx D v) (Tot.bE (λh=>.aq ?_) (λh=>.aq ?_)) λc aa=>?_
     ·unfold jx; rw [h]; rfl
     ·unfold jx; rw [h]; rfl
     subst aa;refine .aA (Ξ:=λL:List b4=>L=hL (jx D) id ((dR d k).take j)++(if jx D v=true then [(⟨j,id v⟩:b4)] else [])) (Tot.bE (λh=>?_) (λh=>.aq ?_)) λr ao=>.aq ao
     ·rw [if_pos h];exact .aA (Ξ:=λ_=>True) (Tot.ap (by simp [lim]; omega) trivial) λ_ _=>.aq rfl
     ·rw [if_neg (by rw [h]; decide),List.append_nil]
    ·have e:(dR d k).take j=dR d k:=List.take_of_length_le (by omega);rw [e]; rfl
   ·subst aj;refine .aA (Ξ:=λ_=>True) (Tot.ap (by simp [lim]; omega) trivial) λ_ _=>.aq ⟨h',rfl,?_⟩;show _=(List.range (k+1)).map λa=>k4 (dR d a);rw [List.range_succ,List.map_append]; rfl
 ·have:k=g.b0.length:=by omega
  subst this; rfl
theorem Ym {α:Type}(keep:α->Bool) (val:α->Int) (l:List α):(hL keep val l).Pairwise λa b=>a.At<b.At:=by
 unfold hL;rw [List.pairwise_map];refine List.Pairwise.sublist List.filter_sublist ?_;rw [List.pairwise_iff_getElem];intro i j hi ah acO;simp only [List.getElem_zipIdx];omega
theorem Si (P:List b4) (i:Int) (h:P.length<=1000000):Tot (s7 P i) λr=>(∃ v,(⟨i,v⟩:b4)∈P/\r=(v,true))\/((∀ v,(⟨i,v⟩:b4)∉P)/\r=(0,false)):=by
 unfold s7;refine .aA (Ξ:=hn (λ_=>∀ v,(⟨i,v⟩:b4)∉P) (λr:Int × Bool=>∃ v,(⟨i,v⟩:b4)∈P/\r=(v,true))) ?_ λx J=>?_
 ·refine Tot.upto (λs=>s) P.length (λk _=>∀ v,(⟨i,v⟩:b4)∉P.take k) rfl (by omega) (by simp) λk s hk he bf=>?_;subst he;rw [eA k (by omega)];refine Tot.bp (λaT=>?_) (λ_=>.aq ?_)
  ·have aT:k<P.length:=by omega
   have gb:=lz aT;have hm:=List.getElem_mem aT;simp only [dX aT,Option.bind_some];generalize P[k]=p at *;refine Tot.bp (λe=>.aq ⟨p.b8,by rw [<- e]; exact hm,rfl⟩) (λe=>.aq ⟨aT,rfl,λv hv=>?_⟩);rw [gb,List.mem_append,List.mem_singleton] at hv;rcases hv with hv | hv
   ·exact bf v hv
   ·exact e (by rw [<- hv])
  ·have e:P.take k=P:=List.take_of_length_le (by omega);rw [e] at bf;exact bf
 ·rcases x with x | x
  ·exact .aq (.inr ⟨J,rfl⟩)
  ·exact .aq (.inl J)
theorem TX {α:Type}{keep:α->Bool}{val:α->Int}{l:List α}{k:Nat}{x:α}(aj:l.length<=1000000) (hk:l[k]?=some x):s7 (hL keep val l) (k:Int)=some (if keep x=true then (val x,true) else (0,false)):=by
 obtain ⟨r,ao,h⟩:=Si (hL keep val l) k (by have:=s' keep val l; omega);rw [ao];have key:∀ v,(⟨(k:Nat),v⟩:b4)∈hL keep val l↔keep x=true/\v=val x:=λv=>by
  rw [O0];constructor
  ·rintro ⟨j,y,h1,af,aI⟩;simp only [b4.mk.injEq] at aI;have:k=j:=by omega
   subst this;rw [hk] at h1; cases h1;exact ⟨af,aI.2⟩
  ·rintro ⟨h1,rfl⟩;exact ⟨k,x,hk,h1,rfl⟩
 rcases h with ⟨v,h1,rfl⟩ | ⟨h1,rfl⟩
 ·obtain ⟨af,rfl⟩:=(key v).1 h1;rw [if_pos af]
 ·rw [if_neg λh=>h1 (val x) ((key _).2 ⟨h,rfl⟩)]
theorem SO {g:bN}{n:Nat}(aO:gB g) (aF:n<=150) {a:Act}(h:oy g n a) (aQ:a.Kind≠0):x4 (lf a)=some a:=by
 rw [Hw];obtain ⟨c,aa,aS⟩:=Sr a;have au:=aO.h0;have:lf a=c:=by unfold lf; rw [aa]; rfl
 rw [this];refine aS.resolve_left λe=>?_;subst e;obtain ⟨K,N⟩:=a;have h1:=h.k;simp only at h1 aQ;have:K=1\/K=2\/K=3\/K=4:=by omega
 rcases this with rfl | rfl | rfl | rfl
 ·have af:=h.nj rfl;simp only at af;have aI:0<=N/\N<=19999:=by omega
  have e:aJ (N+1)=N+1:=by rw [cA]; omega
  simp [mD,aI,e] at aa;omega
 ·have af:=h.oX rfl;have bF:=af.1;have cG:=af.2;simp only at bF cG;have aI:1<=N/\N<=19999:=by omega
  have e:aJ (-N)=-N:=by rw [cA]; omega
  simp [mD,aI,e] at aa;omega
 ·have af:N=0:=h.O3 rfl;subst af;have:mD ⟨3,0⟩=some 20001:=by decide
  rw [this] at aa; cases aa
 ·have af:N=0:=h.XE rfl;subst af;have:mD ⟨4,0⟩=some 20002:=by decide
  rw [this] at aa; cases aa
abbrev fE:=List b4
structure lF (r:fE):Prop where
 ml:∀ p∈r,0<=p.At/\p.At<=999
 nd:(r.map (·.At)).Nodup
def Fit (iC:List Int) (r:fE) (b:Nat):Prop:=∀ p∈r,iC.getD (b+p.At.toNat) 0=0
theorem sU {α:Type}{l:List α}{k:Nat}(h:k<l.length):idx l (k:Int)=some l[k]:=by simp [idx,h]
theorem SH (p:b4) (b:Nat) (iC:List Int) (au:0<=p.At/\p.At<=999) (av:b<=1000000000000) (aa:iC.length<=1000000000000):Tot (De p b iC) λc=>(c=true↔iC.getD (b+p.At.toNat) 0≠0):=by
 unfold De;have hw:aJ ((b:Int)+p.At)=((b+p.At.toNat:Nat):Int):=by rw [cA]; omega
 rw [hw];refine .aA (Ξ:=λc=>(c=true↔iC.getD (b+p.At.toNat) 0≠0)) (Tot.bp (λh=>?_) (λh=>.aq ?_)) λc aa=>.aq aa
 ·have aj:b+p.At.toNat<iC.length:=by omega
  rw [sU aj];refine Tot.aV (.aq ?_);rw [List.getD_eq_getElem?_getD,List.getElem?_eq_getElem aj];simp
 ·have aj:¬ b+p.At.toNat<iC.length:=by omega
  rw [List.getD_eq_getElem?_getD,List.getElem?_eq_none (by omega)];simp
theorem SA (iC:List Int) (r:fE) (b:Nat) (ao:∀ p∈r,0<=p.At/\p.At<=999) (aj:r.length<=100000) (av:b<=1000000000000) (aa:iC.length<=1000000000000):Tot (x9 iC r b) λc=>(c=true↔Fit iC r b):=by
 unfold x9 FE FC;refine .aA (Ξ:=λx=>x=true↔¬ Fit iC r b) (.aA (Ξ:=λx=>(x=-1/\Fit iC r b)\/(0<=x/\¬ Fit iC r b)) ?_ λx J=>.aq ?_) λx J=>.aq ?_
 ·refine Tot.aA (Tot.scan r (λp=>iC.getD (b+p.At.toNat) 0=0) (λx:Int=>0<=x/\¬ Fit iC r b) (by omega) (λs y aQ h1 hi hm=>?_) (λs aB=>by simp [aB])) λx J=>?_
  ·refine Tot.bp (λ_=>?_) (λh=>absurd h1 h);rw [hi];refine Tot.aV (.aA (SH y b iC (ao y hm) av aa) λc NC=>Tot.bE (λh=>.aq ⟨aQ,λaW=>(NC.1 h) (aW y hm)⟩) (λh=>.aq ⟨?_,?_⟩))
   ·rw [cA]; omega
   ·exact Classical.byContradiction λaF=>by rw [NC.2 aF] at h; cases h
  ·rcases x with _ | x
   ·exact .aq (.inl ⟨rfl,J⟩)
   ·exact .aq (.inr J)
 ·rcases J with ⟨rfl,aW⟩ | ⟨aQ,aW⟩
  ·simp [aW]
  ·simp [aQ,aW]
 ·cases x <;> simp_all
theorem q2 (l:List Int) (h:l.length<=100000000000000000):Tot (oY l l) λc=>c=true:=by
 unfold oY;refine Tot.pj (λh=>absurd rfl h) (λ_=>?_);refine Tot.aA (Tot.scan l (λ_=>True) (λ_=>False) h (λs y aQ h1 hi hm=>?_) (λs aB=>by simp [aB])) λx J=>?_
 ·refine Tot.bp (λ_=>?_) (λh=>absurd h1 h);rw [hi];refine Tot.aV (Tot.aV (Tot.pj (λh=>absurd rfl h) (λ_=>.aq ⟨?_,trivial⟩)));rw [cA]; omega
 ·rcases x with _ | x
  ·exact .aq rfl
  ·exact (J:False).elim
theorem Ss (a b:Int):uB a b=some (if a<b then -1 else if b<a then 1 else 0):=by
 unfold uB;have h:∀ x,v8 x=some false:=λx=>by simp [v8]
 rw [h,h];by_cases h1:a<b
 ·simp [h1]
 ·by_cases af:b<a <;> simp [h1,af]
theorem Sz (a b:Int):C8 [a,b]=some (if a=0 then b else a):=by
 unfold C8;have gS:∀ (f:Int->Option (Int ⊕ (Unit ⊕ Int))),f 0=(if a=0 then some (.inl 1) else some (.inr (.inr a)))->f 1=(if b=0 then some (.inl 2) else some (.inr (.inr b)))->f 2=some (.inr (.inl ()))->b2 f 0=some (if a=0 then (if b=0 then .inl () else .inr b) else .inr a):=by
  intro f x y z;show iter f (999999999999999997+1+1+1) _=_;by_cases aP:a=0
  ·by_cases av:b=0 <;> simp only [iter,x,y,z,aP,av,if_true,if_false]
  ·simp only [iter,x,aP,if_false]
 rw [gS _ ?_ ?_ ?_]
 ·by_cases aP:a=0
  ·by_cases av:b=0 <;> simp [aP,av]
  ·simp [aP]
 ·show (bif decide ((0:Int)<2) then _ else _)=_;have e:idx [a,b] 0=some a:=rfl;simp only [e,Option.bind_some];by_cases aP:a=0 <;> simp [aP];rfl
 ·show (bif decide ((1:Int)<2) then _ else _)=_;have e:idx [a,b] 1=some b:=rfl;simp only [e,Option.bind_some];by_cases av:b=0 <;> simp [av];rfl
 ·rfl
def DP (rows:List fE) (a b:Int):Prop:=∃ x y,idx rows a=some x/\idx rows b=some y/\(y.length<x.length\/(x.length=y.length/\a<b))
theorem E7 {α:Type}{l:List α}{i:Int}(aQ:0<=i) (h1:i<l.length):∃ y,idx l i=some y/\y∈l:=by
 have aT:i.toNat<l.length:=by omega
 exact ⟨l[i.toNat],by simp [idx,aQ,aT],List.getElem_mem aT⟩
theorem Sy (rows:List fE) (a b:Int) (aP:0<=a/\a<rows.length) (av:0<=b/\b<rows.length):∃ v,v7 a b rows=some v/\(v<0↔DP rows a b):=by
 obtain ⟨x,J,_⟩:=E7 aP.1 aP.2;obtain ⟨y,ax,_⟩:=E7 av.1 av.2;unfold v7;rw [J,ax];simp only [Option.bind_some,Ss,Sz];have ff:DP rows a b↔(y.length<x.length\/(x.length=y.length/\a<b)):=by
  unfold DP;rw [J,ax];constructor
  ·rintro ⟨x',y',cy,b9,h⟩;cases cy; cases b9; exact h
  ·intro h;exact ⟨x,y,rfl,rfl,h⟩
 refine ⟨_,rfl,?_⟩;rw [ff];by_cases h1:(y.length:Int)<x.length
 ·simp only [h1,if_true];rw [if_neg (by decide)];constructor
  ·intro _; exact .inl (by omega)
  ·intro _; decide
 ·by_cases af:(x.length:Int)<y.length
  ·simp only [h1,af,if_true,if_false];rw [if_neg (by decide)];constructor
   ·intro h; exact absurd h (by decide)
   ·rintro (h | ⟨h,_⟩) <;> omega
  ·simp only [h1,af,if_false,if_true];by_cases aI:a<b
   ·simp only [aI,if_true];constructor
    ·intro _; exact .inr ⟨by omega,trivial⟩
    ·intro _; decide
   ·simp only [aI,if_false];constructor
    ·intro h
     split at h <;> omega
    ·rintro (h | ⟨_,h⟩)
     ·omega
     ·exact h.elim
structure tr (c:fz) (r:fE) (i b:Nat) (v cd:List Int):Prop where
 len:v.length=cd.length
 lo:c.b3.length<=cd.length
 OE:∀ p∈r,b+p.At.toNat<cd.length
 hi:cd.length=c.b3.length\/∃ p∈r,cd.length=b+p.At.toNat+1
 iC:∀ p∈r,cd.getD (b+p.At.toNat) 0=(i:Int)+1
 Bg:∀ k,(∀ p∈r,b+p.At.toNat≠k)->cd.getD k 0=c.b3.getD k 0
 val:∀ p∈r,v.getD (b+p.At.toNat) 0=p.b8
 K0:∀ k,(∀ p∈r,b+p.At.toNat≠k)->v.getD k 0=c.b8.getD k 0
structure Step (r:fE) (i:Nat) (c fS:fz) (b:Nat):Prop where
 fit:Fit c.b3 r b
 least:∀ eC,eC<b->¬ Fit c.b3 r eC
 base:fS.cS=c.cS.set i (b:Int)
 put:tr c r i b fS.b8 fS.b3
theorem Fit.same {iC:List Int}{r dm:fE}(h:∀ p,p∈r↔p∈dm) {b:Nat}:Fit iC r b↔Fit iC dm b :=
 ⟨λf p au=>f p ((h p).2 au),λf p au=>f p ((h p).1 au)⟩
inductive dQ (rows:List fE):List Nat->fz->Prop
 | nil:dQ rows [] ⟨List.replicate rows.length 0,[],[]⟩
 | cons {i b:Nat}{l:List Nat}{c fS:fz}{r:fE}(ao:rows[i]?=some r) (hi:i∉l) (h:dQ rows l c) (aB:Step r i c fS b):dQ rows (i::l) fS
theorem dQ.len {rows:List fE}{l:List Nat}{c:fz}(h:dQ rows l c):c.b8.length=c.b3.length/\c.cS.length=rows.length:=by
 induction h with
 | nil=>simp
 | cons _ _ _ aB aU=>exact ⟨aB.put.len,by rw [aB.base,List.length_set]; exact aU.2⟩
theorem dQ.rest {rows:List fE}{l:List Nat}{c:fz}(h:dQ rows l c):∀ j,j<rows.length->j∉l->c.cS[j]?=some 0:=by
 induction h with
 | nil=>intro j ah _; simp [ah]
 | @cons i b l c fS r ao hi h aB aU =>
  intro j ah aF;rw [aB.base,List.getElem?_set_ne (by rintro rfl; exact aF (by simp))];exact aU j ah λbY=>aF (by simp [bY])
theorem pad (x y:Int) (K:Nat) (di:aJ (x+y)=(K:Int)) (acv:K<=1000000000) (v cd:List Int) (aj:v.length=cd.length) (av:cd.length<=1000000000) :
  Tot (b2 (R:=List Int × List Int) (λ(s:List Int × List Int) =>
(bif decide ((s.2.length:Int)<=aJ (x+y)) then
(c' s.2 [0]).bind λc0 =>
(c' s.1 [0]).bind λgh =>
some (.inl (s.1++[0],s.2++[0]))
else
some (.inr (s.1,s.2)))) (v,cd)) λr=>r.1.length=r.2.length/\r.2.length=max cd.length (K+1)/\(∀ k,r.1.getD k 0=v.getD k 0)/\∀ k,r.2.getD k 0=cd.getD k 0:=by
 have app:∀ (l:List Int) k,(l++[0]).getD k 0=l.getD k 0:=by
  intro l k;rw [List.getD_eq_getElem?_getD,List.getD_eq_getElem?_getD];by_cases hk:k<l.length
  ·rw [List.getElem?_append_left hk]
  ·rw [List.getElem?_append_right (by omega),List.getElem?_eq_none (l:=l) (by omega)];by_cases aQ:k - l.length=0
   ·rw [aQ]; rfl
   ·rw [List.getElem?_eq_none (by simp; omega)]
 refine Tot.loop (λs=>s.1.length=s.2.length/\cd.length<=s.2.length/\s.2.length<=max cd.length (K+1)/\(∀ k,s.1.getD k 0=v.getD k 0)/\∀ k,s.2.getD k 0=cd.getD k 0) (λs=>(K+1) - s.2.length) ⟨aj,Nat.le_refl _,Nat.le_max_left _ _,λ_=>rfl,λ_=>rfl⟩ (by show (K+1) - cd.length<1000000000000000000; omega) λs aB=>?_;obtain ⟨h1,af,aI,bF,cG⟩:=aB;rw [di];refine Tot.bp (λhle=>?_) (λacJ=>.aq ⟨h1,?_,bF,cG⟩)
 ·refine .aA (Ξ:=λ_=>True) (Tot.ap (by simp [lim]; omega) trivial) λ_ _=>.aA (Ξ:=λ_=>True) (Tot.ap (by simp [lim]; omega) trivial) λ_ _=>.aq ⟨⟨?_,?_,?_,λk=>?_,λk=>?_⟩,?_⟩
  ·show (s.1++[0]).length=(s.2++[0]).length; simp [h1]
  ·show cd.length<=(s.2++[0]).length; simp; omega
  ·show (s.2++[0]).length<=_; simp; omega
  ·exact (app _ _).trans (bF k)
  ·exact (app _ _).trans (cG k)
  ·show (K+1) - (s.2++[0]).length<(K+1) - s.2.length;simp; omega
 ·show s.2.length=_; omega
theorem zj (l:List Int) (K k:Nat) (x:Int) (h:K<l.length):(l.set K x).getD k 0=if k=K then x else l.getD k 0:=by
 rw [List.getD_eq_getElem?_getD,List.getElem?_set];by_cases e:k=K
 ·subst e; simp [h]
 ·simp [e,Ne.symm e,List.getD_eq_getElem?_getD]
theorem tr.more {c:fz}{r:fE}{p:b4}{i b:Nat}{v cd gx Bf:List Int}(h:tr c r i b v cd) (au:∀ q∈r,q.At.toNat≠p.At.toNat) (aj:gx.length=Bf.length) (hlen:Bf.length=max cd.length (b+p.At.toNat+1)) (hv:∀ k,gx.getD k 0=v.getD k 0) (aa:∀ k,Bf.getD k 0=cd.getD k 0) :
  tr c (r++[p]) i b (gx.set (b+p.At.toNat) p.b8) (Bf.set (b+p.At.toNat) ((i:Int)+1)):=by
 have di:b+p.At.toNat<Bf.length:=by omega
 have mem:∀ {Q:b4->Prop},(∀ q∈r,Q q)->Q p->∀ q∈r++[p],Q q:=λh1 af q bg=>by
  rcases List.mem_append.1 bg with bg | bg
  ·exact h1 q bg
  ·rw [List.mem_singleton.1 bg]; exact af
 refine ⟨by simp [aj],?_,mem (λq bg=>?_) ?_,?_,mem (λq bg=>?_) ?_,λk hk=>?_,mem (λq bg=>?_) ?_,λk hk=>?_⟩
 ·rw [List.length_set]; have:=h.lo; omega
 ·rw [List.length_set]; have:=h.OE q bg; omega
 ·rw [List.length_set]; exact di
 ·rw [List.length_set];by_cases hm:cd.length<=b+p.At.toNat+1
  ·exact .inr ⟨p,by simp,by omega⟩
  ·rcases h.hi with e | ⟨q,bg,e⟩
   ·exact .inl (by omega)
   ·exact .inr ⟨q,by simp [bg],by omega⟩
 ·rw [zj _ _ _ _ di,if_neg (by have:=au q bg; omega),aa]; exact h.iC q bg
 ·rw [zj _ _ _ _ di,if_pos rfl]
 ·rw [zj _ _ _ _ di,if_neg (λe=>hk p (by simp) e.symm),aa]; exact h.Bg k λq bg=>hk q (by simp [bg])
 ·rw [zj _ _ _ _ (by rw [aj]; exact di),if_neg (by have:=au q bg; omega),hv]; exact h.val q bg
 ·rw [zj _ _ _ _ (by rw [aj]; exact di),if_pos rfl]
 ·rw [zj _ _ _ _ (by rw [aj]; exact di),if_neg (λe=>hk p (by simp) e.symm),hv]; exact h.K0 k λq bg=>hk q (by simp [bg])
theorem tr.nil (c:fz) (i b:Nat) (aj:c.b8.length=c.b3.length):tr c [] i b c.b8 c.b3 :=
 ⟨aj,Nat.le_refl _,λ_ h=>absurd h (by simp),.inl rfl,λ_ h=>absurd h (by simp),λ_ _=>rfl,λ_ h=>absurd h (by simp),λ_ _=>rfl⟩
theorem Fit.MK {iC:List Int}{r:fE}{b:Nat}(h:iC.length<=b):Fit iC r b:=λp _=>by
 rw [List.getD_eq_getElem?_getD,List.getElem?_eq_none (by omega)]; rfl
theorem P9 {r:fE}{k:Nat}(ao:lF r) (hk:k<r.length):∀ q∈r.take k,q.At.toNat≠(r[k]).At.toNat:=by
 intro q bg e;obtain ⟨j,ah,rfl⟩:=List.mem_iff_getElem.1 bg;rw [List.length_take] at ah;have eZ:j<r.length:=by omega
 rw [List.getElem_take] at e;have h1:=ao.ml _ (List.getElem_mem eZ);have af:=ao.ml _ (List.getElem_mem hk);have fp:=ao.nd;have:=(List.getElem_inj (h₀:=by simpa using eZ) (h₁:=by simpa using hk) fp).1 (by simp only [List.getElem_map]; omega);omega
structure p_ (rows:List fE):Prop where
 n:rows.length<=400
 rows:∀ r∈rows,lF r
structure D0 (rows:List fE):Prop where
 n:rows.length<=1000
 r:∀ r∈rows,r.length<=1000
theorem YU (rows:List fE) (ff:D0 rows) (i:Nat) (r:fE) (ao:rows[i]?=some r) (kV:lF r) (c:fz) (aa:c.b3.length<=900000) (aQ:c.cS[i]?=some 0) (fits:List Int->fE->Int->Option Bool)
  (aW:∀ b:Nat,b<=1000000->Tot (fits c.b3 r b) λx=>(x=true↔Fit c.b3 r b)) :
  Tot (b2 (R:=List Int) (λ(dd:List Int) =>
(idx rows (i:Int)).bind λfZ =>
(idx dd (i:Int)).bind λfj =>
(fits c.b3 fZ fj).bind λgg =>
(bif !gg then
(idx dd (i:Int)).bind λgA =>
some (.inl (dd.set (i:Int).toNat (aJ (gA+1))))
else
some (.inr dd))) c.cS) λB=>∃ b:Nat,B=c.cS.set i (b:Int)/\Fit c.b3 r b/\(∀ eC,eC<b->¬ Fit c.b3 r eC)/\b<=c.b3.length:=by
 have ua:i<c.cS.length:=(List.getElem?_eq_some_iff.1 aQ).1;have t_:idx rows (i:Int)=some r:=by simp [idx,ao]
 have Wl:c.cS=c.cS.set i 0:=by
  apply List.ext_getElem?;intro k;rw [List.getElem?_set];by_cases e:i=k
  ·subst e; rw [aQ]; simp [ua]
  ·simp [e]
 have key:Tot (b2 (R:=List Int) (λ(dd:List Int) =>
(idx rows (i:Int)).bind λfZ =>
(idx dd (i:Int)).bind λfj =>
(fits c.b3 fZ fj).bind λgg =>
(bif !gg then
(idx dd (i:Int)).bind λgA =>
some (.inl (dd.set (i:Int).toNat (aJ (gA+1))))
else
some (.inr dd))) (c.cS.set i 0)) λB=>∃ b:Nat,B=c.cS.set i (b:Int)/\Fit c.b3 r b/\(∀ eC,eC<b->¬ Fit c.b3 r eC)/\b<=c.b3.length:=by
  refine Tot.loop (λs=>∃ b:Nat,s=c.cS.set i (b:Int)/\(∀ eC,eC<b->¬ Fit c.b3 r eC)/\b<=c.b3.length) (λs=>c.b3.length+1 - (s.getD i 0).toNat) ⟨0,rfl,λeC h=>absurd h (Nat.not_lt_zero _),Nat.zero_le _⟩ (by show c.b3.length+1 - _<1000000000000000000; omega) λs aB=>?_;obtain ⟨b,rfl,aj,av⟩:=aB;have Wo:idx (c.cS.set i (b:Int)) (i:Int)=some (b:Int):=by
   simp [idx,ua]
  rw [t_,Wo];refine Tot.aV (Tot.aV (.aA (aW b (by omega)) λx J=>?_));refine Tot.bE (λh=>Tot.aV (.aq ⟨⟨b+1,?_,λeC l3=>?_,?_⟩,?_⟩)) (λh=>.aq ⟨b,rfl,J.1 (by simpa using h),aj,av⟩)
  ·have hw:aJ ((b:Int)+1)=((b+1:Nat):Int):=by rw [cA]; omega
   rw [hw];show (c.cS.set i (b:Int)).set i _=_;rw [List.set_set]
  ·by_cases e:eC=b
   ·subst e;intro xf;rw [J.2 xf] at h; cases h
   ·exact aj eC (by omega)
  ·have:¬ c.b3.length<=b:=λaR=>by
    rw [J.2 (Fit.MK aR)] at h; cases h
   omega
  ·have hw:aJ ((b:Int)+1)=((b+1:Nat):Int):=by rw [cA]; omega
   rw [hw];show c.b3.length+1 - ((((c.cS.set i (b:Int)).set i ((b+1:Nat):Int)).getD i 0).toNat)<c.b3.length+1 - ((c.cS.set i (b:Int)).getD i 0).toNat;rw [List.set_set];have g:∀ x:Int,(c.cS.set i x).getD i 0=x:=λx=>by simp [List.getD_eq_getElem?_getD,ua]
   rw [g,g];have:¬ c.b3.length<=b:=λaR=>by
    rw [J.2 (Fit.MK aR)] at h; cases h
   omega
 rw [<- Wl] at key;exact key
theorem Yo (r:fE) (kV:lF r) (l6:r.length<=1000) (i b:Nat) (hi:i<=100000) (c:fz) (gX:c.b8.length=c.b3.length) (aa:c.b3.length<=900000) (av:b<=c.b3.length)
  (f:List Int × List Int × Int->Option ((List Int × List Int × Int) ⊕ (List Int × List Int)))
  (aW:∀ (v cd:List Int) (k:Nat) (hk:k<r.length),f (v,cd,(k:Int))=(b2 (R:=List Int × List Int) (λ(s:List Int × List Int) =>
(bif decide ((s.2.length:Int)<=aJ ((b:Int)+(r[k]).At)) then
(c' s.2 [0]).bind λc0 =>
(c' s.1 [0]).bind λgh =>
some (.inl (s.1++[0],s.2++[0]))
else
some (.inr (s.1,s.2)))) (v,cd)).bind λeg =>
(idx eg.2 (aJ ((b:Int)+(r[k]).At))).bind λp0 =>
(idx eg.1 (aJ ((b:Int)+(r[k]).At))).bind λjD =>
some (.inl (eg.1.set (aJ ((b:Int)+(r[k]).At)).toNat (r[k]).b8,eg.2.set (aJ ((b:Int)+(r[k]).At)).toNat (aJ ((i:Int)+1)),aJ ((k:Int)+1))))
  (he:∀ (v cd:List Int) (k:Int),¬ k<r.length->f (v,cd,k)=some (.inr (v,cd))) :
  Tot (b2 f (c.b8,c.b3,0)) λx=>tr c r i b x.1 x.2/\x.2.length<=c.b3.length+1000:=by
 refine Tot.count (λs=>s.2.2) r.length (λs=>∃ k:Nat,k<=r.length/\s.2.2=(k:Int)/\tr c (r.take k) i b s.1 s.2.1) ⟨0,Nat.zero_le _,rfl,tr.nil c i b gX⟩ (by show (r.length:Int) - 0<_; omega) λs aB=>?_;obtain ⟨v,cd,k1⟩:=s;obtain ⟨k,hk,rfl,cn⟩:=aB;simp only at cn ⊢;by_cases aT:k<r.length
 ·rw [aW v cd k aT];have au:=kV.ml _ (List.getElem_mem aT);have di:aJ ((b:Int)+(r[k]).At)=((b+(r[k]).At.toNat:Nat):Int):=by rw [cA]; omega
  have acB:cd.length<=1000000:=by
   rcases cn.hi with e | ⟨q,bg,e⟩
   ·omega
   ·have:=kV.ml q (List.mem_of_mem_take bg);omega
  refine .aA (pad _ _ _ di (by omega) v cd cn.len (by omega)) λx J=>?_;obtain ⟨h1,af,aI,bF⟩:=J;rw [di];have zv:b+(r[k]).At.toNat<x.2.length:=by omega
  have VY:b+(r[k]).At.toNat<x.1.length:=by omega
  rw [sU zv,sU VY];have WH:aJ ((i:Int)+1)=(i:Int)+1:=by rw [cA]; omega
  have qs:aJ ((k:Int)+1)=((k+1:Nat):Int):=by rw [cA]; omega
  rw [WH,qs];refine Tot.aV (Tot.aV (.aq ⟨⟨k+1,by omega,rfl,?_⟩,?_,?_⟩))
  ·rw [List.take_add_one,List.getElem?_eq_getElem aT];exact cn.more (P9 kV aT) h1 af aI bF
  ·grind
  grind
 ·rw [he v cd k (by omega)];have:k=r.length:=by omega
  subst this;rw [List.take_length] at cn;refine .aq ⟨cn,?_⟩;show cd.length<=c.b3.length+1000;rcases cn.hi with e | ⟨q,bg,e⟩
  ·omega
  ·have:=kV.ml q bg;omega
theorem lF.snoc {r:fE}{p:b4}(h:lF r) (au:0<=p.At/\p.At<=999) (aF:p.At∉r.map (·.At)):lF (r++[p]):=by
 refine ⟨λq bg=>?_,?_⟩
 ·rcases List.mem_append.1 bg with bg | bg
  ·exact h.ml q bg
  ·rw [List.mem_singleton.1 bg]; exact au
 ·rw [List.map_append,List.nodup_append];refine ⟨h.nd,by simp,λa aP b av e=>?_⟩;have av:b∈[p.At]:=av;rw [List.mem_singleton.1 av] at e;exact aF (e ▸ aP)
theorem lF.nil:lF []:=⟨λ_ h=>absurd h (by simp),by simp⟩
theorem lF.bad {r:fE}{k:Nat}(hk:k<r.length) (h:¬ (0<=(r[k]).At/\(r[k]).At<=999)\/(r[k]).At∈(r.take k).map (·.At)):¬ lF r:=by
 intro ao;rcases h with h | h
 ·exact h (ao.ml _ (List.getElem_mem hk))
 ·obtain ⟨q,bg,e⟩:=List.mem_map.1 h;exact P9 ao hk q bg (by have e:q.At=(r[k]).At:=e; rw [e])
theorem YG {rows:List fE}{r:fE}(ao:r∈rows) (h:¬ lF r):¬ p_ rows:=λbY=>h (bY.rows r ao)
theorem KW {r:fE}{k:Nat}(h:k<r.length):r.take (k+1)=r.take k++[r[k]]:=by
 rw [List.take_add_one,List.getElem?_eq_getElem h]; rfl
theorem Sx (rows:List fE) (ff:D0 rows):Tot (Am rows) λc=>(c=true↔p_ rows):=by
 unfold Am;have aF:=ff.n;refine Tot.bp (λh=>.aq ⟨λh=>(by cases h),λbY=>by have:=bY.n; omega⟩) (λab'=>?_);refine Tot.aA (Tot.scan rows lF (λx:Bool=>x=false/\¬ p_ rows) (by omega) (λs r aQ h1 hi hm=>?_) (λs aB=>by simp [aB])) λx J=>?_
 ·refine Tot.bp (λ_=>?_) (λh=>absurd h1 h);rw [hi];have l6:=ff.r r hm;refine Tot.aV (.aA (Ξ:=hn (λ_=>lF r) (λx:Bool=>x=false/\¬ p_ rows)) ?_ λx J=>?_)
  ·refine Tot.count (λs=>s.2) r.length (λs=>∃ k:Nat,k<=r.length/\s.2=(k:Int)/\s.1.length=1000/\lF (r.take k)/\∀ j,j<1000->(s.1.getD j false=true↔(j:Int)∈(r.take k).map (·.At))) ⟨0,Nat.zero_le _,rfl,List.length_replicate ..,lF.nil,λj ah=>by
   show ((List.replicate 1000 false).getD j false=true↔_);rw [List.getD_eq_getElem?_getD,List.getElem?_replicate,if_pos ah];simp⟩ (by show (r.length:Int) - 0<_; omega) λs aB=>?_
   obtain ⟨met,k1⟩:=s;obtain ⟨k,hk,rfl,vp,db,IS⟩:=aB;simp only at vp IS ⊢;refine Tot.bp (λaT=>?_) (λdV=>.aq ?_)
   ·have aT:k<r.length:=by omega
    rw [sU aT];have hw:aJ ((k:Int)+1)=((k+1:Nat):Int):=by rw [cA]; omega
    rw [hw];have er:0<=(r[k]).At/\(r[k]).At<=999->xx 1000 met (r[k]).At=some (met.getD (r[k]).At.toNat false):=by
     intro h;unfold xx;rw [if_pos (by omega)];have:(r[k]).At.toNat<met.length:=by omega
     simp [idx,h.1,this,List.getD_eq_getElem?_getD]
    refine Tot.aV (.aA (Ξ:=λc=>(c=true↔(¬ (0<=(r[k]).At/\(r[k]).At<=999)\/(r[k]).At∈(r.take k).map (·.At)))) ?_ λc aa=>Tot.bE (λh=>.aq ⟨rfl,YG hm (lF.bad aT (aa.1 h))⟩) (λh=>?_))
    ·refine Tot.bp (λh=>.aq ⟨λ_=>.inl (by omega),λ_=>rfl⟩) (λh=>Tot.bp (λaR=>.aq ⟨λ_=>.inl (by omega),λ_=>rfl⟩) (λaR=>?_));have au:0<=(r[k]).At/\(r[k]).At<=999:=by omega
     rw [er au];refine Tot.aV (.aq ?_);rw [IS _ (by omega)];have e:(((r[k]).At.toNat:Nat):Int)=(r[k]).At:=by omega
     rw [e];exact ⟨λh=>.inr h,λh=>h.resolve_left λaF=>aF au⟩
    ·have VJ:(0<=(r[k]).At/\(r[k]).At<=999)/\(r[k]).At∉(r.take k).map (·.At):=by
      refine ⟨Classical.byContradiction λaF=>?_,λaF=>?_⟩
      ·rw [aa.2 (.inl aF)] at h; cases h
      ·rw [aa.2 (.inr aF)] at h; cases h
     obtain ⟨au,aF⟩:=VJ;rw [er au];refine Tot.aV (.aq ⟨⟨k+1,by omega,rfl,by show (met.set _ _).length=_; simp [vp],?_,λj ah=>?_⟩,?_,?_⟩)
     ·rw [KW aT]; exact db.snoc au aF
     ·show ((met.set (r[k]).At.toNat true).getD j false=true↔_);rw [KW aT,List.map_append,List.mem_append,List.getD_eq_getElem?_getD,List.getElem?_set];by_cases e:(r[k]).At.toNat=j
      ·subst e;have aj:(r[k]).At.toNat<met.length:=by omega
       have b9:(((r[k]).At.toNat:Nat):Int)=(r[k]).At:=by omega
       rw [if_pos rfl,if_pos aj,b9];simp
      ·rw [if_neg e,<- List.getD_eq_getElem?_getD,IS j ah];constructor
       ·exact .inl
       ·rintro (h | h)
        ·exact h
        ·have h:(j:Int)∈[(r[k]).At]:=h;have:=List.mem_singleton.1 h;omega
     ·show (k:Int)<((k+1:Nat):Int); omega
     ·show ((k+1:Nat):Int)<=_; omega
   ·have:k=r.length:=by omega
    subst this;rw [List.take_length] at db;exact db
  ·rcases x with _ | x
   ·exact .aq ⟨by rw [cA]; omega,J⟩
   ·exact .aq J
 ·rcases x with _ | x
  ·have J:∀ r∈rows,lF r:=J;exact .aq ⟨λ_=>⟨by omega,J⟩,λ_=>rfl⟩
  ·obtain ⟨rfl,av⟩:x=false/\¬ p_ rows:=J;exact .aq ⟨λh=>(by cases h),λh=>absurd h av⟩
def kC (rows:List fE) (a:Int):Nat:=((idx rows a).map List.length).getD 0
def jy (rows:List fE) (a b:Int):Bool:=decide (kC rows b<kC rows a\/(kC rows a=kC rows b/\a<b))
theorem OX {rows:List fE}{a b:Int}:jy rows a b=true↔(kC rows b<kC rows a\/(kC rows a=kC rows b/\a<b)):=by simp [jy]
theorem JU {rows:List fE}{a b:Int}:jy rows a b=false↔¬ (kC rows b<kC rows a\/(kC rows a=kC rows b/\a<b)):=by simp [jy]
theorem OY (rows:List fE):SWO (jy rows) where
 irrefl x:=by rw [JU]; omega
 trans x y z h1 af:=by rw [OX] at *; omega
 ntrans x y z h1 af:=by rw [JU] at *; omega
theorem JV {rows:List fE}{a b:Int}(h1:jy rows a b=false) (af:jy rows b a=false):a=b:=by
 rw [JU] at *; omega
theorem Mi (rows:List fE) (a b:Int) (aP:0<=a/\a<rows.length) (av:0<=b/\b<rows.length):∃ v,v7 a b rows=some v/\(v<0↔jy rows a b=true):=by
 obtain ⟨v,hv,h⟩:=Sy rows a b aP av;refine ⟨v,hv,h.trans ?_⟩;obtain ⟨x,J,_⟩:=E7 aP.1 aP.2;obtain ⟨y,ax,_⟩:=E7 av.1 av.2;rw [OX];unfold DP kC;rw [J,ax];constructor
 ·rintro ⟨x',y',cy,b9,h⟩;cases cy; cases b9; exact h
 ·intro h;exact ⟨x,y,rfl,rfl,h⟩
theorem Cj {α:Type}{lt lt':α->α->Bool}(x:α):∀ l:List α,(∀ y∈l,lt y x=lt' y x)->ins lt x l=ins lt' x l
 | [],_=>rfl
 | y::l,h=>by
  simp only [ins,h y (by simp)];rw [Cj x l λz aX=>h z (by simp [aX])]
theorem Cl {α:Type}{lt lt':α->α->Bool}:∀ l:List α,(∀ a∈l,∀ b∈l,lt a b=lt' a b)->ia lt l=ia lt' l
 | [],_=>rfl
 | x::l,h=>by
  simp only [ia];rw [Cl l λa aP b av=>h a (by simp [aP]) b (by simp [av])];exact Cj x _ λy ax=>h y (by simp [(sV lt' l).mem_iff.1 ax]) x (by simp)
structure p7 (rows:List fE) (o:List Nat):Prop where
 mem:∀ i,i∈o↔∃ r,rows[i]?=some r/\r≠[]
 nd:o.Nodup
 Ks:o.Pairwise λ(a b:Nat)=>jy rows (b:Int) (a:Int)=false
theorem p7.uniq {rows:List fE}{o gm:List Nat}(h:p7 rows o) (aR:p7 rows gm):o=gm :=
 List.Perm.eq_of_pairwise (le:=λ(a b:Nat)=>jy rows (b:Int) (a:Int)=false) (λa b _ _ h1 af=>by have:=JV af h1; omega) h.Ks aR.Ks ((List.perm_ext_iff_of_nodup h.nd aR.nd).2 λi=>(h.mem i).trans (aR.mem i).symm)
theorem p7.lt {rows:List fE}{o:List Nat}(h:p7 rows o) {i:Nat}(hi:i∈o):i<rows.length:=by
 obtain ⟨r,ao,_⟩:=(h.mem i).1 hi;exact (List.getElem?_eq_some_iff.1 ao).1
theorem p7.len {rows:List fE}{o:List Nat}(h:p7 rows o):o.length<=rows.length:=by
 have:∀ (l m:List Nat),l.Nodup->(∀ x∈l,x∈m)->l.length<=m.length:=by
  intro l
  induction l with
  | nil=>intro m _ _; exact Nat.zero_le _
  | cons x l aU =>
   intro m aS hm;have J:=hm x (by simp);have n_:=List.nodup_cons.1 aS;have:=aU (m.erase x) n_.2 λy ax=>(List.mem_erase_of_ne (λe=>n_.1 (by rw [<- e]; exact ax))).2 (hm y (by simp [ax]));have aj:=List.length_erase_of_mem J;have au:=List.length_pos_of_mem J;simp only [List.length_cons];omega
 have:=this o (List.range rows.length) h.nd λx J=>by simpa using h.lt J
 simpa using this
theorem Y' (rows:List fE) (l:List Int) (aj:∀ a∈l,0<=a/\a<rows.length) (aF:l.length<=100000):pW (λa b=>v7 a b rows) l=some (ia (jy rows) l):=by
 have aT:∀ a∈l,∀ b∈l,kD (λa b=>v7 a b rows) a b=jy rows a b:=by
  intro a aP b av;obtain ⟨v,hv,h⟩:=Mi rows a b (aj a aP) (aj b av);unfold kD;simp only [hv,Option.getD_some];cases hk:jy rows a b with
  | true=>exact decide_eq_true (h.2 hk)
  | false=>exact decide_eq_false λbY=>by rw [h.1 bY] at hk; cases hk
 unfold pW;rw [if_pos]
 ·rw [Cl l aT]
 ·simp only [Bool.and_eq_true,decide_eq_true_eq,List.all_eq_true];refine ⟨⟨λa aP b av=>?_,?_⟩,by omega⟩
  ·obtain ⟨v,hv,_⟩:=Mi rows a b (aj a aP) (aj b av);rw [hv]; rfl
  ·unfold zY;simp only [List.all_eq_true,Bool.and_eq_true,Bool.or_eq_true,Bool.not_eq_true',decide_eq_true_eq];have bj:=OY rows;intro a aP;refine ⟨by rw [aT a aP a aP]; exact bj.irrefl a,λb av=>⟨?_,λc aa=>⟨?_,?_⟩⟩⟩
   ·rw [aT a aP b av,aT b av a aP];cases h1:jy rows a b with
    | true=>exact .inl (.inl rfl)
    | false =>
     cases af:jy rows b a with
     | true=>exact .inl (.inr rfl)
     | false=>exact .inr (JV h1 af)
   ·rw [aT a aP b av,aT b av c aa,aT a aP c aa];cases h1:jy rows a b with
    | false=>exact .inl rfl
    | true =>
     cases af:jy rows b c with
     | false=>exact .inl rfl
     | true=>exact .inr (bj.trans _ _ _ h1 af)
   ·rw [aT a aP b av,aT b av c aa,aT a aP c aa];cases h1:jy rows a b with
    | true=>exact .inl (.inl rfl)
    | false =>
     cases af:jy rows b c with
     | true=>exact .inl (.inr rfl)
     | false=>exact .inr (bj.ntrans _ _ _ h1 af)
theorem Sq (rows:List fE) (ff:D0 rows):Tot (Ai rows) λc=>(¬ p_ rows->c=⟨[],[],[]⟩)/\(p_ rows->c.b3.length<=900000/\∃ o,p7 rows o/\dQ rows o.reverse c):=by
 unfold Ai;refine .aA (Sx rows ff) λa8 h1=>Tot.bE (λh=>.aq ⟨λ_=>rfl,λdb=>by rw [h1.2 db] at h; cases h⟩) (λh=>?_);have db:p_ rows:=h1.1 (by simpa using h);refine Tot.use (Φ:=λc=>(¬ p_ rows->c=⟨[],[],[]⟩)/\(p_ rows->c.b3.length<=900000/\∃ o,p7 rows o/\dQ rows o.reverse c)) (Ψ:=λc=>c.b3.length<=900000/\∃ o,p7 rows o/\dQ rows o.reverse c) ?_ λc aa=>⟨λaF=>absurd db aF,λ_=>aa⟩;have aF:=db.n;refine .aA (Ξ:=λl=>l=List.replicate rows.length 0) (Tot.mk (by simp [lim]; omega) (by simp)) λa7 aI=>?_;subst aI;refine .aA (Ξ:=λl=>∃ o:List Nat,l=o.map (λ(j:Nat)=>(j:Int))/\o.Nodup/\o.length<=400/\∀ j,j∈o↔∃ r,rows[j]?=some r/\r≠[]) ?_ λbS cG=>?_
 ·refine Tot.count (λs=>s.2) rows.length (λs=>∃ k:Nat,k<=rows.length/\s.2=(k:Int)/\∃ o:List Nat,s.1=o.map (λ(j:Nat)=>(j:Int))/\o.Nodup/\o.length<=k/\∀ j,j∈o↔j<k/\∃ r,rows[j]?=some r/\r≠[]) ⟨0,Nat.zero_le _,rfl,[],rfl,List.nodup_nil,Nat.le_refl 0,λj=>by simp⟩ (by show (rows.length:Int) - 0<_; omega) λs aB=>?_;obtain ⟨l,k1⟩:=s;obtain ⟨k,hk,rfl,o,rfl,fp,xk,hm⟩:=aB;simp only;have hw:aJ ((k:Int)+1)=((k+1:Nat):Int):=by rw [cA]; omega
  rw [hw];refine Tot.bp (λaT=>?_) (λdV=>.aq ⟨o,rfl,fp,by omega,λj=>?_⟩)
  ·have aT:k<rows.length:=by omega
   rw [sU aT];have r8:rows[k]?=some rows[k]:=List.getElem?_eq_getElem aT;have VT:k∉o:=λh=>by have:=((hm k).1 h).1; omega
   refine .aA (Ξ:=λl=>∃ gm:List Nat,l=gm.map (λ(j:Nat)=>(j:Int))/\gm.Nodup/\gm.length<=k+1/\∀ j,j∈gm↔j<k+1/\∃ r,rows[j]?=some r/\r≠[]) ?_ λl aj=>.aq ⟨⟨k+1,by omega,rfl,aj⟩,?_,?_⟩
   ·refine Tot.aV (.aA (Ξ:=λl=>∃ gm:List Nat,l=gm.map (λ(j:Nat)=>(j:Int))/\gm.Nodup/\gm.length<=k+1/\∀ j,j∈gm↔j<k+1/\∃ r,rows[j]?=some r/\r≠[]) ?_ λl aj=>.aq aj);refine Tot.bp (λau=>?_) (λau=>.aq ⟨o,rfl,fp,by omega,λj=>?_⟩)
    ·refine .aA (Ξ:=λ_=>True) (Tot.ap (by simp [lim]; omega) trivial) λ_ _=>.aq ⟨o++[k],by simp,?_,by simp; omega,λj=>?_⟩
     ·rw [List.nodup_append];exact ⟨fp,by simp,λa aP b av e=>VT (by rw [<- List.mem_singleton.1 av,<- e]; exact aP)⟩
     ·rw [List.mem_append,hm j,List.mem_singleton];constructor
      ·rintro (⟨h1,af⟩ | rfl)
       ·exact ⟨by omega,af⟩
       ·exact ⟨by omega,_,r8,λe=>by rw [e] at au; simp at au⟩
      ·rintro ⟨h1,af⟩;by_cases e:j=k
       ·exact .inr e
       ·exact .inl ⟨by omega,af⟩
    ·rw [hm j];constructor
     ·rintro ⟨h1,af⟩;exact ⟨by omega,af⟩
     ·rintro ⟨h1,r,af,aI⟩;refine ⟨?_,r,af,aI⟩;have:j≠k:=by
       rintro rfl;rw [r8] at af; cases af;have:(rows[j]).length≠0:=λe=>aI (List.eq_nil_of_length_eq_zero e);omega
      omega
   ·show (k:Int)<((k+1:Nat):Int); omega
   ·show ((k+1:Nat):Int)<=_; omega
  ·have:k=rows.length:=by omega
   subst this;rw [hm j];constructor
   ·exact λh=>h.2
   ·rintro ⟨r,ao,h⟩;exact ⟨(List.getElem?_eq_some_iff.1 ao).1,r,ao,h⟩
 obtain ⟨zU,rfl,V5,ac6,zx⟩:=cG;have vm:∀ a∈zU.map (λ(j:Nat)=>(j:Int)),0<=a/\a<rows.length:=by
  intro a aP;obtain ⟨j,ah,rfl⟩:=List.mem_map.1 aP;obtain ⟨r,ao,_⟩:=(zx j).1 ah;have:=(List.getElem?_eq_some_iff.1 ao).1;omega
 rw [Y' rows _ vm (by simp; omega)];refine Tot.aV ?_
 -- the order, az places
 obtain ⟨o,a1,hOr⟩:∃ o:List Nat,ia (jy rows) (zU.map λ(j:Nat)=>(j:Int))=o.map (λ(j:Nat)=>(j:Int))/\p7 rows o:=by
  refine ⟨ia (λa b:Nat=>jy rows (a:Int) (b:Int)) zU,?_,?_⟩
  ·exact (E8 (lt:=λa b:Nat=>jy rows (a:Int) (b:Int)) (lt':=jy rows) (f:=λ(j:Nat)=>(j:Int)) (λa b=>rfl) zU).symm
  ·have bj:=OY rows;have au:=sV (λa b:Nat=>jy rows (a:Int) (b:Int)) zU;refine ⟨λi=>(au.mem_iff).trans (zx i),au.nodup_iff.2 V5,?_⟩;have aB:=E9 (lt:=λa b:Nat=>jy rows (a:Int) (b:Int)) ⟨λx=>bj.irrefl _,λx y z=>bj.trans _ _ _,λx y z=>bj.ntrans _ _ _⟩ zU;exact aB.imp λh=>by simpa using h
 rw [a1];have xk:=hOr.len;refine .aA (Ξ:=λc=>c.b3.length<=900000/\∃ o,p7 rows o/\dQ rows o.reverse c) ?_ λc aa=>.aq aa;refine Tot.count (λs=>s.2) o.length (λs=>∃ k:Nat,k<=o.length/\s.2=(k:Int)/\s.1.b3.length<=1000 * k/\dQ rows (o.take k).reverse s.1) ⟨0,Nat.zero_le _,rfl,Nat.le_refl 0,.nil⟩ (by show (o.length:Int) - 0<_; omega) λs aB=>?_;obtain ⟨c,k1⟩:=s;obtain ⟨k,hk,rfl,gX,h8⟩:=aB;simp only at gX h8 ⊢;have hw:aJ ((k:Int)+1)=((k+1:Nat):Int):=by rw [cA]; omega
 rw [hw];refine Tot.bp (λaT=>?_) (λdV=>.aq ⟨by show c.b3.length<=900000; omega,o,hOr,?_⟩)
 ·rw [List.length_map] at aT;have aT:k<o.length:=by omega
  have IC:idx (o.map λ(j:Nat)=>(j:Int)) (k:Int)=some ((o[k]:Nat):Int):=by
   rw [sU (by simpa using aT)]; simp
  rw [IC];generalize hi:o[k]=i;have NT:i∈o:=by rw [<- hi]; exact List.getElem_mem aT
  obtain ⟨r,ao,ac9⟩:=(hOr.mem i).1 NT;have EE:=hOr.lt NT;have zB:r∈rows:=List.mem_of_getElem? ao;have kV:=db.rows r zB;have l6:=ff.r r zB;have N8:i∉(o.take k).reverse:=by
   rw [List.mem_reverse];intro h;obtain ⟨j,ah,e⟩:=List.mem_iff_getElem.1 h;rw [List.length_take] at ah;rw [List.getElem_take] at e;have:=(List.getElem_inj (i:=j) (j:=k) (h₀:=by omega) (h₁:=aT) hOr.nd).1 (by rw [e,hi]);omega
  have hlen:=h8.len;refine Tot.aV (.aA (YU rows ff i r ao kV c (by omega) (h8.rest i EE N8) x9 λb av=>SA c.b3 r b kV.ml (by omega) (by omega) (by omega)) λB Up=>?_);obtain ⟨b,rfl,xf,VV,q9⟩:=Up;have t_:idx rows (i:Int)=some r:=by simp [idx,ao]
  rw [t_];refine Tot.aV (.aA (Yo r kV l6 i b (by omega) c hlen.1 (by omega) q9 _ (λv cd k hk=>?_) (λv cd k hk=>?_)) λx J=>?_)
  ·have w_:idx (c.cS.set i (b:Int)) (i:Int)=some (b:Int):=by
    have:i<c.cS.length:=by omega
    simp [idx,this]
   have aS:decide ((k:Int)<(r.length:Int))=true:=decide_eq_true (by omega);simp only [aS,cond_true,sU hk,w_,Option.bind_some]
  ·have aS:decide ((k:Int)<(r.length:Int))=false:=decide_eq_false hk;simp only [aS,cond_false]
  ·obtain ⟨cn,aj⟩:=J;refine .aq ⟨⟨k+1,by omega,rfl,?_,?_⟩,?_,?_⟩
   ·show x.2.length<=1000 * (k+1); omega
   ·rw [List.take_add_one,List.getElem?_eq_getElem aT,hi];show dQ rows ((o.take k)++[i]).reverse _;rw [List.reverse_append];exact .cons ao N8 h8 ⟨xf,VV,rfl,cn⟩
   ·show (k:Int)<((k+1:Nat):Int); omega
   ·show ((k+1:Nat):Int)<=_; omega
 ·rw [List.length_map] at dV;have:k=o.length:=by omega
  subst this;rw [List.take_length] at h8;exact h8
def zT (cd:List Int):List Nat:=(List.range cd.length).filter λk=>decide (cd.getD k 0≠0)
def PL (rows:List fE) (i:Nat):Nat:=(rows[i]?.map List.length).getD 0
structure Inv (rows:List fE) (l:List Nat) (c:fz):Prop where
 own:∀ i∈l,∃ (r:fE) (b:Nat),rows[i]?=some r/\c.cS[i]?=some (b:Int)/\∀ p∈r,b+p.At.toNat<c.b3.length/\c.b3.getD (b+p.At.toNat) 0=(i:Int)+1/\c.b8.getD (b+p.At.toNat) 0=p.b8
 K3:∀ k,c.b3.getD k 0≠0->∃ i∈l,∃ (r:fE) (b:Nat),rows[i]?=some r/\c.cS[i]?=some (b:Int)/\∃ p∈r,k=b+p.At.toNat/\c.b3.getD k 0=(i:Int)+1
 zero:∀ k,c.b3.getD k 0=0->c.b8.getD k 0=0
 last:c.b3.length=0\/c.b3.getD (c.b3.length - 1) 0≠0
 least:∀ i∈l,∀ b:Nat,c.cS[i]?=some (b:Int)->∀ eC,eC<b->∃ (r:fE) (p:b4) (se:Nat),rows[i]?=some r/\p∈r/\se∈l/\jy rows (se:Int) (i:Int)=true/\c.b3.getD (eC+p.At.toNat) 0=(se:Int)+1
 ht:(zT c.b3).length=(l.map (PL rows)).sum
theorem J0 {cd:List Int}{k:Nat}:k∈zT cd↔cd.getD k 0≠0:=by
 unfold zT;rw [List.mem_filter,List.mem_range];constructor
 ·intro h; simpa using h.2
 ·intro h;refine ⟨Classical.byContradiction λhk=>h ?_,by simpa using h⟩;rw [List.getD_eq_getElem?_getD,List.getElem?_eq_none (by omega)]; rfl
theorem O4 (cd:List Int):(zT cd).Nodup:=List.nodup_range.sublist List.filter_sublist
theorem dQ.inv {rows:List fE}(db:p_ rows) {l:List Nat}{c:fz}(h:dQ rows l c) (I0:l.Pairwise λ(a b:Nat)=>jy rows (a:Int) (b:Int)=false):Inv rows l c:=by
 induction h with
 | nil=>exact ⟨λ_ h=>absurd h (by simp),λk h=>absurd rfl h,λ_ _=>rfl,.inl rfl,λ_ h=>absurd h (by simp),rfl⟩
 | @cons i b l c fS r ao hi h8 aB aU =>
  have Oa:=List.pairwise_cons.1 I0;have I:=aU Oa.2;have kV:=db.rows r (List.mem_of_getElem? ao);have cn:=aB.put;have hlen:=h8.len;have ua:i<c.cS.length:=by rw [hlen.2]; exact (List.getElem?_eq_some_iff.1 ao).1
  have w_:fS.cS[i]?=some (b:Int):=by rw [aB.base]; simp [ua]
  have xa:∀ j,j≠i->fS.cS[j]?=c.cS[j]?:=λj ah=>by rw [aB.base,List.getElem?_set_ne (Ne.symm ah)]
  have dq:∀ j∈l,j≠i:=λj ah e=>hi (e ▸ ah);have free:∀ k,c.b3.getD k 0≠0->∀ p∈r,b+p.At.toNat≠k:=λk hk p au e=>hk (e ▸ aB.fit p au);have keep:∀ k,c.b3.getD k 0≠0->fS.b3.getD k 0=c.b3.getD k 0:=λk hk=>cn.Bg k (free k hk);refine ⟨λj ah=>?_,λk hk=>?_,λk hk=>?_,?_,λj ah hp nB eC aT=>?_,?_⟩
  ·rcases List.mem_cons.1 ah with rfl | ah
   ·exact ⟨r,b,ao,w_,λp au=>⟨cn.OE p au,cn.iC p au,cn.val p au⟩⟩
   ·obtain ⟨dm,eC,h1,af,aI⟩:=I.own j ah;refine ⟨dm,eC,h1,by rw [xa j (dq j ah)]; exact af,λp au=>?_⟩;obtain ⟨g1,g2,g3⟩:=aI p au;have N9:c.b3.getD (eC+p.At.toNat) 0≠0:=by rw [g2]; omega
    exact ⟨Nat.lt_of_lt_of_le g1 cn.lo,by rw [keep _ N9]; exact g2,by rw [cn.K0 _ (free _ N9)]; exact g3⟩
  ·by_cases au:∃ p∈r,b+p.At.toNat=k
   ·obtain ⟨p,au,rfl⟩:=au;exact ⟨i,by simp,r,b,ao,w_,p,au,rfl,cn.iC p au⟩
   ·have e:=cn.Bg k λp B0 e=>au ⟨p,B0,e⟩;rw [e] at hk ⊢;obtain ⟨j,ah,dm,eC,h1,af,aI⟩:=I.K3 k hk;exact ⟨j,by simp [ah],dm,eC,h1,by rw [xa j (dq j ah)]; exact af,aI⟩
  ·by_cases au:∃ p∈r,b+p.At.toNat=k
   ·obtain ⟨p,au,rfl⟩:=au;rw [cn.iC p au] at hk; omega
   ·have aF:∀ p∈r,b+p.At.toNat≠k:=λp B0 e=>au ⟨p,B0,e⟩;rw [cn.Bg k aF] at hk;rw [cn.K0 k aF];exact I.zero k hk
  ·rcases cn.hi with e | ⟨p,au,e⟩
   ·rcases I.last with aQ | aQ
    ·exact .inl (by omega)
    ·exact .inr (by rw [e,keep _ aQ]; exact aQ)
   ·refine .inr ?_;rw [e];show fS.b3.getD (b+p.At.toNat+1 - 1) 0≠0;rw [Nat.add_sub_cancel,cn.iC p au]; omega
  ·rcases List.mem_cons.1 ah with rfl | ah
   ·rw [w_] at nB;have iN:b=hp:=by injection nB with e; omega
    subst iN;have N7:=aB.least eC aT;obtain ⟨p,au,aX⟩:∃ p∈r,c.b3.getD (eC+p.At.toNat) 0≠0 :=
     Classical.byContradiction λaF=>N7 λp au=>Classical.byContradiction λaX=>aF ⟨p,au,aX⟩
    obtain ⟨se,IA,_,_,_,_,_,_,_,e⟩:=I.K3 _ aX;refine ⟨r,p,se,ao,au,by simp [IA],?_,by rw [keep _ aX]; exact e⟩;have h1:=Oa.1 se IA;cases af:jy rows (se:Int) (j:Int) with
    | true=>rfl
    | false=>exact absurd (JV af h1) (by have:=dq se IA; omega)
   ·rw [xa j (dq j ah)] at nB;obtain ⟨dm,p,se,h1,af,aI,bF,cG⟩:=I.least j ah hp nB eC aT;exact ⟨dm,p,se,h1,af,by simp [aI],bF,by rw [keep _ (by rw [cG]; omega)]; exact cG⟩
  ·have B2:(zT fS.b3).Perm (r.map (λp=>b+p.At.toNat)++zT c.b3):=by
    refine (List.perm_ext_iff_of_nodup (O4 _) ?_).2 λk=>?_
    ·rw [List.nodup_append];refine ⟨?_,O4 _,λx J y ax e=>?_⟩
     ·unfold List.Nodup;rw [List.pairwise_map];have:=kV.nd;unfold List.Nodup at this;rw [List.pairwise_map] at this;refine this.imp_of_mem λ{p q} au bg dq=>?_;have h1:=kV.ml p au;have af:=kV.ml q bg;omega
     ·obtain ⟨p,au,rfl⟩:=List.mem_map.1 J;have h1:=J0.1 ax;rw [<- e] at h1;exact h1 (aB.fit p au)
    ·rw [J0,List.mem_append,J0,List.mem_map];by_cases au:∃ p∈r,b+p.At.toNat=k
     ·obtain ⟨p,au,rfl⟩:=au;rw [cn.iC p au];exact ⟨λ_=>.inl ⟨p,au,rfl⟩,λ_=>by omega⟩
     ·rw [cn.Bg k λp B0 e=>au ⟨p,B0,e⟩];exact ⟨.inr,λh=>h.resolve_left au⟩
   rw [B2.length_eq,List.length_append,List.length_map,I.ht,List.map_cons,List.sum_cons];simp [PL,ao]
def kx (r:fE) (n:Int):Int × Bool:=match r.find? λp=>decide (p.At=n) with
 | some p=>(p.b8,true)
 | none=>(0,false)
theorem get_none {r:fE}{n:Int}(h:∀ p∈r,p.At≠n):kx r n=(0,false):=by
 unfold kx;rw [List.find?_eq_none.2 λp au=>by simpa using h p au]
theorem get_some {r:fE}(ao:lF r) {p:b4}(au:p∈r):kx r p.At=(p.b8,true):=by
 unfold kx;cases h:r.find? λq=>decide (q.At=p.At) with
 | none=>exact absurd (List.find?_eq_none.1 h p au) (by simp)
 | some q =>
  have h1:q.At=p.At:=by simpa using List.find?_some h
  have af:=List.mem_of_find?_eq_some h;obtain ⟨i,hi,cy⟩:=List.mem_iff_getElem.1 af;obtain ⟨j,ah,b9⟩:=List.mem_iff_getElem.1 au;have:=(List.getElem_inj (h₀:=by simpa using hi) (h₁:=by simpa using ah) ao.nd).1 (by simp only [List.getElem_map]; rw [cy,b9]; exact h1);subst this;rw [cy] at b9;rw [b9]
theorem g19 (r:fE) (n:Int) (aj:r.length<=100000):s7 r n=some (kx r n):=by
 suffices h:Tot (s7 r n) λx=>x=kx r n by
  obtain ⟨x,J,e⟩:=h; rw [J,e]
 unfold s7;refine Tot.aA (Ξ:=hn (λ_=>kx r n=(0,false)) (λx=>x=kx r n)) ?_ λx J=>?_
 ·refine Tot.count (λs=>s) r.length (λs=>∃ k:Nat,k<=r.length/\s=(k:Int)/\∀ p∈r.take k,p.At≠n) ⟨0,Nat.zero_le _,rfl,λ_ h=>absurd h (by simp)⟩ (by show (r.length:Int) - 0<_; omega) λs aB=>?_;obtain ⟨k,hk,rfl,aF⟩:=aB;refine Tot.bp (λh=>?_) (λh=>.aq ?_)
  ·have aT:k<r.length:=by omega
   rw [sU aT];refine Tot.aV (Tot.bp (λe=>.aq ?_) (λe=>.aq ⟨⟨k+1,by omega,by rw [cA]; omega,λp au=>?_⟩,by show (k:Int)<aJ _; rw [cA]; omega,by show aJ _<=_; rw [cA]; omega⟩))
   ·show ((r[k]).b8,true)=kx r n;unfold kx;have aW:r.find? (λp=>decide (p.At=n))=some r[k]:=by
     rw [List.find?_eq_some_iff_getElem];refine ⟨by simpa using e,k,aT,rfl,λj ah=>?_⟩;have:=aF (r[j]'(by omega)) (List.mem_iff_getElem.2 ⟨j,by rw [List.length_take]; omega,by rw [List.getElem_take]⟩);simpa using this
    rw [aW]
   ·rw [KW aT] at au;rcases List.mem_append.1 au with au | au
    ·exact aF p au
    ·rw [List.mem_singleton.1 au]; exact e
  ·have:k=r.length:=by omega
   subst this;rw [List.take_length] at aF;exact get_none aF
 ·rcases x with x | x
  ·exact .aq (Eq.symm J)
  ·exact .aq J
def q6 (rows:List fE) (a n:Int):Int × Bool:=match idx rows a with
 | some r=>kx r n
 | none=>(0,false)
theorem TV {rows:List fE}(db:p_ rows) {o:List Nat}(hO:p7 rows o) {c:fz}(h8:dQ rows o.reverse c) (bf:Inv rows o.reverse c) (aa:c.b3.length<=900000) (a n:Int):rl c a n=some (q6 rows a n):=by
 have hlen:=h8.len
 suffices h:Tot (rl c a n) λx=>x=q6 rows a n by
  obtain ⟨x,J,e⟩:=h; rw [J,e]
 have Pa:(∀ r,idx rows a=some r->∀ p∈r,p.At≠n)->q6 rows a n=(0,false):=by
  intro h;unfold q6;cases hi:idx rows a with
  | none=>rfl
  | some r=>exact get_none (h r hi)
 have out:(a<0\/(c.cS.length:Int)<=a)->idx rows a=none:=by
  intro h;unfold idx;rcases h with h | h
  ·rw [if_neg (by omega)]
  ·split
   ·exact List.getElem?_eq_none (by omega)
   ·rfl
 -- where the pairs of a row stand
 have at_:∀ r,idx rows a=some r->∀ p∈r,0<=a/\∃ b:Nat,c.cS[a.toNat]?=some (b:Int)/\b+p.At.toNat<c.b3.length/\c.b3.getD (b+p.At.toNat) 0=(a.toNat:Int)+1/\c.b8.getD (b+p.At.toNat) 0=p.b8:=by
  intro r ao p au;have aQ:0<=a:=by
   by_cases aQ:0<=a
   ·exact aQ
   ·rw [idx,if_neg aQ] at ao; cases ao
  have ed:rows[a.toNat]?=some r:=by rw [idx,if_pos aQ] at ao; exact ao
  obtain ⟨dm,b,h1,af,aI⟩:=bf.own a.toNat (List.mem_reverse.2 ((hO.mem _).2 ⟨r,ed,λe=>by rw [e] at au; simp at au⟩));rw [ed] at h1; cases h1;exact ⟨aQ,b,af,aI p au⟩
 have fI:∀ r,idx rows a=some r->∀ p∈r,0<=p.At/\p.At<=999:=by
  intro r ao p au;have:r∈rows:=by
   unfold idx at ao
   split at ao
   ·exact List.mem_of_getElem? ao
   ·cases ao
  exact (db.rows r this).ml p au
 unfold rl;refine .aA (Ξ:=λx:Bool=>(x=true->(a<0\/(c.cS.length:Int)<=a)\/n<0\/(c.b3.length:Int)<=n)/\(x=false->0<=a/\a<c.cS.length/\0<=n/\n<c.b3.length)) ?_ λx J=>Tot.bE (λh=>?_) (λh=>?_)
 ·refine Tot.bp (λh=>.aq ⟨λ_=>.inl (.inl h),λh=>(by cases h)⟩) (λh1=>Tot.bp (λh=>.aq ⟨λ_=>.inl (.inr h),λh=>(by cases h)⟩) (λaf=>Tot.bp (λh=>.aq ⟨λ_=>.inr (.inl h),λh=>(by cases h)⟩) (λaI=>.aq ⟨λh=>.inr (.inr (of_decide_eq_true h)),λh=>?_⟩)));have:=of_decide_eq_false h;omega
 ·refine .aq (Eq.symm (Pa λr ao p au e=>?_));obtain ⟨aQ,b,av,h1,_⟩:=at_ r ao p au;have af:=fI r ao p au;rcases J.1 h with aR | aR | aR
  ·rw [out aR] at ao; cases ao
  ·omega
  ·omega
 ·obtain ⟨aQ,h1,af,aI⟩:=J.2 h;have halt:a.toNat<rows.length:=by omega
  -- the base
  obtain ⟨b,av,gW⟩:∃ b:Nat,c.cS[a.toNat]?=some (b:Int)/\b<=900000:=by
   by_cases hm:a.toNat∈o
   ·obtain ⟨dm,b,g1,g2,g3⟩:=bf.own a.toNat (List.mem_reverse.2 hm);refine ⟨b,g2,?_⟩;obtain ⟨r,cy,b9⟩:=(hO.mem _).1 hm;rw [cy] at g1; cases g1;obtain ⟨p,au⟩:=List.exists_mem_of_ne_nil _ b9;have:=(g3 p au).1;omega
   ·exact ⟨0,h8.rest _ halt (by simpa using hm),by omega⟩
  have w_:idx c.cS a=some (b:Int):=by rw [idx,if_pos aQ]; exact av
  rw [w_];have hw:aJ ((b:Int)+n)=((b+n.toNat:Nat):Int):=by rw [cA]; omega
  have WG:aJ (a+1)=a+1:=by rw [cA]; have:=db.n; omega
  refine Tot.aV ?_;rw [hw,WG];refine .aA (Ξ:=λx:Bool=>(x=true->∀ r,idx rows a=some r->∀ p∈r,p.At≠n)/\(x=false->b+n.toNat<c.b3.length/\c.b3.getD (b+n.toNat) 0=a+1)) (Tot.bp (λh=>.aq ⟨λ_ r ao p au e=>?_,λh=>(by cases h)⟩) (λh=>?_)) λx J=>Tot.bE (λh=>.aq (Eq.symm (Pa (J.1 h)))) (λh=>?_)
  ·obtain ⟨_,eC,cj,g1,_⟩:=at_ r ao p au;rw [av] at cj;have:b=eC:=by injection cj with cj; omega
   subst this;subst e;omega
  ·have aj:b+n.toNat<c.b3.length:=by omega
   rw [sU aj];have aO:c.b3.getD (b+n.toNat) 0=c.b3[b+n.toNat]:=by rw [List.getD_eq_getElem?_getD,List.getElem?_eq_getElem aj]; rfl
   rw [<- aO];refine Tot.aV (.aq ⟨λh r ao p au e=>?_,λh=>⟨aj,by simpa using h⟩⟩);obtain ⟨_,eC,cj,_,g2,_⟩:=at_ r ao p au;rw [av] at cj;have:b=eC:=by injection cj with cj; omega
   subst this;subst e;rw [g2] at h;have:¬ ((a.toNat:Int)+1=a+1):=by simpa using h
   omega
  ·obtain ⟨aj,he⟩:=J.2 h;have pB:b+n.toNat<c.b8.length:=by omega
   rw [sU pB];refine Tot.aV (.aq ?_);obtain ⟨i,hi,r,eC,cy,b9,p,au,fH,mR⟩:=bf.K3 (b+n.toNat) (by rw [he]; omega);rw [he] at mR;have VL:i=a.toNat:=by omega
   subst VL;rw [av] at b9;have:b=eC:=by injection b9 with b9; omega
   subst this;have sP:idx rows a=some r:=by rw [idx,if_pos aQ]; exact cy
   have EP:=fI r sP p au;have uf:p.At=n:=by omega
   obtain ⟨_,eC,cj,_,_,g3⟩:=at_ r sP p au;rw [av] at cj;have:b=eC:=by injection cj with cj; omega
   subst this;unfold q6;rw [sP];show _=kx r n;have NR:=get_some (db.rows r (List.mem_of_getElem? cy)) au;rw [uf,<- g3,uf,List.getD_eq_getElem?_getD,List.getElem?_eq_getElem pB] at NR;exact NR.symm
structure j9 (x:Sym):Prop where
 lit:x.Lit=true->x.Name.size=1/\0<lI x.Name 0/\lI x.Name 0<=255/\x.bP=0
 num:0<=x.bP/\x.bP<=50000
theorem Kc (x:Sym) (a b:Bool):Par (uz x a b) λr=>r=true->j9 x:=by
 unfold uz;refine Par.bE (λaj=>?_) (λaj=>?_)
 ·refine .aA (Ξ:=λc=>c=false->x.Name.size=1/\x.bP=0) ?_ λc aa=>Par.bE (λ_=>.aq λh=>by cases h) (λaf=>?_)
  ·refine Par.bE (λ_=>.aq λh=>by cases h) (λ_=>Par.pj (λ_=>.aq λh=>by cases h) (λh1=>.aq λaf=>⟨by omega,?_⟩));simpa using af
  ·obtain ⟨h1,aI⟩:=aa af;refine .aA (Ξ:=λc=>c=lI x.Name 0) (λc aa=>?_) λc aa=>?_
   ·unfold kt at aa
    split at aa
    ·exact (Option.some.inj aa).symm
    ·cases aa
   ·subst aa;refine .aA (Ξ:=λr=>r.2=true->0<lI x.Name 0/\lI x.Name 0<=255) ?_ λr ao=>.aq λh=>⟨λ_=>⟨h1,(ao h).1,(ao h).2,aI⟩,by omega⟩;unfold Aa;refine Par.bp (λh=>.aq λ_=>by omega) (λ_=>Par.bp (λh=>.aq λ_=>by omega) (λ_=>Par.bp (λh=>.aq λ_=>by omega) (λ_=>?_)));refine .aA (Ξ:=λc=>c=true->lI x.Name 0=92\/lI x.Name 0=39) (Par.bp (λh=>.aq λ_=>.inl h) (λ_=>.aq λh=>.inr (of_decide_eq_true h))) λc aa=>Par.bE (λh=>.aq λ_=>by rcases aa h with h | h <;> omega) (λ_=>?_);refine .aA (Ξ:=λr:Int × Bool=>r.2=true->0<lI x.Name 0/\lI x.Name 0<=255) (Par.bp (λh=>.aq λaR=>?_) (λ_=>.aq λh=>by cases h)) λr ao=>.aq ao;have:lI x.Name 0<=126:=of_decide_eq_true aR;omega
 ·refine .aA (Ξ:=λc=>c=true->0<=x.bP/\x.bP<=50000) ?_ λc aa=>.aq λh=>⟨λaR=>(by rw [aj] at aR; cases aR),aa h⟩;refine .aA (Ξ:=λ_=>True) (λ_ _=>trivial) λc _=>Par.bE (λ_=>Par.bp (λh=>.aq λ_=>by omega) (λ_=>Par.bE (λ_=>Par.bp (λh=>.aq λaR=>⟨by omega,of_decide_eq_true aR⟩) (λ_=>.aq λh=>by cases h)) (λ_=>.aq λh=>by cases h))) (λ_=>.aq λh=>by cases h)
theorem Pv (x:Sym):Par (uA x) λr=>r=true->j9 x:=by
 unfold uA;refine .aA (Ξ:=λr=>r=true->j9 x) ?_ λr ao=>.aq ao;refine Par.bE (λ_=>Par.bE (λh=>.aq λaR=>?_) (λ_=>.aq λh=>by cases h)) (λ_=>.aq λh=>by cases h);have h1:x.Lit=false:=by simpa using h
 have af:x.bP=0:=of_decide_eq_true aR;exact ⟨λh=>(by rw [h1] at h; cases h),by omega⟩
theorem X3 (d:Decl) (aF:d.eJ.length<=1000000):Par (xY d) λr=>r=true->∀ x∈d.eJ,j9 x:=by
 unfold xY;refine .aA (Ξ:=λ_=>True) (λ_ _=>trivial) λc _=>Par.bE (λ_=>.aq λh=>by cases h) (λ_=>?_);refine .aA (Par.scan d.eJ (by omega) (λx=>j9 x) (λr=>r=false) (λs y aQ h1 hi hm=>?_) (λs aB=>by simp [aB])) λx J=>?_
 ·refine Par.bp (λ_=>?_) (λh=>absurd h1 h);rw [hi];have hw:aJ (s+1)=s+1:=by rw [cA]; omega
  rw [hw];exact .aA (Ξ:=λz=>z=y) (.aq rfl) λz aX=>by
   subst aX;exact .aA (Kc _ _ _) λc aa=>Par.bE (λ_=>.aq rfl) (λaf=>.aq ⟨rfl,aa (by simpa using af)⟩)
 ·rcases x with _ | r
  ·exact .aq λ_=>J
  ·exact .aq λh=>by have:r=false:=J; rw [this] at h; cases h
theorem X4 (a:Alt) (aF:a.ho.length<=1000000):Par (xZ a) λr=>r=true->(∀ p∈a.ho,j9 p.Sym)/\j9 a.Prec:=by
 unfold xZ;refine .aA (Par.scan a.ho (by omega) (λp=>j9 p.Sym) (λr=>r=false) (λs y aQ h1 hi hm=>?_) (λs aB=>by simp [aB])) λx J=>?_
 ·refine Par.bp (λ_=>?_) (λh=>absurd h1 h);rw [hi];have hw:aJ (s+1)=s+1:=by rw [cA]; omega
  rw [hw];refine .aA (Ξ:=λz=>z=y) (.aq rfl) λz aX=>?_;subst aX;refine .aA (Ξ:=λc=>c=false->j9 z.Sym) ?_ λc aa=>Par.bE (λ_=>.aq rfl) (λaf=>.aq ⟨rfl,aa af⟩);refine Par.bp (λhe=>?_) (λdq=>?_)
  ·refine .aA (Kc _ _ _) λc aa=>Par.bE (λ_=>.aq λh=>by cases h) (λaf=>?_);have db:=aa (by simpa using af);exact λ_ _ _=>db
  ·refine Par.pj (λ_=>?_) (λh=>absurd h dq);refine .aA (Pv _) λc aa=>Par.bE (λ_=>.aq λh=>by cases h) (λaf=>?_);have db:=aa (by simpa using af);exact λ_ _ _=>db
 ·rcases x with _ | r
  ·have J:∀ p∈a.ho,j9 p.Sym:=J;refine .aA (Ξ:=λc=>c=true->j9 a.Prec) ?_ λc aa=>.aq λh=>⟨J,aa h⟩;refine .aA (Pv _) λc aa=>Par.bE (λaf=>.aq λ_=>aa af) (λ_=>.aA (Kc _ _ _) λc aa=>.aq aa)
  ·exact .aq λh=>by have:r=false:=J; rw [this] at h; cases h
structure LB (s:Source):Prop where
 decls:∀ d∈s.Decls,∀ x∈d.eJ,j9 x
 rules:∀ r∈s.dG,∀ a∈r.eF,(∀ p∈a.ho,j9 p.Sym)/\j9 a.Prec
theorem XZ (s:Source) (av:rK s):Par (xW s) λr=>r=true->LB s:=by
 unfold xW;refine .aA (Ξ:=hn (λ_=>True) (λr=>r=false)) ?_ λx J=>?_
 ·refine Par.loop (λ_=>True) trivial λj _=>?_;refine Par.bp (λ_=>.aA (Ξ:=λ_=>True) (λ_ _=>trivial) λ_ _=>Par.bE (λ_=>.aq rfl) (λ_=>.aq trivial)) (λ_=>.aq trivial)
 ·rcases x with _ | r
  ·refine .aA (Par.scan s.Decls (by have:=av.zg; omega) (λd=>∀ x∈d.eJ,j9 x) (λr=>r=false) (λi y aQ h1 hi hm=>?_) (λs aB=>by simp [aB])) λx J=>?_
   ·refine Par.bp (λ_=>?_) (λh=>absurd h1 h);rw [hi];have hw:aJ (i+1)=i+1:=by have:=av.zg; rw [cA]; omega
    rw [hw];refine .aA (Ξ:=λz=>z=y) (.aq rfl) λz aX=>?_;subst aX;exact .aA (X3 z (by have:=(av.decls z hm).n; omega)) λc aa=>Par.bE (λ_=>.aq rfl) (λaf=>.aq ⟨rfl,aa (by simpa using af)⟩)
   ·rcases x with _ | r
    ·have aS:∀ d∈s.Decls,∀ x∈d.eJ,j9 x:=J;refine .aA (Par.scan s.dG (by have:=av.aH; omega) (λr=>∀ a∈r.eF,(∀ p∈a.ho,j9 p.Sym)/\j9 a.Prec) (λr=>r=false) (λi y aQ h1 hi hm=>?_) (λs aB=>by simp [aB])) λx J=>?_
     ·refine Par.bp (λ_=>?_) (λh=>absurd h1 h);rw [hi];have hw:aJ (i+1)=i+1:=by have:=av.aH; rw [cA]; omega
      rw [hw];refine .aA (Ξ:=λz=>z=y) (.aq rfl) λz aX=>?_;subst aX;have l6:=(av.rules z hm);refine .aA (Ξ:=λ_=>True) (λ_ _=>trivial) λc _=>Par.bE (λ_=>.aq rfl) (λ_=>?_);refine .aA (Par.scan z.eF (by have:=l6.n; omega) (λa=>(∀ p∈a.ho,j9 p.Sym)/\j9 a.Prec) (λr=>r=false) (λk y aQ h1 hi hm=>?_) (λs aB=>by simp [aB])) λx J=>?_
      ·refine Par.bp (λ_=>?_) (λh=>absurd h1 h);rw [hi];have hw:aJ (k+1)=k+1:=by have:=l6.n; rw [cA]; omega
       rw [hw];refine .aA (Ξ:=λz=>z=y) (.aq rfl) λz aX=>?_;subst aX;exact .aA (X4 z (by have:=(l6.alts z hm).n; omega)) λc aa=>Par.bE (λ_=>.aq rfl) (λaf=>.aq ⟨rfl,aa (by simpa using af)⟩)
      ·rcases x with _ | r
       ·exact .aq ⟨rfl,J⟩
       ·exact .aq J
     ·rcases x with _ | r
      ·exact .aq λ_=>⟨aS,J⟩
      ·exact .aq λh=>by have:r=false:=J; rw [this] at h; cases h
    ·exact .aq λh=>by have:r=false:=J; rw [this] at h; cases h
  ·exact .aq λh=>by have:r=false:=J; rw [this] at h; cases h
structure yZ (T:List bW) (G:List Bool):Prop where
 Er:G.length=T.length
 lo:3<=T.length
 hi:T.length<=lim
 CE:∀ t∈T,t.Name.size<=dL/\(t.Lit=true->t.Name.size=1)
 le:∀ t∈T,t.bP<=50000
structure tu (T:List bW) (G:List Bool):Prop where
 aS:∀ (i:Nat) (t:bW),i<3->T[i]?=some t->t.bP<=0
 un:∀ (i j:Nat) (s t:bW),T[i]?=some s->T[j]?=some t->0<s.bP->s.bP=t.bP->i=j
 gF:∀ (i:Nat) (t:bW),3<=i->T[i]?=some t->(G[i]?=some true->0<t.bP)/\(G[i]?=some false->t.bP=0)
structure fB (m:fK):Prop where
 a:yZ m.aG.ba m.ct
 b:m.cZ=0->tu m.aG.ba m.ct
 fw:∀ y∈m.cb,y.size<=dL
theorem vC {α:Type}{l:List α}{i:Int}{y:α}(h:idx l i=some y):0<=i/\i.toNat<l.length/\l[i.toNat]?=some y:=by
 unfold idx at h
 split at h
 ·rename_i aQ;exact ⟨aQ,(List.getElem?_eq_some_iff.1 h).1,h⟩
 ·cases h
theorem yZ.set {T:List bW}{G:List Bool}(h:yZ T G) {k:Nat}{t t':bW}(hk:T[k]?=some t) (aF:t'.Name=t.Name) (aj:t'.Lit=t.Lit) (hu:t'.bP<=50000) {Lr:List Bool}(c9:Lr.length=G.length):yZ (T.set k t') Lr:=by
 have hm:=List.mem_of_getElem? hk;have key:∀ {P:bW->Prop},(∀ s∈T,P s)->P t'->∀ s∈T.set k t',P s:=λh1 af s aB=>by
  rcases List.mem_or_eq_of_mem_set aB with h | h
  ·exact h1 s h
  ·rw [h]; exact af
 exact ⟨by rw [c9,List.length_set]; exact h.Er,by rw [List.length_set]; exact h.lo,by rw [List.length_set]; exact h.hi,key h.CE (by rw [aF,aj]; exact h.CE t hm),key h.le hu⟩
theorem ym {α:Type}{l:List α}{k:Nat}{x:α}(hk:k<l.length) (i:Nat):(l.set k x)[i]?=if i=k then some x else l[i]?:=by
 rw [List.getElem?_set];by_cases e:k=i
 ·subst e; simp [hk]
 ·simp [e,Ne.symm e]
theorem tu.F0 {T:List bW}{G:List Bool}(h:tu T G) {k:Nat}{t t':bW}(hk:T[k]?=some t) (hu:t'.bP=t.bP):tu (T.set k t') G:=by
 have aT:=(List.getElem?_eq_some_iff.1 hk).1;have key:∀ (i:Nat) (s:bW),(T.set k t')[i]?=some s->∃ cT,T[i]?=some cT/\cT.bP=s.bP:=by
  intro i s aB;rw [ym aT] at aB;by_cases e:i=k
  ·rw [if_pos e] at aB;cases aB;exact ⟨t,by rw [e]; exact hk,hu.symm⟩
  ·rw [if_neg e] at aB;exact ⟨s,aB,rfl⟩
 refine ⟨λi s hi aB=>?_,λi j s s2 aB ln aQ he=>?_,λi s hi aB=>?_⟩
 ·obtain ⟨cT,h1,af⟩:=key i s aB;rw [<- af]; exact h.aS i cT hi h1
 ·obtain ⟨cT,h1,af⟩:=key i s aB;obtain ⟨YN,aI,bF⟩:=key j s2 ln;exact h.un i j cT YN h1 aI (by omega) (by omega)
 ·obtain ⟨cT,h1,af⟩:=key i s aB;rw [<- af]; exact h.gF i cT hi h1
theorem tu.YV {T:List bW}{G:List Bool}(h:tu T G) {k:Nat}{t t':bW}(hk:T[k]?=some t) (aI:3<=k) (aO:k<G.length) (aQ:0<t'.bP) (aF:∀ (i:Nat) (s:bW),T[i]?=some s->s.bP≠t'.bP):tu (T.set k t') (G.set k true):=by
 have aT:=(List.getElem?_eq_some_iff.1 hk).1;refine ⟨λi s hi aB=>?_,λi j s s2 aB ln au he=>?_,λi s hi aB=>?_⟩
 ·rw [ym aT,if_neg (by omega)] at aB;exact h.aS i s hi aB
 ·rw [ym aT] at aB ln;by_cases cy:i=k
  ·rw [if_pos cy] at aB; cases aB;by_cases b9:j=k
   ·omega
   ·rw [if_neg b9] at ln;exact absurd he.symm (aF j s2 ln)
  ·rw [if_neg cy] at aB;by_cases b9:j=k
   ·rw [if_pos b9] at ln; cases ln;exact absurd he (aF i s aB)
   ·rw [if_neg b9] at ln;exact h.un i j s s2 aB ln au he
 ·rw [ym aT] at aB;rw [ym aO];by_cases cy:i=k
  ·rw [if_pos cy] at aB ⊢;cases aB;exact ⟨λ_=>aQ,λh=>by cases h⟩
  ·rw [if_neg cy] at aB ⊢;exact h.gF i s hi aB
theorem s4 (m:fK) (a:Int) (n:ByteArray):Par (nT m a n) λm'=>rJ m m'/\m'.cZ≠0:=.of (t105 m a n)
theorem fB.fail {m m':fK}(h:fB m) (aB:rJ m m'/\m'.cZ≠0):fB m':=⟨by rw [aB.1.g,aB.1.gF]; exact h.a,λe=>absurd e aB.2,by rw [aB.1.fw]; exact h.fw⟩
theorem X1 (m:fK) (x:Sym) (aI:3<=m.aG.ba.length) (h:m.aG.ba.length<=lim):Par (ux m x) λr=>r=-1\/(1<=r/\r≠2):=by
 have aj:lim=1000000000000\/lim<=1000000000000000:=by unfold lim; omega
 unfold ux;refine .aA (Ξ:=hn (λ_=>True) (λr:Int=>1<=r/\r≠2)) ?_ λr ao=>?_
 ·refine Par.loop (λs=>1<=s/\s<=m.aG.ba.length) ⟨by decide,by omega⟩ λs aB=>?_
  ·refine Par.bp (λaT=>?_) (λ_=>.aq trivial);refine .aA (Ξ:=λc=>c=true->s≠2) ?_ λc aa=>Par.bE (λaR=>.aq ⟨aB.1,aa aR⟩) (λ_=>.aq ⟨by rw [cA]; omega,by rw [cA]; omega⟩);refine .go λy _=>Par.bE (λ_=>.go λz _=>Par.bE (λ_=>.aq λaR=>by simpa using aR) (λ_=>.aq λh=>by cases h)) (λ_=>.aq λh=>by cases h)
 ·rcases r with _ | r
  ·exact .aq (.inl rfl)
  ·exact .aq (.inr ao)
theorem Pt (m:fK) (n:Int) (aI:3<=m.aG.ba.length) (h:m.aG.ba.length<=lim):Par (vT m n) λr=>r<0->∀ (i:Nat) (t:bW),3<=i->m.aG.ba[i]?=some t->t.bP≠n:=by
 have aj:lim=1000000000000\/lim<=1000000000000000:=by unfold lim; omega
 unfold vT;refine .aA (Ξ:=hn (λ_=>∀ (i:Nat) (t:bW),3<=i->m.aG.ba[i]?=some t->t.bP≠n) (λr:Int=>0<=r)) ?_ λr ao=>?_
 ·refine Par.loop (λs=>3<=s/\s<=m.aG.ba.length/\∀ (i:Nat) (t:bW),3<=i->(i:Int)<s->m.aG.ba[i]?=some t->t.bP≠n) ⟨by decide,by omega,λi t h1 af=>by omega⟩ λs aB=>?_;obtain ⟨h1,af,aB⟩:=aB;refine Par.bp (λaT=>?_) (λdV=>.aq λi t hi aw=>aB i t hi ?_ aw)
  ·refine .go λy ax=>?_;obtain ⟨_,_,ax⟩:=vC ax;have hw:aJ (s+1)=s+1:=by rw [cA]; omega
   rw [hw];refine Par.bp (λe=>.aq (show (0:Int)<=s by omega)) (λe=>.aq ⟨by omega,by omega,λi t hi zv aw=>?_⟩);by_cases b9:i=s.toNat
   ·subst b9;rw [ax] at aw; cases aw; exact e
   ·exact aB i t hi (by omega) aw
  ·have:=(List.getElem?_eq_some_iff.1 aw).1;omega
 ·rcases r with _ | r
  ·exact .aq λ_=>ao
  ·exact .aq λh=>by have:(0:Int)<=r:=ao; omega
theorem Dr {α:Type}{l:List α}{x:α}(i:Nat) {y:α}(h:(l++[x])[i]?=some y):(i<l.length/\l[i]?=some y)\/(i=l.length/\y=x):=by
 by_cases hi:i<l.length
 ·rw [List.getElem?_append_left hi] at h;exact .inl ⟨hi,h⟩
 ·rw [List.getElem?_append_right (by omega)] at h;by_cases e:i - l.length=0
  ·rw [e] at h;simp at h;exact .inr ⟨by omega,h.symm⟩
  ·have:([x]:List α)[i - l.length]?=none:=by rw [List.getElem?_eq_none]; simp; omega
   rw [this] at h; cases h
theorem Ps (m:fK) (x:Sym) (hm:fB m) (J:j9 x) (aB:x.Name.size<=dL):Par (vS m x) λr=>fB r.2/\(r.1=1\/3<=r.1):=by
 unfold vS;have aj:lim<=1000000000000000:=by unfold lim; omega
 refine .aA (X1 m x hm.a.lo hm.a.hi) λr ao=>Par.bp (λh=>.aq ⟨hm,?_⟩) (λ_=>?_)
 ·show r=1\/3<=r;omega
 refine .aA (Ξ:=λj:fK × Int=>j.1.aG=m.aG/\j.1.ct=m.ct/\j.1.cb=m.cb/\fB j.1/\j.2<=50000/\(j.1.cZ=0->(x.Lit=true->0<j.2/\∀ (i:Nat) (t:bW),m.aG.ba[i]?=some t->t.bP≠j.2)/\(x.Lit=false->j.2=0))) ?_ λj ah=>?_
 ·refine Par.bE (λoa=>?_) (λoa=>.aq ⟨rfl,rfl,rfl,hm,by show (0:Int)<=_; decide,λ_=>⟨λh=>(by rw [oa] at h; cases h),λ_=>rfl⟩⟩);obtain ⟨_,h1,af,_⟩:=J.lit oa;refine .aA (Ξ:=λc=>c=lI x.Name 0) (λc aa=>?_) λc aa=>?_
  ·unfold kt at aa
   split at aa
   ·exact (Option.some.inj aa).symm
   ·cases aa
  subst aa;have hw:aJ (lI x.Name 0)=lI x.Name 0:=by rw [cA]; omega
  rw [hw];refine .aA (Pt m (lI x.Name 0) hm.a.lo hm.a.hi) λo a1=>?_;refine .aA (Ξ:=λj:fK=>j.aG=m.aG/\j.ct=m.ct/\j.cb=m.cb/\fB j/\(j.cZ=0->m.cZ=0/\o<0)) (Par.bp (λh=>.aA (s4 m x.At x.Name) λm' aR=>.aq ⟨aR.1.g,aR.1.gF,aR.1.fw,hm.fail aR,λe=>absurd e aR.2⟩) (λh=>.aq ⟨rfl,rfl,rfl,hm,λe=>⟨e,by omega⟩⟩)) λj ah=>.aq ⟨ah.1,ah.2.1,ah.2.2.1,ah.2.2.2.1,by show lI x.Name 0<=_; omega,λe=>⟨λ_=>⟨h1,λi t aw=>?_⟩,λh=>(by rw [oa] at h; cases h)⟩⟩;obtain ⟨cy,b9⟩:=ah.2.2.2.2 e;by_cases aI:3<=i
  ·exact a1 b9 i t aI aw
  ·have:=(hm.b cy).aS i t (by omega) aw;show t.bP≠lI x.Name 0;omega
 ·obtain ⟨aO,r3,vo,dM,hle,he⟩:=ah;have Ez:j.1.cZ=0->tu m.aG.ba m.ct:=λe=>by have:=dM.b e; rwa [aO,r3] at this
  refine Par.ap λsN=>Par.ap λ_=>.aq ?_;rw [aO] at sN;rw [aO,r3,vo];simp only [List.length_cons,List.length_nil] at sN;have aI:=hm.a.lo;have BN:=hm.a.Er;refine ⟨⟨⟨by simp [BN],by show 3<=(m.aG.ba++[_]).length; simp; omega,by show (m.aG.ba++[_]).length<=_; simp; omega,λt aw=>?_,λt aw=>?_⟩,λhd=>?_,hm.fw⟩,?_⟩
  ·rcases List.mem_append.1 aw with aw | aw
   ·exact hm.a.CE t aw
   ·rw [List.mem_singleton.1 aw];exact ⟨aB,λh=>(J.lit h).1⟩
  ·rcases List.mem_append.1 aw with aw | aw
   ·exact hm.a.le t aw
   ·rw [List.mem_singleton.1 aw]; exact hle
  ·have My:j.1.cZ=0:=hd;have av:=Ez My;obtain ⟨Iu,BM⟩:=he My;refine ⟨λi t hi aw=>?_,λi k s t aB aw aQ heq=>?_,λi t hi aw=>?_⟩
   ·rcases Dr i aw with ⟨h1,af⟩ | ⟨h1,_⟩
    ·exact av.aS i t hi af
    ·omega
   ·rcases Dr i aB with ⟨h1,af⟩ | ⟨h1,af⟩
    ·rcases Dr k aw with ⟨bF,cG⟩ | ⟨bF,cG⟩
     ·exact av.un i k s t af cG aQ heq
     ·subst cG;have heq:s.bP=j.2:=heq;cases oa:x.Lit with
      | true=>exact absurd heq ((Iu oa).2 i s af)
      | false=>have:=BM oa; omega
    ·subst af;rcases Dr k aw with ⟨bF,cG⟩ | ⟨bF,cG⟩
     ·have heq:j.2=t.bP:=heq;have aQ:0<j.2:=aQ;cases oa:x.Lit with
      | true=>exact absurd heq.symm ((Iu oa).2 k t cG)
      | false=>have:=BM oa; omega
     ·omega
   ·have UA:(m.ct++[x.Lit])[i]?=if i=m.aG.ba.length then some x.Lit else m.ct[i]?:=by
     by_cases e:i=m.aG.ba.length
     ·rw [if_pos e,e,<- BN,List.getElem?_append_right (Nat.le_refl _)]; simp
     ·have:=(List.getElem?_eq_some_iff.1 aw).1;simp at this;rw [if_neg e,List.getElem?_append_left (by omega)]
    show ((m.ct++[x.Lit])[i]?=some true->0<t.bP)/\((m.ct++[x.Lit])[i]?=some false->t.bP=0);rw [UA];rcases Dr i aw with ⟨h1,af⟩ | ⟨h1,af⟩
    ·rw [if_neg (by omega)];exact av.gF i t hi af
    ·rw [if_pos h1];subst af;exact ⟨λh=>(Iu (Option.some.inj h)).1,λh=>BM (Option.some.inj h)⟩
  ·right;show 3<=aJ (((m.aG.ba++[_]).length:Int) - 1);simp only [List.length_append,List.length_cons,List.length_nil];rw [cA]; omega
theorem xy {α:Type}{l:List α}{i:Int}{y:α}(h:idx l i=some y):y∈l:=List.mem_of_getElem? (vC h).2.2
theorem fB.F0 {m:fK}(h:fB m) {k:Nat}{t t':bW}(hk:m.aG.ba[k]?=some t) (aF:t'.Name=t.Name) (aj:t'.Lit=t.Lit) (hu:t'.bP=t.bP):yZ (m.aG.ba.set k t') m.ct/\(m.cZ=0->tu (m.aG.ba.set k t') m.ct) :=
 ⟨h.a.set hk aF aj (by rw [hu]; exact h.a.le t (List.mem_of_getElem? hk)) rfl,λe=>(h.b e).F0 hk hu⟩
theorem fB.HD {m m':fK}(h:fB m) (aB:rJ m m'/\m'.cZ≠0):fB (⟨(⟨m.aG.ba,m'.aG.b0,m'.aG.bh,m'.aG.cx,m'.aG.cF⟩:bN),m'.ct,m'.cL,m'.cb,m'.cZ,m'.dn,m'.dk,m'.cr,m'.b_⟩:fK) :=
 ⟨by show yZ m.aG.ba m'.ct; rw [aB.1.gF]; exact h.a,λe=>absurd e aB.2,by show ∀ y∈m'.cb,_; rw [aB.1.fw]; exact h.fw⟩
theorem X0 (m:fK) (d:Decl) (x:Sym) (hm:fB m) (J:j9 x) (aB:x.Name.size<=dL):Par (vP m d x) fB:=by
 unfold vP;refine Par.bE (λ_=>?_) (λ_=>?_)
 ·refine .aA (Ξ:=λ_=>True) (λ_ _=>trivial) λk _=>.aA (Ξ:=fB) ?_ λm' hm=>.aq hm;refine Par.bp (λ_=>Par.ap λ_=>.aq ⟨hm.a,hm.b,hm.fw⟩) (λ_=>?_);refine .go λy _=>.aA (Ξ:=fB) (Par.bE (λ_=>.aA (s4 m _ _) λm' h=>.aq (hm.fail h)) (λ_=>.aq hm)) λm' hm=>.aq hm
 ·refine .aA (Ps m x hm J aB) λr ao=>?_;obtain ⟨ao,kB⟩:=ao;refine .go λy ax=>?_;refine .aA (Ξ:=fB) ?_ λeN q7=>?_
  ·refine Par.bE (λ_=>?_) (λ_=>.aq ao);refine .aA (Ξ:=fB) (Par.bE (λ_=>.aA (s4 r.2 _ _) λm' h=>.aq (ao.HD h)) (λ_=>.aq ao)) λdc sE=>?_;refine .go λz aX=>?_;obtain ⟨_,_,aX⟩:=vC aX;rw [List.set_set];obtain ⟨h1,af⟩:=sE.F0 (t':=(⟨z.Name,z.Lit,z.bP,dc.cr,aJ (d.Kind - 1),z.Tag⟩:bW)) aX rfl rfl rfl;exact .aq ⟨h1,af,sE.fw⟩
  refine .go λy _=>?_;refine .aA (Ξ:=fB) ?_ λe_ u_=>?_
  ·refine Par.bp (λsO=>?_) (λ_=>.aq q7);refine .aA (Ξ:=λc:Bool=>c=false->r.1≠1/\∀ (i:Nat) (t:bW),3<=i->eN.aG.ba[i]?=some t->t.bP≠x.bP) ?_ λc aa=>?_
   ·refine Par.bp (λ_=>.aq λh=>by cases h) (λh1=>.go λgF _=>Par.bE (λ_=>.aq λh=>by cases h) (λ_=>.aA (Pt eN x.bP q7.a.lo q7.a.hi) λo a1=>.aq λh=>⟨h1,a1 (by have:=of_decide_eq_false h; omega)⟩))
   refine .aA (Ξ:=λj=>fB j/\(j.cZ=0->r.1≠1/\∀ (i:Nat) (t:bW),3<=i->j.aG.ba[i]?=some t->t.bP≠x.bP)) (Par.bE (λ_=>.aA (s4 eN _ _) λm' h=>.aq ⟨q7.HD h,λe=>absurd e h.2⟩) (λh=>.aq ⟨q7,λ_=>aa h⟩)) λd' rU=>?_;obtain ⟨rU,aF⟩:=rU;refine .go λz aX=>.go λgF r3=>.aq ?_;obtain ⟨aQ,aT,aX⟩:=vC aX;obtain ⟨_,VZ,r3⟩:=vC r3;have hle:=J.num;refine ⟨rU.a.set (t':=(⟨z.Name,z.Lit,x.bP,z.Level,z.ft,z.Tag⟩:bW)) aX rfl rfl hle.2 (by simp),λe=>?_,rU.fw⟩;obtain ⟨aI,bF⟩:=aF e;have av:=rU.b e;refine av.YV (t':=(⟨z.Name,z.Lit,x.bP,z.Level,z.ft,z.Tag⟩:bW)) aX (by omega) VZ sO λi t aw=>?_;by_cases ab9:3<=i
   ·grind
   ·have:=av.aS i t (by omega) aw
    grind
  refine .go λy _=>.aA (Ξ:=fB) ?_ λj ah=>.aq ah;refine Par.bE (λ_=>?_) (λ_=>.aq u_);refine .aA (Ξ:=λ_=>True) (λ_ _=>trivial) λc _=>?_;refine .aA (Ξ:=fB) (Par.bE (λ_=>.aA (s4 e_ _ _) λm' h=>.aq (u_.HD h)) (λ_=>.aq u_)) λnf Bt=>?_;refine .go λz aX=>?_;obtain ⟨_,_,aX⟩:=vC aX;obtain ⟨h1,af⟩:=Bt.F0 (t':=(⟨z.Name,z.Lit,z.bP,z.Level,z.ft,d.Tag⟩:bW)) aX rfl rfl rfl;exact .aq ⟨h1,af,Bt.fw⟩
theorem Pu (m:fK) (x:Sym) (hm:fB m) (J:j9 x) (aB:x.Name.size<=dL):Par (s6 m x) λr=>fB r.2:=by
 unfold s6;refine Par.bE (λ_=>.aA (Ps m x hm J aB) λr ao=>.aq ao.1) (λ_=>.aA (Ξ:=λ_=>True) (λ_ _=>trivial) λk _=>Par.bE (λ_=>.aq hm) (λ_=>.aA (Ξ:=λ_=>True) (λ_ _=>trivial) λt _=>Par.bE (λ_=>.aA (s4 m _ _) λm' h=>.aq (hm.fail h)) (λ_=>.aq hm)))
theorem X2 (m:fK) (left:ByteArray) (a:Alt) (hm:fB m) (av:wv a) (aP:(∀ p∈a.ho,j9 p.Sym)/\j9 a.Prec):Par (vQ m left a) fB:=by
 have aF:=av.n;unfold vQ;refine .aA (Ξ:=λ_=>True) (λ_ _=>trivial) λa8 _=>?_;refine .aA (Ξ:=λr:fK × List Int × ByteArray × Int=>fB r.1) ?_ λa7 aI=>?_
 ·refine Par.loop (λs=>fB s.1/\0<=s.2.2.2.2) ⟨hm,Int.le_refl 0⟩ λs aB=>?_;obtain ⟨m1,rt,bE,at_,i⟩:=s;obtain ⟨aB,aQ⟩:=aB;simp only at aB aQ ⊢;refine Par.bp (λaT=>?_) (λ_=>.aq aB);refine .aA (Ξ:=λj:fK × List Int × ByteArray × Int=>fB j.1) ?_ λj ah=>.aq ⟨ah,by show 0<=aJ (i+1); rw [cA]; omega⟩;refine .go λy ax=>.aA (Ξ:=λj:fK × List Int × ByteArray × Int=>fB j.1) ?_ λj ah=>.aq ah;have E0:=(xy ax);refine .aA (Ξ:=λj:fK × List Int × ByteArray × Int=>fB j.1) ?_ λj ah=>.aq ah;refine Par.bE (λ_=>?_) (λ_=>?_)
  ·exact .aA (Pu m1 y.Sym aB (aP.1 y E0) (av.parts y E0).1) λr ao=>Par.ap λ_=>.aq ao
  ·exact .aA (Ξ:=λ_=>True) (λ_ _=>trivial) λj _=>.aq ⟨aB.a,aB.b,aB.fw⟩
 ·refine .aA (Ξ:=λ_=>True) (λ_ _=>trivial) λhz _=>?_;refine .aA (Ξ:=λj:fK × Int=>fB j.1) ?_ λj ah=>Par.ap λ_=>Par.ap λ_=>.aq ⟨ah.a,ah.b,ah.fw⟩;refine Par.bE (λ_=>?_) (λ_=>.aq aI);refine .aA (Ξ:=λ_=>True) (λ_ _=>trivial) λc _=>.aA (Ξ:=λj:fK × Int=>fB j.1) ?_ λj ah=>.aq ah;exact Par.bE (λ_=>.aA (Pu a7.1 a.Prec aI aP.2 av.prec) λr ao=>.aq ao) (λ_=>.aA (s4 a7.1 _ _) λm' h=>.aq (aI.fail h))
structure uU (g:bN):Prop where
 aS:∀ (i:Nat) (t:bW),i<3->g.ba[i]?=some t->t.bP<=0
 pos:∀ (i:Nat) (t:bW),3<=i->g.ba[i]?=some t->0<t.bP/\t.bP<=100000
 un:∀ (i j:Nat) (s t:bW),g.ba[i]?=some s->g.ba[j]?=some t->0<s.bP->s.bP=t.bP->i=j
 CE:∀ t∈g.ba,t.Name.size<=dL/\(t.Lit=true->t.Name.size=1)
 dy:∀ x∈g.b0,x.Name.size<=4 * dL
theorem X8 (s:Source) (av:rK s):Par (v_ s) λr=>r.2.1=0->uU r.1:=by
 have Vz:=av.zg;have B5:=av.aH;unfold v_;refine .aA (XZ s av) λc aa=>Par.bE (λ_=>.aq λh=>absurd h (by decide)) (λil=>?_);have ok:LB s:=aa (by simpa using il);refine .aA (Ξ:=λl=>l=List.replicate 3 false) (λa e=>by unfold ni at e; split at e <;> cases e; rfl) λa7 jX=>?_;subst jX
 -- declarations
 refine .aA (Ξ:=λr:fK × ByteArray=>fB r.1) ?_ λbS cG=>?_
 ·refine Par.loop (λz=>fB z.1/\0<=z.2.2) ⟨⟨⟨rfl,Nat.le_refl 3,by show 3<=lim; unfold lim; omega,λt aw=>?_,λt aw=>?_⟩,λ_=>⟨λi t hi aw=>?_,λi j a b aP av aQ he=>?_,λi t hi aw=>?_⟩,λy ax=>by cases ax⟩,Int.le_refl 0⟩ λz aX=>?_
  ·have aw:t∈[_,_,_]:=aw;simp only [List.mem_cons,List.not_mem_nil,or_false] at aw;rcases aw with rfl | rfl | rfl <;> exact ⟨by decide,λh=>by cases h⟩
  ·have aw:t∈[_,_,_]:=aw;simp only [List.mem_cons,List.not_mem_nil,or_false] at aw;rcases aw with rfl | rfl | rfl <;> decide
  ·have aw:t∈[_,_,_]:=List.mem_of_getElem? aw;simp only [List.mem_cons,List.not_mem_nil,or_false] at aw;rcases aw with rfl | rfl | rfl <;> decide
  ·have aP:a∈[_,_,_]:=List.mem_of_getElem? aP;simp only [List.mem_cons,List.not_mem_nil,or_false] at aP;rcases aP with rfl | rfl | rfl <;> exact absurd aQ (by decide)
  ·have:=(List.getElem?_eq_some_iff.1 aw).1;have:i<3:=this;omega
  ·obtain ⟨m,st,i⟩:=z;obtain ⟨hm,aQ⟩:=aX;simp only at hm aQ ⊢;refine Par.bp (λaT=>?_) (λ_=>.aq hm);refine .go λd aS=>?_;have jW:=xy aS;refine .aA (Ξ:=λ_=>True) (λ_ _=>trivial) λ_ _=>.aA (Ξ:=λ_=>True) (λ_ _=>trivial) λjw _=>?_;refine .aA (Ξ:=λr:fK × ByteArray=>fB r.1) ?_ λr ao=>.aq ⟨ao,by show 0<=aJ (i+1); rw [cA]; omega⟩;refine Par.loop (λz=>fB z.1/\0<=z.2.2) ⟨⟨hm.a,hm.b,hm.fw⟩,Int.le_refl 0⟩ λz aX=>?_;obtain ⟨m,st,k⟩:=z;obtain ⟨hm,HO⟩:=aX;simp only at hm HO ⊢;have zr:=(av.decls d jW).n;refine Par.bp (λq'=>?_) (λ_=>.aq hm);refine .aA (Ξ:=λr:fK × ByteArray=>fB r.1) ?_ λr ao=>.aq ⟨ao,by show 0<=aJ (k+1); rw [cA]; omega⟩;refine Par.bE (λ_=>.go λx J=>?_) (λ_=>?_)
   ·have zI:=xy J;exact .aA (X0 m d x hm (ok.decls d jW x zI) ((av.decls d jW).syms x zI)) λm' im=>.aq im
   ·refine .aA (Ξ:=fB) (Par.bE (λ_=>.go λ_ _=>.go λ_ _=>.aA (s4 m _ _) λm' h=>.aq (hm.fail h)) (λ_=>.aq hm)) λm' im=>.go λ_ _=>.aq im
 -- what stands on the left
 refine .aA (Ξ:=fB) ?_ λcW HS=>?_
 ·refine Par.loop (λz=>fB z.1/\0<=z.2) ⟨cG,Int.le_refl 0⟩ λz aX=>?_;obtain ⟨m,i⟩:=z;obtain ⟨hm,aQ⟩:=aX;simp only at hm aQ ⊢;refine Par.bp (λaT=>?_) (λ_=>.aq hm);refine .aA (Ξ:=fB) ?_ λr ao=>.aq ⟨ao,by show 0<=aJ (i+1); rw [cA]; omega⟩;refine .go λr ao=>.aA (Ξ:=λ_=>True) (λ_ _=>trivial) λ_ _=>?_;refine .aA (Ξ:=fB) (Par.bE (λ_=>.aA (s4 m _ _) λm' h=>.aq (hm.fail h)) (λ_=>.aq hm)) λiQ po=>?_;refine .aA (Ξ:=λ_=>True) (λ_ _=>trivial) λ_ _=>?_;refine .aA (Ξ:=λl:List ByteArray=>∀ y∈l,y.size<=dL) (Par.bE (λ_=>Par.ap λ_=>.aq λy ax=>?_) (λ_=>.aq po.fw)) λl aj=>.aq ⟨po.a,po.b,aj⟩;rcases List.mem_append.1 ax with ax | ax
  ·exact po.fw y ax
  ·rw [List.mem_singleton.1 ax]; exact (av.rules r (xy ao)).left
 -- types and starts
 refine .aA (Ξ:=fB) ?_ λhl tL=>?_
 ·refine Par.loop (λz=>fB z.1) HS λz hm=>?_;obtain ⟨m,i⟩:=z;simp only at hm ⊢;refine Par.bp (λaT=>?_) (λ_=>.aq hm);refine .aA (Ξ:=fB) ?_ λr ao=>.aq ao;refine Par.loop (λz=>fB z.1) hm λz hm=>?_;obtain ⟨m,k⟩:=z;simp only at hm ⊢;refine .go λd _=>Par.bp (λaT=>?_) (λ_=>.aq hm);refine .aA (Ξ:=fB) ?_ λr ao=>.aq ao;refine .go λ_ _=>.go λ_ _=>.aA (Ξ:=λ_=>True) (λ_ _=>trivial) λ_ _=>?_;exact .aA (Ξ:=fB) (Par.bE (λ_=>.aA (s4 m _ _) λm' h=>.aq (hm.fail h)) (λ_=>.aq hm)) λm' im=>.aq im
 refine .aA (Ξ:=λ_=>True) (λ_ _=>trivial) λxG _=>.aA (Ξ:=λ_=>True) (λ_ _=>trivial) λmI _=>?_
 -- the alternatives
 refine .aA (Ξ:=fB) ?_ λbu pq=>?_
 ·refine Par.loop (λz=>fB z.1/\0<=z.2) ⟨⟨tL.a,tL.b,tL.fw⟩,Int.le_refl 0⟩ λz aX=>?_;obtain ⟨m,i⟩:=z;obtain ⟨hm,aQ⟩:=aX;simp only at hm aQ ⊢;refine Par.bp (λaT=>?_) (λ_=>.aq hm);refine .aA (Ξ:=fB) ?_ λr ao=>.aq ⟨ao,by show 0<=aJ (i+1); rw [cA]; omega⟩;refine Par.loop (λz=>fB z.1/\0<=z.2) ⟨hm,Int.le_refl 0⟩ λz aX=>?_;obtain ⟨m,k⟩:=z;obtain ⟨hm,HO⟩:=aX;simp only at hm HO ⊢;refine .go λd aS=>Par.bp (λq'=>?_) (λ_=>.aq hm);have jW:=xy aS;have zr:=(av.rules d jW).n;refine .go λd1 NG=>.go λd2 zq=>.go λa aP=>?_;rw [aS] at NG zq;cases NG; cases zq;have Nx:=xy aP;exact .aA (X2 m d.Left a hm ((av.rules d jW).alts a Nx) (ok.rules d jW a Nx)) λm' im=>.aq ⟨im,by show 0<=aJ (k+1); rw [cA]; omega⟩
 refine Par.pj (λh=>.aq λaR=>absurd aR h) (λhe=>?_);have I6:=pq.b he
 -- nonterminals
 refine .aA (Ξ:=λl:List fD=>1<=l.length/\∀ x∈l,x.Name.size<=4 * dL) ?_ λuO HV=>?_
 ·refine Par.loop (λz=>1<=z.1.length/\∀ x∈z.1,x.Name.size<=4 * dL) ⟨Nat.le_refl 1,λx J=>?_⟩ λz aX=>?_
  ·rw [List.mem_singleton.1 J]; decide
  ·refine Par.bE (λ_=>.go λy ax=>.go λ_ _=>.aA (Ξ:=λ_=>True) (λ_ _=>trivial) λ_ _=>Par.ap λ_=>.aq ⟨by show 1<=(z.1++[_]).length; simp,λx J=>?_⟩) (λ_=>.aq aX);rcases List.mem_append.1 J with J | J
   ·exact aX.2 x J
   ·rw [List.mem_singleton.1 J];have:=pq.fw y (xy ax);show y.size<=4 * dL;omega
 refine .aA (Ξ:=λl:List fD=>l.length<=24->∀ x∈l,x.Name.size<=4 * dL) ?_ λk7 M9=>?_
 ·refine Par.loop (λz=>(z.1.length<=24->∀ x∈z.1,x.Name.size<=4 * dL)/\0<=z.2/\z.2<=z.1.length) ⟨λ_=>HV.2,by show (0:Int)<=1; decide,by have:=HV.1; show (1:Int)<=(uO.length:Int); omega⟩ λz aX=>?_;obtain ⟨l,i⟩:=z;obtain ⟨aj,aQ,hi⟩:=aX;simp only at aj aQ hi ⊢;refine Par.bp (λhle=>.go λy ax=>?_) (λ_=>.aq aj);refine Par.cat (Par.ap λsN=>.aq ⟨λhlen x J=>?_,by show 0<=aJ (i+1); unfold lim at sN; simp only [List.length_cons,List.length_nil] at sN; rw [cA]; omega,by show aJ (i+1)<=(((l++[_]).length:Nat):Int); unfold lim at sN; simp only [List.length_cons,List.length_nil,List.length_append] at sN ⊢; rw [cA]; omega⟩);have hlen:(l++[_]).length<=24:=hlen;simp only [List.length_append,List.length_cons,List.length_nil] at hlen;rcases List.mem_append.1 J with J | J
  ·exact aj (by omega) x J
  ·rw [List.mem_singleton.1 J];have fX:=(t110 i aQ (by omega)).eq ax;show (_++y).size<=4 * dL;rw [ByteArray.size_append];show 1+y.size<=4 * dL;simp only [dL]; omega
 -- numbers
 have dM:=pq.a;have sN:bu.aG.ba.length<=1000000000000000:=by have:=dM.hi; unfold lim at this; omega
 refine .aA (Ξ:=λl:List bW=>∃ (i next:Int),l.length=bu.aG.ba.length/\(l.length:Int)<=i/\(∀ (j:Nat) (t:bW),l[j]?=some t->∃ t0,bu.aG.ba[j]?=some t0/\t.Name=t0.Name/\t.Lit=t0.Lit/\((t.bP=t0.bP/\(¬ (3<=j/\(j:Int)<i)\/bu.ct[j]?=some true))\/(57346<=t.bP/\t.bP<next/\3<=j/\(j:Int)<i)))/\(∀ (j k:Nat) (s t:bW),l[j]?=some s->l[k]?=some t->57346<=s.bP->s.bP=t.bP->j=k)/\57346<=next/\next<=57343+i/\i<=l.length) ?_ λmc M_=>?_
 ·refine Par.loop (λz=>z.1.length=bu.aG.ba.length/\(∀ (j:Nat) (t:bW),z.1[j]?=some t->∃ t0,bu.aG.ba[j]?=some t0/\t.Name=t0.Name/\t.Lit=t0.Lit/\((t.bP=t0.bP/\(¬ (3<=j/\(j:Int)<z.2.2)\/bu.ct[j]?=some true))\/(57346<=t.bP/\t.bP<z.2.1/\3<=j/\(j:Int)<z.2.2)))/\(∀ (j k:Nat) (s t:bW),z.1[j]?=some s->z.1[k]?=some t->57346<=s.bP->s.bP=t.bP->j=k)/\57346<=z.2.1/\z.2.1<=57343+z.2.2/\3<=z.2.2/\z.2.2<=z.1.length) ⟨rfl,λj t aw=>⟨t,aw,rfl,rfl,.inl ⟨rfl,.inl (by show ¬ (3<=j/\(j:Int)<3); omega)⟩⟩,λj k s t aB aw aQ he=>?_,by show (57346:Int)<=57346; decide,by show (57346:Int)<=57343+3; decide,Int.le_refl 3,by have:=dM.lo; show (3:Int)<=(bu.aG.ba.length:Nat); omega⟩ λz aX=>?_
  ·have:=dM.le s (List.mem_of_getElem? aB); omega
  obtain ⟨l,next,i⟩:=z;obtain ⟨aj,ff,rX,kz,xi,VK,ua⟩:=aX;simp only at aj ff rX kz xi VK ua ⊢;have hw:aJ (i+1)=i+1:=by rw [cA]; omega
  have WJ:aJ (next+1)=next+1:=by rw [cA]; omega
  rw [hw,WJ];refine Par.bp (λaT=>?_) (λdV=>.aq ⟨i,next,aj,by omega,ff,rX,kz,xi,ua⟩);have EE:i.toNat<l.length:=by omega
  refine .aA (Ξ:=λj:List bW × Int=>j.1.length=bu.aG.ba.length/\(∀ (k:Nat) (t:bW),j.1[k]?=some t->∃ t0,bu.aG.ba[k]?=some t0/\t.Name=t0.Name/\t.Lit=t0.Lit/\((t.bP=t0.bP/\(¬ (3<=k/\(k:Int)<i+1)\/bu.ct[k]?=some true))\/(57346<=t.bP/\t.bP<j.2/\3<=k/\(k:Int)<i+1)))/\(∀ (a k:Nat) (s t:bW),j.1[a]?=some s->j.1[k]?=some t->57346<=s.bP->s.bP=t.bP->a=k)/\57346<=j.2/\j.2<=57343+(i+1)) ?_ λj ah=>.aq ⟨ah.1,ah.2.1,ah.2.2.1,ah.2.2.2.1,ah.2.2.2.2,by show 3<=i+1; omega,by show i+1<=(j.1.length:Nat); rw [ah.1,<- aj]; omega⟩;refine .go λgF r3=>.aA (Ξ:=λj:List bW × Int=>j.1.length=bu.aG.ba.length/\(∀ (k:Nat) (t:bW),j.1[k]?=some t->∃ t0,bu.aG.ba[k]?=some t0/\t.Name=t0.Name/\t.Lit=t0.Lit/\((t.bP=t0.bP/\(¬ (3<=k/\(k:Int)<i+1)\/bu.ct[k]?=some true))\/(57346<=t.bP/\t.bP<j.2/\3<=k/\(k:Int)<i+1)))/\(∀ (a k:Nat) (s t:bW),j.1[a]?=some s->j.1[k]?=some t->57346<=s.bP->s.bP=t.bP->a=k)/\57346<=j.2/\j.2<=57343+(i+1)) ?_ λj ah=>.aq ah;obtain ⟨_,_,r3⟩:=vC r3;refine Par.bE (λaO=>.go λy ax=>.aq ?_) (λaO=>.aq ⟨aj,λk t aw=>?_,rX,kz,by omega⟩)
  ·obtain ⟨_,_,ax⟩:=vC ax;obtain ⟨t0,hd,cy,b9,fH⟩:=ff _ y ax;have acX:y.bP<next:=by
    rcases fH with ⟨fH,_⟩ | fH
    ·have:=dM.le t0 (List.mem_of_getElem? hd); omega
    ·exact fH.2.1
   have ky:∀ (k:Nat) (t:bW),l[k]?=some t->t.bP<next:=λk t aw=>by
    obtain ⟨t1,f0,_,_,f3⟩:=ff k t aw;rcases f3 with ⟨f3,_⟩ | f3
    ·have:=dM.le t1 (List.mem_of_getElem? f0); omega
    ·exact f3.2.1
   refine ⟨by show (l.set _ _).length=_; rw [List.length_set]; exact aj,λk t aw=>?_,λa k s t aB aw aQ he=>?_,by show 57346<=next+1; omega,by show next+1<=_; omega⟩
   ·have aw:(l.set i.toNat _)[k]?=some t:=aw;rw [ym EE] at aw;by_cases e:k=i.toNat
    ·rw [if_pos e] at aw;cases aw;subst e;exact ⟨t0,hd,cy,b9,.inr ⟨kz,by show next<next+1; omega,by omega,by omega⟩⟩
    ·rw [if_neg e] at aw;obtain ⟨t1,f0,f1,f2,f3⟩:=ff k t aw;refine ⟨t1,f0,f1,f2,?_⟩;rcases f3 with ⟨f3,f4⟩ | f3
     ·exact .inl ⟨f3,f4.imp (λh=>by omega) id⟩
     ·exact .inr ⟨f3.1,by show t.bP<next+1; omega,f3.2.2.1,by omega⟩
   ·have aB:(l.set i.toNat _)[a]?=some s:=aB;have aw:(l.set i.toNat _)[k]?=some t:=aw;rw [ym EE] at aB aw;by_cases e:a=i.toNat
    ·rw [if_pos e] at aB;cases aB;by_cases cj:k=i.toNat
     ·omega
     ·rw [if_neg cj] at aw;have h1:=ky k t aw;have he:next=t.bP:=he;omega
    ·rw [if_neg e] at aB;by_cases cj:k=i.toNat
     ·rw [if_pos cj] at aw;cases aw;have h1:=ky a s aB;have he:s.bP=next:=he;omega
     ·rw [if_neg cj] at aw;exact rX a k s t aB aw aQ he
  ·obtain ⟨t1,f0,f1,f2,f3⟩:=ff k t aw;refine ⟨t1,f0,f1,f2,?_⟩;rcases f3 with ⟨f3,f4⟩ | f3
   ·by_cases e:k=i.toNat
    ·refine .inl ⟨f3,.inr ?_⟩;rw [e,r3];simpa using aO
    ·exact .inl ⟨f3,f4.imp (λh=>by omega) id⟩
   ·exact .inr ⟨f3.1,f3.2.1,f3.2.2.1,by omega⟩
 -- limits
 refine .aA (Ξ:=λc=>c=false->mc.length<=40/\k7.length<=24) ?_ λu3 HP=>?_
 ·exact Par.bp (λ_=>.aq λh=>by cases h) (λh1=>Par.bp (λ_=>.aq λh=>by cases h) (λaf=>.aq λh=>by omega))
 refine .aA (Ξ:=λc=>c=false->u3=false) ?_ λAK HQ=>?_
 ·refine Par.loop (λz=>z.1=false->u3=false) id λz aX=>?_;refine Par.bE (λ_=>?_) (λ_=>.aq aX);exact .aA (Ξ:=λc=>c=false->u3=false) (Par.bE (λ_=>.aq λh=>by cases h) (λh=>.go λ_ _=>.aq λ_=>aX h)) λc aa=>.aq aa
 refine Par.bE (λ_=>.aq λh=>absurd h (by decide)) (λaa=>.aq λ_=>?_);obtain ⟨ir,iu⟩:=HP (HQ aa);obtain ⟨i,next,aj,dV,ff,rX,kz,xi,ua⟩:=M_;refine ⟨λj t ah aw=>?_,λj t ah aw=>?_,λj k s t aB aw aQ BM=>?_,λt aw=>?_,M9 iu⟩
 ·obtain ⟨t0,hd,_,_,fH⟩:=ff j t aw;rcases fH with ⟨fH,_⟩ | fH
  ·rw [fH]; exact I6.aS j t0 ah hd
  ·omega
 ·have eZ:j<mc.length:=(List.getElem?_eq_some_iff.1 aw).1;obtain ⟨t0,hd,_,_,fH⟩:=ff j t aw;rcases fH with ⟨fH,mR⟩ | fH
  ·rcases mR with mR | mR
   ·omega
   ·have h1:=(I6.gF j t0 ah hd).1 mR;have af:=dM.le t0 (List.mem_of_getElem? hd);omega
  ·omega
 ·by_cases HU:57346<=s.bP
  ·exact rX j k s t aB aw HU BM
  ·obtain ⟨e0,hd,_,_,fH⟩:=ff j s aB;obtain ⟨t0,f0,_,_,f3⟩:=ff k t aw;rcases fH with ⟨fH,_⟩ | fH
   ·rcases f3 with ⟨f3,_⟩ | f3
    ·exact I6.un j k e0 t0 hd f0 (by omega) (by omega)
    ·omega
   ·omega
 ·obtain ⟨j,ah,rfl⟩:=List.mem_iff_getElem.1 aw;obtain ⟨t0,hd,cy,b9,_⟩:=ff j _ (List.getElem?_eq_getElem ah);have:=dM.CE t0 (List.mem_of_getElem? hd);rw [cy,b9]; exact this
end Go.Proofs
