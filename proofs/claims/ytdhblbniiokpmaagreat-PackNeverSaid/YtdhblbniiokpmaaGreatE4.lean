/-
  Parts of the proof that the last text states. No condition of their own.
-/
import Derived.KernelRfl
import Derived.Test.YtdhblbniiokpmaaGreatE3
namespace Go.Proofs
open Go Go.Own
set_option maxRecDepth 100000
set_option linter.unusedVariables false
theorem Za (m:fJ) (x:Sym) (aO:m.ct.length=m.aH.ba.length) (aI:3<=m.aH.ba.length) (h:m.aH.ba.length<=100000000000) (ak:m.cb.length<=100000000000) (J:lY x) (aw:x.Lit=true\/∀ y∈m.cb,y≠x.Name) :
  Tot (s9 m x) λr=>Grow m r.2 1/\0<=r.1/\r.1<r.2.aH.ba.length:=by
 unfold s9;have r4:Grow m m 1:=⟨aO,Nat.le_refl _,Nat.le_succ _,Nat.le_succ _,rfl,rfl,rfl,rfl,λ_ h=>h⟩;refine Tot.bE (λ_=>?_) (λoa=>?_)
 ·exact .aA (t136 m x aO h J) λr ⟨aq,aQ,h1⟩=>.ao ⟨aq,aQ,h1⟩
 ·have aw:∀ y∈m.cb,y≠x.Name:=aw.resolve_left (by rw [oa]; decide);refine .aA (t107 m x.Name (by simp only [dL]; omega)) λk hk=>Tot.bp (λaQ=>?_) (λ_=>?_)
  ·rcases hk with ⟨rfl,_⟩ | ⟨h1,af,aI⟩
   ·exact absurd aQ (by decide)
   ·exact absurd rfl (aw _ (List.mem_of_getElem? aI))
  ·refine .aA (t106 m x (by simp only [dL]; omega)) λt aw=>Tot.bp (λ_=>?_) (λaQ=>.ao ⟨r4,?_⟩)
   ·refine .aA (t105 m _ _) λm' hm=>.ao ⟨hm.1.grow aO 1,Int.le_refl 0,?_⟩;show (0:Int)<(m'.aH.ba.length:Int);rw [hm.1.g]; omega
   ·show 0<=t/\t<(m.aH.ba.length:Int);rcases aw with aw | aw <;> omega
structure AZ (T:Nat) (N:Int) (p:Prod):Prop where
 left:0<=p.Left/\p.Left<=N
 right:∀ s∈p.eu,qY T N s
 prec:-1<=p.Prec/\p.Prec<T
theorem AZ.mono {T T':Nat}{N i':Int}{p:Prod}(h:AZ T N p) (dM:T<=T') (bd:N<=i'):AZ T' i' p :=
 ⟨⟨h.left.1,by have:=h.left.2; omega⟩,λs aB=>(h.right s aB).mono dM bd,⟨h.prec.1,by have:=h.prec.2; omega⟩⟩
structure k9 (m:fJ) (T L I Q:Nat):Prop where
 gD:m.ct.length=m.aH.ba.length
 lo:3<=m.aH.ba.length
 hi:m.aH.ba.length<=T
 ty:m.cL.length<=T
 fv:m.cb.length=L
 hB:0<=m.b_/\m.b_<=I
 Ap:m.aH.bh.length<=Q
 hx:∀ p∈m.aH.bh,AZ m.aH.ba.length (L+m.b_) p
 lvl:0<=m.cq
 jy:∀ t∈m.aH.ba,0<=t.Level
theorem k9.mono {m:fJ}{T L I Q T' I' Lq:Nat}(h:k9 m T L I Q) (dM:T<=T') (bc:I<=I') (dP:Q<=Lq):k9 m T' L I' Lq :=
 ⟨h.gD,h.lo,by have:=h.hi; omega,by have:=h.ty; omega,h.fv,⟨h.hB.1,by have:=h.hB.2; omega⟩,by have:=h.Ap; omega,h.hx,h.lvl,h.jy⟩
theorem k9.grow {m m':fJ}{T L I Q k:Nat}(h:k9 m T L I Q) (g:Grow m m' k):k9 m' (T+k) L I Q :=
 ⟨g.gD,by have:=h.lo; have:=g.lo; omega,by have:=h.hi; have:=g.hi; omega,by have:=h.ty; have:=g.ty; omega,by rw [g.fv]; exact h.fv,by rw [g.hB]; exact h.hB,by rw [g.hx]; exact h.Ap,
  by rw [g.hx,g.hB]; exact λp au=>(h.hx p au).mono g.lo (by omega),by rw [g.lvl]; exact h.lvl,g.jy h.lvl h.jy⟩
theorem t108 (m:fJ) (left:ByteArray) (a:Alt) {T L I Q:Nat}(hm:k9 m T L I Q) (dM:T<=10000000000) (h_:L<=10000000000) (bc:I<=10000000000) (dP:Q<=10000000000) (av:wx a) (db:DK a) :
  Tot (vR m left a) λm'=>k9 m' (T+1001) L (I+1000) (Q+1001)/\1<=m'.aH.bh.length:=by
 unfold vR;have aF:=av.n;refine .aA (t107 m left (by rw [hm.fv]; simp only [dL]; omega)) λa8 iv=>?_;have acW:-1<=a8/\a8<L:=by rw [<- hm.fv]; rcases iv with h | h <;> omega
 refine Tot.aA (Ξ:=λa7=>k9 a7.1 (T+1000) L (I+1000) (Q+1000)/\(∀ s∈a7.2.1,qY a7.1.aH.ba.length (L+a7.1.b_) s)/\a7.2.1.length<=1000) ?_ λa7 jV=>?_
 ·refine Tot.count (λs=>s.2.2.2.2) a.hA.length (λs=>0<=s.2.2.2.2/\s.2.2.2.2<=a.hA.length/\k9 s.1 (T+s.2.2.2.2.toNat) L (I+s.2.2.2.2.toNat) (Q+s.2.2.2.2.toNat)/\(∀ y∈s.2.1,qY s.1.aH.ba.length (L+s.1.b_) y)/\s.2.1.length<=s.2.2.2.2.toNat) ⟨by show (0:Int)<=0; omega,by show (0:Int)<=_; omega,hm,by simp,Nat.le_refl 0⟩ (by show (a.hA.length:Int) - 0<_; omega) λs aB=>?_;obtain ⟨m1,rt,bE,at_,i⟩:=s;obtain ⟨aQ,h1,ah,aq,ak⟩:=aB;simp only at aQ h1 ah aq ak ⊢;have hw:aJ (i+1)=i+1:=by rw [cB]; omega
  have cv:(i+1).toNat=i.toNat+1:=by omega
  refine Tot.bp (λaT=>?_) (λ_=>.ao ⟨ah.mono (by omega) (by omega) (by omega),aq,by show rt.length<=1000; omega⟩);refine Tot.aA (Ξ:=λj=>k9 j.1 (T+(i.toNat+1)) L (I+(i.toNat+1)) (Q+(i.toNat+1))/\(∀ y∈j.2.1,qY j.1.aH.ba.length (L+j.1.b_) y)/\j.2.1.length<=i.toNat+1) ?_ λj BK=>?_
  ·refine Tot.aA (Tot.hp (Φ:=λy=>y∈a.hA) aQ aT λy _ ax=>ax) λy ax=>?_;refine Tot.aA (Ξ:=λj=>k9 j.1 (T+(i.toNat+1)) L (I+(i.toNat+1)) (Q+(i.toNat+1))/\(∀ y∈j.2.1,qY j.1.aH.ba.length (L+j.1.b_) y)/\j.2.1.length<=i.toNat+1) ?_ λj IB=>.ao IB;refine Tot.aA (Ξ:=λj=>k9 j.1 (T+(i.toNat+1)) L (I+(i.toNat+1)) (Q+(i.toNat+1))/\(∀ y∈j.2.1,qY j.1.aH.ba.length (L+j.1.b_) y)/\j.2.1.length<=i.toNat+1) ?_ λj IB=>.ao IB;refine Tot.bE (λ_=>?_) (λ_=>?_)
   ·have bY:=ah.hi;refine .aA (t138 m1 y.Sym ah.gD ah.lo (by omega) (by rw [ah.fv]; omega) (db.parts y ax)) λr ⟨aO,Od⟩=>?_;refine .aA (Ξ:=λ_=>True) (Tot.ap (by simp [lim]; omega) trivial) λ_ _=>.ao ⟨(ah.grow aO).mono (by omega) (by omega) (by omega),λz aX=>?_,by simp; omega⟩;rcases List.mem_append.1 aX with aX | aX
    ·exact (aq z aX).mono aO.lo (by show (L:Int)+m1.b_<=L+r.2.b_; rw [aO.hB]; omega)
    ·rw [List.mem_singleton.1 aX];rw [ah.fv] at Od;exact Od.mono (Nat.le_refl _) (by show (L:Int)<=L+r.2.b_; rw [aO.hB]; have:=ah.hB.1; omega)
   ·refine Tot.aA (Ξ:=λj=>k9 (⟨(⟨m1.aH.ba,m1.aH.b2,j.1,m1.aH.cA,m1.aH.cK⟩:bN),m1.ct,m1.cL,m1.cb,m1.c0,m1.dn,m1.dk,m1.cq,j.2.1⟩:dt) (T+(i.toNat+1)) L (I+(i.toNat+1)) (Q+(i.toNat+1))/\(∀ y∈j.2.2.1,qY m1.aH.ba.length (L+j.2.1) y)/\j.2.2.1.length<=i.toNat+1) ?_ λj Vy=>.ao Vy;refine Tot.bE (λ_=>.ao ⟨⟨ah.gD,ah.lo,by have:=ah.hi; show m1.aH.ba.length<=_; omega,by have:=ah.ty; show m1.cL.length<=_; omega,ah.fv,⟨ah.hB.1,by have:=ah.hB.2; show m1.b_<=_; omega⟩,by have:=ah.Ap; show m1.aH.bh.length<=_; omega,ah.hx,ah.lvl,ah.jy⟩,aq,by show rt.length<=_; omega⟩) (λ_=>?_);have vo:=ah.hB;have vp:=ah.fv;have sR:=ah.Ap;have ig:aJ (m1.b_+1)=m1.b_+1:=by rw [cB]; omega
    have hy:aJ (((m1.cb.length:Int))+(m1.b_+1))=L+(m1.b_+1):=by rw [cB,vp]; omega
    have AE:aJ (1000+(m1.cb.length:Int))=1000+L:=by rw [cB,vp]; omega
    have AF:aJ (1000+(L:Int)+(m1.b_+1))=1000+(L:Int)+(m1.b_+1):=by rw [cB]; omega
    rw [ig,hy,AE,AF];refine .aA (Ξ:=λ_=>True) (Tot.ap (by simp [lim]; omega) trivial) λ_ _=>.aA (Ξ:=λ_=>True) (Tot.ap (by simp [lim]; omega) trivial) λ_ _=>.aA (Ξ:=λ_=>True) (Tot.ap (by simp [lim]; omega) trivial) λ_ _=>.ao ⟨⟨ah.gD,ah.lo,?_,?_,ah.fv,?_,?_,?_,ah.lvl,ah.jy⟩,?_,?_⟩
    ·have:=ah.hi; show m1.aH.ba.length<=_; omega
    ·have:=ah.ty; show m1.cL.length<=_; omega
    ·show 0<=m1.b_+1/\m1.b_+1<=((I+(i.toNat+1):Nat):Int); omega
    ·show (m1.aH.bh++[_]).length<=_; simp; omega
    ·intro p au;rcases List.mem_append.1 au with au | au
     ·exact (ah.hx p au).mono (Nat.le_refl _) (by show (L:Int)+m1.b_<=L+(m1.b_+1); omega)
     ·rw [List.mem_singleton.1 au];refine ⟨?_,by simp,?_⟩
      ·show 0<=(L:Int)+(m1.b_+1)/\(L:Int)+(m1.b_+1)<=L+(m1.b_+1); omega
      ·have:=ah.lo; show (-1:Int)<=-1/\(-1:Int)<(m1.aH.ba.length:Int); omega
    ·intro z aX;rcases List.mem_append.1 aX with aX | aX
     ·exact (aq z aX).mono (Nat.le_refl _) (by show (L:Int)+m1.b_<=L+(m1.b_+1); omega)
     ·rw [List.mem_singleton.1 aX];exact .inr (by show 1000<=1000+(L:Int)+(m1.b_+1)/\1000+(L:Int)+(m1.b_+1)<=1000+((L:Int)+(m1.b_+1)); omega)
    ·show (rt++[_]).length<=_; simp; omega
  ·rw [hw];refine .ao ⟨⟨?_,?_,?_,BK.2.1,?_⟩,?_,?_⟩
   ·show (0:Int)<=i+1; omega
   ·show i+1<=(a.hA.length:Int); omega
   ·show k9 j.1 (T+(i+1).toNat) L (I+(i+1).toNat) (Q+(i+1).toNat);rw [cv]; exact BK.1
   ·show j.2.1.length<=(i+1).toNat;rw [cv]; exact BK.2.2
   ·show i<i+1; omega
   ·show i+1<=(a.hA.length:Int); omega
 ·obtain ⟨ah,aq,ak⟩:=jV;have l5:=ah.lo;have vo:=ah.hB;refine Tot.aA (Ξ:=λp=>-1<=p/\p<(a7.1.aH.ba.length:Int)) ?_ λhx EM=>?_
  ·refine Tot.count (λs=>s.2) a7.2.1.length (λs=>0<=s.2/\s.2<=a7.2.1.length/\-1<=s.1/\s.1<(a7.1.aH.ba.length:Int)) ⟨by show (0:Int)<=0; omega,by show (0:Int)<=_; omega,by show (-1:Int)<=-1; omega,by show (-1:Int)<_; omega⟩ (by show (a7.2.1.length:Int) - 0<_; omega) λs aB=>?_;obtain ⟨aQ,h1,af,aI⟩:=aB;have hw:aJ (s.2+1)=s.2+1:=by rw [cB]; omega
   rw [hw];refine Tot.bp (λaT=>?_) (λ_=>.ao ⟨af,aI⟩);refine Tot.aA (Ξ:=λp=>-1<=p/\p<(a7.1.aH.ba.length:Int)) ?_ λp au=>.ao ⟨⟨?_,?_,au.1,au.2⟩,?_,?_⟩
   ·refine .aA (Tot.hp (Φ:=λy=>idx a7.2.1 s.2=some y/\y∈a7.2.1) aQ aT λy h1 af=>⟨h1,af⟩) λy ax=>?_;refine .aA (Ξ:=λp=>-1<=p/\p<(a7.1.aH.ba.length:Int)) ?_ λp au=>.ao au;refine Tot.bp (λaT=>?_) (λ_=>.ao ⟨af,aI⟩);rw [ax.1];refine Tot.aV (.ao ?_);rcases aq y ax.2 with h | h
    ·omega
    ·omega
   ·show (0:Int)<=s.2+1; omega
   ·show s.2+1<=(a7.2.1.length:Int); omega
   ·show s.2<s.2+1; omega
   ·show s.2+1<=(a7.2.1.length:Int); omega
  ·refine Tot.aA (Ξ:=λj=>Grow a7.1 j.1 1/\-1<=j.2/\j.2<(j.1.aH.ba.length:Int)) ?_ λj ED=>?_
   ·have r4:Grow a7.1 a7.1 1:=⟨ah.gD,Nat.le_refl _,Nat.le_succ _,Nat.le_succ _,rfl,rfl,rfl,rfl,λ_ h=>h⟩;refine Tot.bE (λ_=>?_) (λ_=>.ao ⟨r4,EM⟩);refine Tot.aA (Ξ:=λc=>c=true->a.Prec.Lit=true\/∀ y∈a7.1.cb,y≠a.Prec.Name) ?_ λc aa=>?_
    ·refine Tot.bE (λh=>.ao λ_=>.inl h) (λ_=>?_);refine .aA (t107 a7.1 a.Prec.Name (by rw [ah.fv]; simp only [dL]; omega)) λk hk=>.ao λaT=>?_;have aT:=of_decide_eq_true aT;rcases hk with ⟨_,h⟩ | h
     ·exact .inr h
     ·omega
    ·refine Tot.aA (Ξ:=λj=>Grow a7.1 j.1 1/\-1<=j.2/\j.2<(j.1.aH.ba.length:Int)) ?_ λj ah=>.ao ah;have bY:=ah.hi;refine Tot.bE (λh=>?_) (λ_=>?_)
     ·refine .aA (Za a7.1 a.Prec ah.gD ah.lo (by omega) (by rw [ah.fv]; omega) db.prec (aa h)) λr aq=>.ao ⟨aq.1,?_,aq.2.2⟩;have:=aq.2.1; show -1<=r.1; omega
     ·refine .aA (t105 a7.1 _ _) λm' ir=>.ao ⟨ir.1.grow ah.gD 1,by show (-1:Int)<=-1; omega,?_⟩;show (-1:Int)<(m'.aH.ba.length:Int); omega
   ·have ir:=ah.grow ED.1;have sR:=ir.Ap;refine .aA (Ξ:=λ_=>True) (Tot.ap (by simp [lim]; omega) trivial) λ_ _=>.aA (Ξ:=λ_=>True) (Tot.ap (by simp [lim]; omega) trivial) λ_ _=>.ao ⟨⟨ir.gD,ir.lo,?_,?_,ir.fv,⟨ir.hB.1,?_⟩,?_,?_,ir.lvl,ir.jy⟩,by simp⟩
    ·have:=ir.hi; show j.1.aH.ba.length<=_; omega
    ·have:=ir.ty; show j.1.cL.length<=_; omega
    ·have:=ir.hB.2; show j.1.b_<=_; omega
    ·show (j.1.aH.bh++[_]).length<=_; simp; omega
    ·intro p au;rcases List.mem_append.1 au with au | au
     ·exact ir.hx p au
     ·rw [List.mem_singleton.1 au];have acy:=ir.hB;refine ⟨?_,λz aX=>?_,ED.2⟩
      ·show 0<=aJ (1+a8)/\aJ (1+a8)<=(L:Int)+j.1.b_;rw [cB]; omega
      ·exact (aq z aX).mono ED.1.lo (by show (L:Int)+a7.1.b_<=L+j.1.b_; rw [ED.1.hB]; omega)
theorem KI (l:List Int):(strOfNums l).size=l.length:=strOfNums_size ..
theorem t110 (n:Int) (aQ:0<=n) (h1:n<=1000000000000):Tot (CJ n) λs=>s.size<=2000000000000:=by
 unfold CJ;have hu:IntKind.u64.wrap n=n:=by rw [IntKind.wrap_u64]; omega
 refine Tot.aA (Ξ:=λj=>j=n) (Tot.bp (λh=>absurd h (by omega)) (λ_=>.ao hu)) λj ah=>?_;subst ah;refine Tot.aA (Ξ:=λs=>s.size<=1000000000001) ?_ λs aB=>Tot.bp (λh=>absurd h (by omega)) (λ_=>.ao (by omega));refine Tot.loop (λs=>0<=s.1/\s.1+s.2.size<=1000000000000+1/\(s.2.size=0->s.1<=1000000000000)) (λs=>s.1.toNat+(if s.2.size=0 then 1 else 0)) ⟨aQ,by show j+((0:Nat):Int)<=_; omega,λ_=>h1⟩ (by show j.toNat+(if (0:Nat)=0 then 1 else 0)<1000000000000000000; simp; omega) λs aB=>?_
 obtain ⟨m,t⟩:=s;obtain ⟨g0,g1,g2⟩:=aB;simp only at g0 g1 g2 ⊢;refine Tot.aA (Ξ:=λc=>c=true->0<m\/t.size=0) ?_ λc aa=>Tot.bE (λiq=>?_) (λ_=>.ao ?_)
 ·refine Tot.bp (λh=>.ao λ_=>.inl h) (λ_=>.ao λh=>.inr ?_);have:=of_decide_eq_true h;rw [this]; rfl
 ·have aa:=aa iq;refine .aA (Ξ:=λx=>x=m.tmod 10) (Tot.rv (by decide) rfl) λx J=>?_;refine .aA (Ξ:=λy=>y.size=t.size+1) (Tot.cat ?_ ?_) λy ax=>.aA (Ξ:=λz=>z=m / 10) (Tot.rq (by decide) ?_) λz aX=>.ao ?_
  ·rw [KI]; simp; omega
  ·rw [ByteArray.size_append,KI]; simp; omega
  ·rw [Int.tdiv_eq_ediv_of_nonneg g0,IntKind.wrap_u64]; omega
  ·subst aX;refine ⟨⟨?_,?_,?_⟩,?_⟩
   ·show 0<=m / 10; omega
   ·show m / 10+(y.size:Int)<=_; rw [ax]; omega
   ·intro h; have h:y.size=0:=h; omega
   ·show (m / 10).toNat+(if y.size=0 then 1 else 0)<m.toNat+(if t.size=0 then 1 else 0);rw [if_neg (by omega)]
    split <;> omega
 ·show t.size<=1000000000001; omega
structure gz (g:bN):Prop where
 kE:3<=g.ba.length/\g.ba.length<=40
 dx:1<=g.b2.length/\g.b2.length<=24
 hX:1<=g.bh.length/\g.bh.length<=60
 hx:∀ p∈g.bh,AZ g.ba.length (g.b2.length - 1) p
 aG:∀ p∈g.bh,p.eu.length<=8
 jy:∀ t∈g.ba,0<=t.Level
structure iK (m:fJ) (T L:Nat):Prop where
 gD:m.ct.length=m.aH.ba.length
 lo:3<=m.aH.ba.length
 hi:m.aH.ba.length<=3+T
 ty:m.cL.length<=T
 fv:m.cb.length<=L
 hx:m.aH.bh=[]
 hB:m.b_=0
 lvl:0<=m.cq
 jy:∀ t∈m.aH.ba,0<=t.Level
theorem iK.mono {m:fJ}{T L T' L':Nat}(h:iK m T L) (dM:T<=T') (h_:L<=L'):iK m T' L' :=
 ⟨h.gD,h.lo,by have:=h.hi; omega,by have:=h.ty; omega,by have:=h.fv; omega,h.hx,h.hB,h.lvl,h.jy⟩
theorem iK.grow {m m':fJ}{T L k:Nat}(h:iK m T L) (g:Grow m m' k):iK m' (T+k) L :=
 ⟨g.gD,by have:=h.lo; have:=g.lo; omega,by have:=h.hi; have:=g.hi; omega,by have:=h.ty; have:=g.ty; omega,by rw [g.fv]; exact h.fv,g.hx.trans h.hx,g.hB.trans h.hB,by rw [g.lvl]; exact h.lvl,g.jy h.lvl h.jy⟩
theorem iK.same {m m':fJ}{T L:Nat}(h:iK m T L) (g:rK m m'):iK m' T L:=by
 have:=h.grow (g.grow h.gD 0);exact this
theorem S7 (s:ByteArray) (m n:Int) (h:0<=m/\m<=n/\n<=s.size):(rQ s m n).size<=(n - m).toNat:=by
 grind [rQ,ByteArray.size_extract]
theorem t22 (s:ByteArray) (n:Int) (aQ:0<=n):Tot (s' s n) λt=>(t.size:Int)<=n:=by
 unfold s';refine Tot.bp (λh=>?_) (λh=>.ao (by omega))
 grind [Tot.cut,S7]
theorem t23 (x:Sym):Tot (x1 x) λy=>y.Name.size<=dL:=by
 unfold x1;refine .aA (t22 _ 25 (by decide)) λt aw=>.ao ?_
 grind
theorem Tot.make {β:Type}{f:List β × Int->Option ((List β × Int) ⊕ List β)}(n:Int) (P:β->Prop) (aF:0<=n/\n<=1000000)
  (aB:∀ (l:List β) (i:Int),0<=i->i<=n->(l.length:Int)=i->(∀ y∈l,P y)->Tot (f (l,i)) (hl (λcT=>i<n/\cT.2=i+1/\∃ y,cT.1=l++[y]/\P y) (λr=>r=l))) :
  Tot (b1 f ([],0)) λl=>(l.length:Int)<=n/\∀ y∈l,P y:=by
 refine Tot.count (λs=>s.2) n (λs=>0<=s.2/\s.2<=n/\(s.1.length:Int)=s.2/\∀ y∈s.1,P y) ⟨Int.le_refl 0,aF.1,rfl,by simp⟩ (by show n - 0<_; omega) λs bc=>?_;obtain ⟨l,i⟩:=s;obtain ⟨aQ,h1,af,aI⟩:=bc;refine (aB l i aQ h1 af aI).use λx J=>?_
 grind
theorem t9 (s:Source):Tot (Da s) rL:=by
 unfold Da;refine .aA (t22 s.cA 40 (by decide)) λa8 h1=>.aA (t22 s.cK 40 (by decide)) λx2 af=>?_;refine .aA (Tot.make 8 GG (by decide) λl i aQ vo ak cn=>?_) λbq bF=>?_
 ·refine .aA (Ξ:=λc=>c=true->i<s.Decls.length/\i<8) (Tot.bp (λh=>.ao λaf=>⟨h,of_decide_eq_true af⟩) (λ_=>.ao λh=>by cases h)) λc aa=>Tot.bE (λiq=>?_) (λ_=>.ao rfl);obtain ⟨hi,Iz⟩:=aa iq;have m_:i.toNat<s.Decls.length:=by omega
  have ub:idx s.Decls i=some s.Decls[i.toNat]:=by simp [idx,aQ,m_]
  rw [ub];generalize s.Decls[i.toNat]=d;have hw:aJ (i+1)=i+1:=by rw [cB]; omega
  refine Tot.aV (Tot.aV (.aA (t22 d.Tag 25 (by decide)) λcr zi=>Tot.aV ?_));refine .aA (Tot.make 6 (λx=>x.Name.size<=dL) (by decide) λvH k g0 TL Eo TJ=>?_) λed sH=>?_
  ·refine .aA (Ξ:=λc=>c=true->k<d.eN.length/\k<6) (Tot.aV (Tot.bp (λh=>.ao λaf=>⟨h,of_decide_eq_true af⟩) (λ_=>.ao λh=>by cases h))) λc aa=>Tot.bE (λiq=>?_) (λ_=>.ao rfl);obtain ⟨hk,ID⟩:=aa iq;refine Tot.aV (.aA (Tot.hp (Φ:=λ_=>True) g0 hk λ_ _ _=>trivial) λeL _=>.aA (t23 eL) λfL TP=>.aA (Ξ:=λ_=>True) (Tot.ap (by simp [lim]; omega) trivial) λ_ _=>.ao ⟨ID,?_,_,rfl,TP⟩)
   grind [cB]
  ·refine .aA (Ξ:=λ_=>True) (Tot.ap (by simp [lim]; omega) trivial) λ_ _=>.ao ⟨Iz,hw,_,rfl,⟨?_,?_,sH.2⟩⟩
   ·grind
   grind
 ·refine .aA (Tot.make 6 Lr (by decide) λl i aQ vo ak cn=>?_) λgy rW=>.ao ⟨?_,?_,bF.2,?_,rW.2⟩
  ·refine .aA (Ξ:=λc=>c=true->i<s.dG.length/\i<6) (Tot.bp (λh=>.ao λaf=>⟨h,of_decide_eq_true af⟩) (λ_=>.ao λh=>by cases h)) λc aa=>Tot.bE (λiq=>?_) (λ_=>.ao rfl);obtain ⟨hi,Iz⟩:=aa iq;have m_:i.toNat<s.dG.length:=by omega
   have ub:idx s.dG i=some s.dG[i.toNat]:=by simp [idx,aQ,m_]
   rw [ub];generalize s.dG[i.toNat]=d;have hw:aJ (i+1)=i+1:=by rw [cB]; omega
   refine Tot.aV (.aA (t22 d.Left 25 (by decide)) λcR HQ=>Tot.aV ?_);refine .aA (Tot.make 5 wx (by decide) λvH k g0 TL Eo TJ=>?_) λee TS=>?_
   ·refine .aA (Ξ:=λc=>c=true->k<d.eM.length/\k<5) (Tot.aV (Tot.bp (λh=>.ao λaf=>⟨h,of_decide_eq_true af⟩) (λ_=>.ao λh=>by cases h))) λc aa=>Tot.bE (λiq=>?_) (λ_=>.ao rfl);obtain ⟨hk,ID⟩:=aa iq;have VF:k.toNat<d.eM.length:=by omega
    have VC:idx d.eM k=some d.eM[k.toNat]:=by simp [idx,g0,VF]
    simp only [Option.bind_some,VC];generalize d.eM[k.toNat]=a;have qq:aJ (k+1)=k+1:=by rw [cB]; omega
    refine .aA (t23 a.Prec) λfM TU=>?_;refine .aA (Tot.make 6 (λp=>p.Sym.Name.size<=dL/\p.Code.size<=dL) (by decide) λgk j hc abO el abN=>?_) λnX TW=>?_
    ·refine .aA (Ξ:=λc=>c=true->j<a.hA.length/\j<6) (Tot.bp (λh=>.ao λaf=>⟨h,of_decide_eq_true af⟩) (λ_=>.ao λh=>by cases h)) λc aa=>Tot.bE (λiq=>?_) (λ_=>.ao rfl);obtain ⟨ah,BK⟩:=aa iq;refine .aA (Tot.hp (Φ:=λ_=>True) hc ah λ_ _ _=>trivial) λmK _=>.aA (t23 mK.Sym) λox HR=>.aA (t22 mK.Code 60 (by decide)) λnY M3=>.aA (Ξ:=λ_=>True) (Tot.ap (by simp [lim]; omega) trivial) λ_ _=>.ao ⟨BK,?_,_,rfl,HR,?_⟩
     ·grind [cB]
     grind
    ·refine .aA (Ξ:=λ_=>True) (Tot.ap (by simp [lim]; omega) trivial) λ_ _=>.ao ⟨ID,qq,_,rfl,⟨?_,TW.2,TU⟩⟩
     grind
   ·refine .aA (Ξ:=λ_=>True) (Tot.ap (by simp [lim]; omega) trivial) λ_ _=>.ao ⟨Iz,hw,_,rfl,⟨?_,?_,TS.2⟩⟩
    ·grind
    grind
  all_goals grind
theorem t24 (a n:Int) (h:0<n) (aF:n<=9223372036854775807):Tot (vW a n) λr=>0<=r/\r<n:=by
 unfold vW;have h1:-n<a.tmod n:=by
  by_cases aP:0<=a
  ·have:=Int.tmod_nonneg n aP;omega
  ·have af:(-a).tmod n<n:=Int.tmod_lt_of_pos _ h;rw [Int.neg_tmod] at af;omega
 have af:a.tmod n<n:=Int.tmod_lt_of_pos a h;refine .aA (Ξ:=λx=>x=a.tmod n) (Tot.rem (by omega) rfl) λx J=>?_;subst J;refine Tot.aA (Ξ:=λr=>0<=r/\r<n) (Tot.bp (λaI=>.ao ?_) (λaI=>.ao (by omega))) λr aq=>.ao aq
 grind [cB]
theorem t28 (k:Int) (h:0<=k):Tot (vX k) λx=>x.Name.size=1/\x.Lit=true/\x.bR=0:=by
 unfold vX;refine .aA (Ξ:=λx=>x.size=4) (.ao rfl) λa8 h1=>.aA (Ξ:=λr=>r=k.tmod 4) (Tot.rem (by decide) rfl) λx2 af=>.aA (Ξ:=λr=>r=k.tmod 4) (Tot.rem (by decide) rfl) λa7 aI=>?_;subst af aI;have e:k.tmod 4=k % 4:=Int.tmod_eq_emod_of_nonneg h;rw [e];have hw:aJ (k % 4+1)=k % 4+1:=by rw [cB]; omega
 rw [hw];refine .aA (Ξ:=λx=>x.size=1) (Tot.cut (by rw [h1]; omega) ?_) λbq bF=>.ao ⟨bF,rfl,rfl⟩
 grind [S8]
theorem t26 (k:Int):Tot (Ac k) λx=>x.size=1:=by
 unfold Ac;exact .ao (by rw [KI]; rfl)
theorem t27 (k n:Int) (h:0<n) (aF:n<=100):Tot (CR k n) λx=>x.Name.size<=5:=by
 unfold CR;refine .aA (t24 k 14 (by decide) (by decide)) λa8 h1=>Tot.bp (λcF=>?_) (λcF=>Tot.bE (λ_=>.ao ?_) (λ_=>?_))
 ·refine .aA (Ξ:=λ_=>True) (Tot.rem (by omega) trivial) λa7 _=>.aA (t26 a7) λbq bF=>.ao ?_
  grind
 ·show (5:Nat)<=5;omega
 ·refine .aA (t28 _ ?_) λx J=>.ao (by omega)
  grind [cB]
structure AO (n:Nat) (d:Decl):Prop where
 tag:d.Tag.size=0
 n:d.eN.length<=n
 syms:∀ x∈d.eN,x.Name.size<=dL
theorem t25 (l:List Int):Tot (Ab l) λr=>r.length<=4/\∀ d∈r,AO 10 d:=by
 unfold Ab;refine Tot.aA (Ξ:=λr=>r.length<=4/\∀ d∈r,AO 10 d) ?_ λr aq=>.ao aq;refine Tot.count (λs=>s.2) 4 (λs=>0<=s.2/\s.2<=4/\s.1.length<=s.2.toNat/\∀ d∈s.1,AO (1+s.2.toNat) d) ⟨Int.le_refl 0,by decide,Nat.le_refl 0,λd aS=>absurd aS (by simp)⟩ (by decide) λs aB=>?_;obtain ⟨r,i⟩:=s;obtain ⟨aQ,bF,ak,aS⟩:=aB;simp only at aQ bF ak aS ⊢;have hw:aJ (i+1)=i+1:=by rw [cB]; omega
 rw [hw];refine .aA (Ξ:=λc=>c=true->i<l.length/\i<4) (Tot.bp (λh=>.ao λaf=>⟨h,of_decide_eq_true af⟩) (λ_=>.ao λh=>by cases h)) λc aa=>Tot.bE (λiq=>?_) (λ_=>.ao ⟨by omega,λd jU=>⟨(aS d jU).tag,by have:=(aS d jU).n; omega,(aS d jU).syms⟩⟩);obtain ⟨hi,acu⟩:=aa iq;refine Tot.aA (Ξ:=λj=>j.length<=i.toNat+1/\∀ d∈j,AO (1+(i.toNat+1)) d) ?_ λj ah=>.ao ⟨⟨?_,?_,?_,?_⟩,?_,?_⟩
 ·refine .aA (Tot.hp (Φ:=λ_=>True) aQ hi λ_ _ _=>trivial) λb6 _=>.aA (t24 b6 8 (by decide) (by decide)) λcw w5=>.aA (Ξ:=λ_=>True) (Tot.rem (by decide) trivial) λbJ _=>?_;have n_:∀ d∈r,AO (1+(i.toNat+1)) d:=λd jU=>⟨(aS d jU).tag,by have:=(aS d jU).n; omega,(aS d jU).syms⟩;refine Tot.bE (λ_=>.ao ⟨by omega,n_⟩) (λ_=>?_);refine .aA (Ξ:=λc=>c=true->0<(r.length:Int)) (Tot.bE (λ_=>.ao λh=>of_decide_eq_true h) (λ_=>.ao λh=>by cases h)) λc aa=>Tot.bE (λtZ=>?_) (λ_=>?_)
  ·have sS:=aa tZ;have Wr:aJ ((r.length:Int) - 1)=(r.length:Int) - 1:=by rw [cB]; omega
   rw [Wr];refine .aA (Tot.hp (Φ:=λy=>y∈r) (by omega) (by omega) λ_ _ h=>h) λd jU=>.aA (t28 i aQ) λx J=>.aA (Ξ:=λ_=>True) (Tot.ap (by have:=(aS d jU).n; simp [lim]; omega) trivial) λ_ _=>.ao ⟨by simp; omega,λMr zo=>?_⟩;rcases OW zo with h | rfl
   ·grind
   ·refine ⟨(aS d jU).tag,?_,λy ax=>?_⟩
    ·have:=(aS d jU).n
     grind
    ·rcases List.mem_append.1 ax with ax | ax
     ·exact (aS d jU).syms y ax
     grind
  ·refine .aA (Ξ:=λ_=>True) (Tot.rem (by decide) trivial) λdO _=>.aA (t28 i aQ) λx J=>.aA (Ξ:=λ_=>True) (Tot.ap (by simp [lim]; omega) trivial) λ_ _=>.ao ⟨by simp; omega,λMr zo=>?_⟩;rcases List.mem_append.1 zo with h | h
   ·grind
   ·rw [List.mem_singleton.1 h];refine ⟨rfl,by show 1<=_; omega,λy ax=>?_⟩
    grind
 all_goals grind
structure mj (n:Nat) (r:fc):Prop where
 left:r.Left.size<=dL
 n:r.eM.length<=n
 alts:∀ a∈r.eM,wx a
theorem mj.mono {n m:Nat}{r:fc}(h:mj n r) (hm:n<=m):mj m r:=⟨h.left,Nat.le_trans h.n hm,h.alts⟩
theorem mj.add {n:Nat}{r:fc}{a:Alt}(h:mj n r) (aP:wx a):mj (n+1) (⟨r.Left,r.eM++[a],r.At⟩:fc):=by
 refine ⟨h.left,by have:=h.n; show (r.eM++[a]).length<=_; simp; omega,λb av=>?_⟩;rcases List.mem_append.1 av with av | av
 ·exact h.alts b av
 grind
theorem LH {l:List fc}{i n:Nat}{r:fc}(h:∀ x∈l,mj n x) (aq:mj n r):∀ x∈l.set i r,mj n x:=by grind
theorem t10 (x:oy):Tot (vP x) rL:=by
 unfold vP;refine .aA (t24 x.b2 4 (by decide) (by decide)) λa8 h1=>.aA (t25 x.qS) λx2 af=>?_;have Wn:aJ (1+a8)=1+a8:=by rw [cB]; omega
 rw [Wn];refine .aA (Ξ:=λl=>l=List.replicate (1+a8).toNat false) (Tot.mk (by simp [lim]; omega) rfl) λa7 aI=>?_;have abS:a7.length=(1+a8).toNat:=by rw [aI]; simp
 refine Tot.aA (Ξ:=λl=>(l.length:Int)=1+a8/\∀ r∈l,mj 0 r) ?_ λbS cF=>?_
 ·refine Tot.count (λs=>s.2) (1+a8) (λs=>0<=s.2/\s.2<=1+a8/\(s.1.length:Int)=s.2/\∀ r∈s.1,mj 0 r) ⟨Int.le_refl 0,by show 0<=1+a8; omega,rfl,λd aS=>absurd aS (by simp)⟩ (by show 1+a8 - 0<_; omega) λs aB=>?_;obtain ⟨l,i⟩:=s;obtain ⟨g0,g1,ak,cn⟩:=aB;simp only at g0 g1 ak cn ⊢;have hw:aJ (i+1)=i+1:=by rw [cB]; omega
  rw [hw];refine Tot.bp (λaT=>?_) (λ_=>.ao ⟨by omega,cn⟩);refine .aA (t26 i) λb6 rX=>.aA (Ξ:=λ_=>True) (Tot.ap (by simp [lim]; omega) trivial) λ_ _=>.ao ⟨⟨?_,?_,?_,λr aq=>?_⟩,?_,?_⟩
  ·grind
  ·grind
  ·grind
  ·rcases List.mem_append.1 aq with aq | aq
   ·grind
   ·rw [List.mem_singleton.1 aq];exact ⟨by show b6.size<=_; rw [rX]; decide,Nat.le_refl 0,λa aP=>absurd aP (by simp)⟩
  ·grind
  grind
 refine Tot.aA (Ξ:=λr=>(r.1.length:Int)=1+a8/\(r.2.length:Int)=1+a8/\∀ y∈r.1,mj 9 y) ?_ λcr zi=>?_
 ·refine Tot.count (λs=>s.2.2) 9 (λs=>0<=s.2.2/\s.2.2<=9/\(s.1.length:Int)=1+a8/\(s.2.1.length:Int)=1+a8/\∀ y∈s.1,mj s.2.2.toNat y) ⟨Int.le_refl 0,by show (0:Int)<=9; decide,cF.1,by show (a7.length:Int)=_; omega,cF.2⟩ (by show (9:Int) - 0<_; decide) λs aB=>?_;obtain ⟨l,av,i⟩:=s;obtain ⟨g0,g1,ak,Ix,cn⟩:=aB;simp only at g0 g1 ak Ix cn ⊢;have hw:aJ (i+1)=i+1:=by rw [cB]; omega
  rw [hw];refine .aA (Ξ:=λc=>c=true->i<x.dG.length/\i<9) (Tot.bp (λh=>.ao λaf=>⟨h,of_decide_eq_true af⟩) (λ_=>.ao λh=>by cases h)) λc aa=>Tot.bE (λiq=>?_) (λ_=>.ao ⟨ak,Ix,λy ax=>(cn y ax).mono (by omega)⟩);obtain ⟨hi,acv⟩:=aa iq;have m_:i.toNat<x.dG.length:=by omega
  have ub:idx x.dG i=some x.dG[i.toNat]:=by simp [idx,g0,m_]
  rw [ub];generalize x.dG[i.toNat]=d;have Ni:∀ y∈l,mj (i.toNat+1) y:=λy ax=>(cn y ax).mono (by omega);refine Tot.aA (Ξ:=λj=>(j.1.length:Int)=1+a8/\(j.2.length:Int)=1+a8/\∀ y∈j.1,mj (i.toNat+1) y) ?_ λj ah=>.ao ⟨⟨?_,?_,ah.1,ah.2.1,?_⟩,?_,?_⟩
  ·refine Tot.aV (Tot.bp (λ_=>.ao ⟨ak,Ix,Ni⟩) (λdq=>Tot.aV ?_));refine .aA (Tot.hp (Φ:=λ_=>True) (by decide) (by omega) λ_ _ _=>trivial) λdK _=>.aA (t24 dK (1+a8) (by omega) (by omega)) λeL M1=>?_;have n5:∀ c:ByteArray,c.size<=dL->((⟨(⟨⟨#[]⟩,false,0,0⟩:Sym),c,0⟩:Part).Sym.Name.size<=dL/\(⟨(⟨⟨#[]⟩,false,0,0⟩:Sym),c,0⟩:Part).Code.size<=dL):=λc aa=>⟨by show 0<=_; exact Nat.zero_le _,aa⟩;refine Tot.aA (Ξ:=λr=>r.1.length<=10/\∀ p∈r.1,p.Sym.Name.size<=dL/\p.Code.size<=dL) ?_ λd_ TQ=>?_
   ·refine Tot.count (λs=>s.2.2) 5 (λs=>1<=s.2.2/\s.2.2<=5/\(s.1.length:Int)<=2 * (s.2.2 - 1)/\∀ p∈s.1,p.Sym.Name.size<=dL/\p.Code.size<=dL) ⟨Int.le_refl 1,by decide,by decide,λp au=>absurd au (by simp)⟩ (by decide) λs aB=>?_;obtain ⟨ps,pl,k⟩:=s;obtain ⟨k0,xF,Xb,OK⟩:=aB;simp only at k0 xF Xb OK ⊢;have qq:aJ (k+1)=k+1:=by rw [cB]; omega
    rw [qq];refine .aA (Ξ:=λc=>c=true->k<d.length/\k<5) (Tot.aV (Tot.bp (λh=>.ao λaf=>⟨h,of_decide_eq_true af⟩) (λ_=>.ao λh=>by cases h))) λc aa=>Tot.bE (λiq=>?_) (λ_=>.ao ⟨by show ps.length<=10; omega,OK⟩);obtain ⟨hk,acB⟩:=aa iq;refine Tot.aA (Ξ:=λj=>(j.1.length:Int)<=2 * k/\∀ p∈j.1,p.Sym.Name.size<=dL/\p.Code.size<=dL) ?_ λj ah=>.ao ⟨⟨?_,?_,?_,ah.2⟩,?_,?_⟩
    ·refine Tot.aV (.aA (Tot.hp (Φ:=λ_=>True) (by omega) hk λ_ _ _=>trivial) λj2 _=>.aA (t27 j2 (1+a8) (by omega) (by omega)) λcR HQ=>?_);refine .aA (Ξ:=λ_=>True) (Tot.bE (λ_=>Tot.bE (λ_=>.ao trivial) (λ_=>.ao trivial)) (λ_=>.ao trivial)) λ_ _=>.aA (Ξ:=λ_=>True) (Tot.ap (by simp [lim]; omega) trivial) λ_ _=>?_;have bg:∀ p∈ps++[(⟨cR,⟨#[]⟩,0⟩:Part)],p.Sym.Name.size<=dL/\p.Code.size<=dL:=λp au=>by
      grind
     refine .aA (Ξ:=λ_=>True) ?_ λsD _=>?_
     ·refine Tot.bp (λh=>Tot.bE (λ_=>.aA (Tot.hp (Φ:=λ_=>True) g0 h λ_ _ _=>trivial) λ_ _=>.aA (Ξ:=λ_=>True) (Tot.rem (by decide) trivial) λ_ _=>.ao trivial) (λ_=>.ao trivial)) (λ_=>.ao trivial)
     ·refine Tot.aA (Ξ:=λl=>(l.length:Int)<=2 * k/\∀ p∈l,p.Sym.Name.size<=dL/\p.Code.size<=dL) ?_ λj ah=>.ao ah;refine Tot.bE (λ_=>?_) (λ_=>.ao ⟨by simp; omega,bg⟩);refine .aA (Ξ:=λ_=>True) (Tot.ap (by simp [lim]; omega) trivial) λ_ _=>.ao ⟨by simp; omega,λp au=>?_⟩;rcases List.mem_append.1 au with au | au
      ·grind
      ·rw [List.mem_singleton.1 au];exact n5 _ (by decide)
    all_goals grind
   ·refine .aA (Ξ:=λ_=>True) (Tot.bp (λh=>.aA (Tot.hp (Φ:=λ_=>True) g0 h λ_ _ _=>trivial) λ_ _=>.aA (Ξ:=λ_=>True) (Tot.rem (by decide) trivial) λ_ _=>.ao trivial) (λ_=>.ao trivial)) λZU _=>?_;refine Tot.aA (Ξ:=λl=>l.length<=20/\∀ p∈l,p.Sym.Name.size<=dL/\p.Code.size<=dL) ?_ λoU TX=>?_
    ·refine Tot.bE (λ_=>?_) (λ_=>.ao ⟨by omega,TQ.2⟩);refine .aA (Ξ:=λ_=>True) (Tot.ap (by simp [lim]; omega) trivial) λ_ _=>.ao ⟨by simp; omega,λp au=>?_⟩;rcases List.mem_append.1 au with au | au
     ·grind
     ·rw [List.mem_singleton.1 au];exact n5 _ (by decide)
    ·refine Tot.aA (Ξ:=λl=>(l.length:Int)=1+a8) ?_ λMc TZ=>?_
     ·refine .aA (Tot.hp (Φ:=λ_=>True) M1.1 (by omega) λ_ _ _=>trivial) λ_ _=>Tot.bE (λ_=>.ao (by simp; omega)) (λ_=>.ao (by simp; omega))
     ·refine .aA (Tot.hp (Φ:=λy=>y∈l) M1.1 (by omega) λ_ _ h=>h) λkF T0=>?_;have pI:=cn kF T0;refine .aA (Ξ:=λ_=>True) (Tot.ap (by have:=pI.n; simp [lim]; omega) trivial) λ_ _=>.ao ⟨by show ((l.set _ _).length:Int)=_; simp; omega,TZ,LH Ni (pI.add ⟨by show oU.length<=_; omega,TX.2,Nat.zero_le _⟩)⟩
  all_goals grind
 refine Tot.aA (Ξ:=λl=>(l.length:Int)=1+a8/\∀ y∈l,mj 20 y) ?_ λnY M3=>.ao ⟨Nat.zero_le _,?_,λd aS=>?_,?_,λr aq=>?_⟩
 ·refine Tot.count (λs=>s.2) (1+a8) (λs=>0<=s.2/\s.2<=1+a8/\(s.1.length:Int)=1+a8/\∀ y∈s.1,mj (9+s.2.toNat) y) ⟨Int.le_refl 0,by show 0<=1+a8; omega,zi.1,zi.2.2⟩ (by show 1+a8 - 0<_; omega) λs aB=>?_;obtain ⟨l,i⟩:=s;obtain ⟨g0,g1,ak,cn⟩:=aB;simp only at g0 g1 ak cn ⊢;have hw:aJ (i+1)=i+1:=by rw [cB]; omega
  rw [hw];refine Tot.bp (λaT=>?_) (λ_=>.ao ⟨ak,λy ax=>(cn y ax).mono (by omega)⟩);refine Tot.aA (Ξ:=λl=>(l.length:Int)=1+a8/\∀ y∈l,mj (9+i.toNat+1) y) ?_ λj ah=>.ao ⟨⟨?_,?_,ah.1,?_⟩,?_,?_⟩
  ·refine .aA (Ξ:=λ_=>True) ?_ λZV _=>?_
   ·refine .aA (Tot.hp (Φ:=λ_=>True) g0 (by omega) λ_ _ _=>trivial) λwu _=>Tot.bE (λ_=>.ao trivial) (λ_=>.aA (Tot.hp (Φ:=λ_=>True) g0 (by omega) λ_ _ _=>trivial) λ_ _=>Tot.bE (λ_=>.ao trivial) (λ_=>.ao trivial))
   ·refine Tot.aA (Ξ:=λl=>(l.length:Int)=1+a8/\∀ y∈l,mj (9+i.toNat+1) y) ?_ λj ah=>.ao ah;refine Tot.bE (λ_=>?_) (λ_=>.ao ⟨ak,λy ax=>(cn y ax).mono (by omega)⟩);refine .aA (Tot.hp (Φ:=λy=>y∈l) g0 (by omega) λ_ _ h=>h) λkG Ep=>.aA (t28 i g0) λkH ab2=>?_;have J:=cn kG Ep;refine .aA (Ξ:=λ_=>True) (Tot.ap (by have:=J.n; simp [lim]; omega) trivial) λ_ _=>.ao ⟨by simp; omega,LH (λy ax=>(cn y ax).mono (by omega)) (J.add ⟨by show 1<=_; omega,λp au=>?_,Nat.zero_le _⟩)⟩;have au:p∈[(⟨kH,⟨#[]⟩,0⟩:Part)]:=au;rw [List.mem_singleton.1 au];exact ⟨by show kH.Name.size<=1000000000000; omega,Nat.zero_le _⟩
  all_goals grind
 ·grind
 ·have:=af.2 d aS;exact ⟨by rw [this.tag]; exact Nat.zero_le _,by have:=this.n; omega,this.syms⟩
 ·grind
 ·have:=M3.2 r aq;exact ⟨this.left,by have:=this.n; omega,this.alts⟩
end Go.Proofs
namespace Go.Own
open Go Go.Sort
variable {α:Type} [DecidableEq α]
structure Ord (lt:α->α->Bool):Prop where
 swo:SWO lt
 jk:∀ x y,lt x y=false->lt y x=false->x=y
def fR (lt:α->α->Bool) (l:List α):Prop:=l.Pairwise λa b=>lt a b=true
omit [DecidableEq α] in
theorem fR.nd {lt:α->α->Bool}(h:Ord lt) {l:List α}(ak:fR lt l):l.Nodup:=ak.imp λ{a b} BA e=>by
 subst e;rw [h.swo.irrefl] at BA; cases BA
omit [DecidableEq α] in
theorem fR.uniq {lt:α->α->Bool}(h:Ord lt) {l m:List α}(ak:fR lt l) (hm:fR lt m) (he:∀ x,x∈l↔x∈m):l=m :=
 List.Perm.eq_of_pairwise (le:=λa b=>lt a b=true) (λa b _ _ h1 af=>by have:=h.swo.trans _ _ _ h1 af; rw [h.swo.irrefl] at this; cases this) ak hm ((List.perm_ext_iff_of_nodup (ak.nd h) (hm.nd h)).2 he)
omit [DecidableEq α] in
theorem zQ {l m:List α}(aS:l.Nodup) (hm:∀ x∈l,x∈m):l.length<=m.length:=by
 classical
 induction l generalizing m with
 | nil=>exact Nat.zero_le _
 | cons x l aU =>
  have J:=hm x (by simp);have n_:=List.nodup_cons.1 aS;have:=aU (m:=m.erase x) n_.2 λy ax=>(List.mem_erase_of_ne (λe=>n_.1 (by rw [<- e]; exact ax))).2 (hm y (by simp [ax]));have ak:=List.length_erase_of_mem J;have au:=List.length_pos_of_mem J;simp only [List.length_cons];omega
theorem YY {lt:α->α->Bool}(h:Ord lt) {fT:α->α->Option Int}{l:List α}(aa:∀ a∈l,∀ b∈l,∃ v,fT a b=some v/\(v<0↔lt a b=true)) (aF:l.length<4611686018427387904):pW fT l=some (ic (kA fT) l)/\∀ a∈l,∀ b∈l,kA fT a b=lt a b:=by
 have aT:∀ a∈l,∀ b∈l,kA fT a b=lt a b:=by
  intro a aP b av;obtain ⟨v,hv,h⟩:=aa a aP b av;unfold kA;simp only [hv,Option.getD_some];cases hk:lt a b with
  | true=>exact decide_eq_true (h.2 hk)
  | false=>exact decide_eq_false λbY=>by rw [h.1 bY] at hk; cases hk
 refine ⟨?_,aT⟩;unfold pW;rw [if_pos];simp only [Bool.and_eq_true,decide_eq_true_eq,List.all_eq_true];refine ⟨⟨λa aP b av=>?_,?_⟩,aF⟩
 ·obtain ⟨v,hv,_⟩:=aa a aP b av;rw [hv]; rfl
 ·unfold zW;simp only [List.all_eq_true,Bool.and_eq_true,Bool.or_eq_true,Bool.not_eq_true',decide_eq_true_eq];intro a aP;refine ⟨by rw [aT a aP a aP]; exact h.swo.irrefl a,λb av=>⟨?_,λc aa=>⟨?_,?_⟩⟩⟩
  ·rw [aT a aP b av,aT b av a aP];cases h1:lt a b with
   | true=>exact .inl (.inl rfl)
   | false =>
    cases af:lt b a with
    | true=>exact .inl (.inr rfl)
    | false=>exact .inr (h.jk _ _ h1 af)
  ·rw [aT a aP b av,aT b av c aa,aT a aP c aa];cases h1:lt a b with
   | false=>exact .inl rfl
   | true =>
    cases af:lt b c with
    | false=>exact .inl rfl
    | true=>exact .inr (h.swo.trans _ _ _ h1 af)
  ·rw [aT a aP b av,aT b av c aa,aT a aP c aa];cases h1:lt a b with
   | true=>exact .inl (.inl rfl)
   | false =>
    cases af:lt b c with
    | true=>exact .inl (.inr rfl)
    | false=>exact .inr (h.swo.ntrans _ _ _ h1 af)
omit [DecidableEq α] in
theorem Cf {lt lt':α->α->Bool}(x:α):∀ l:List α,(∀ y∈l,lt y x=lt' y x)->ins lt x l=ins lt' x l
 | [],_=>rfl
 | y::l,h=>by
  simp only [ins,h y (by simp)];rw [Cf x l λz aX=>h z (by simp [aX])]
omit [DecidableEq α] in
theorem Ch {lt lt':α->α->Bool}:∀ l:List α,(∀ a∈l,∀ b∈l,lt a b=lt' a b)->ic lt l=ic lt' l
 | [],_=>rfl
 | x::l,h=>by
  simp only [ic];rw [Ch l λa aP b av=>h a (by simp [aP]) b (by simp [av])];exact Cf x _ λy ax=>h y (by simp [(sZ lt' l).mem_iff.1 ax]) x (by simp)
theorem YX {lt:α->α->Bool}(h:Ord lt) {fT:α->α->Option Int}{l:List α}(aa:∀ a∈l,∀ b∈l,∃ v,fT a b=some v/\(v<0↔lt a b=true)) (aF:l.length<4611686018427387904):pW fT l=some (ic lt l):=by
 obtain ⟨h1,af⟩:=YY h aa aF;rw [h1,Ch l af]
end Go.Own
namespace Go.Proofs
open Go Go.Own Go.Sort
set_option maxRecDepth 100000
set_option linter.unusedVariables false
def gZ (a b:Item):Bool:=decide (a.Prod<b.Prod\/(a.Prod=b.Prod/\a.e'<b.e'))
theorem JR {a b:Item}:gZ a b=true↔(a.Prod<b.Prod\/(a.Prod=b.Prod/\a.e'<b.e')):=by simp [gZ]
theorem Cv {a b:Item}:gZ a b=false↔¬ (a.Prod<b.Prod\/(a.Prod=b.Prod/\a.e'<b.e')):=by simp [gZ]
theorem vN:Ord gZ where
 swo:=⟨λx=>by rw [Cv]; omega,λx y z h1 af=>by rw [JR] at *; omega,λx y z h1 af=>by rw [Cv] at *; omega⟩
 jk x y h1 af:=by
  rw [Cv] at h1 af;obtain ⟨a8,x2⟩:=x;obtain ⟨bx,y2⟩:=y;simp only at h1 af;have:a8=bx:=by omega
  have:x2=y2:=by omega
  subst_vars; rfl
def jg (g:bN) (x:Item):Prop:=∃ q,idx g.bh x.Prod=some q/\0<=x.e'/\x.e'<=q.eu.length
def hV (g:bN) (x:Item):Int:=match idx g.bh x.Prod with
 | some q=>(idx q.eu x.e').getD (-1)
 | none=>-1
theorem ng {α:Type}{l:List α}{i:Int}{y:α}(h:idx l i=some y):0<=i/\i<l.length/\y∈l:=by
 unfold idx at h
 split at h
 ·rename_i aQ;obtain ⟨h1,af⟩:=List.getElem?_eq_some_iff.1 h;exact ⟨aQ,by omega,List.mem_of_getElem? h⟩
 ·cases h
theorem Jt {α:Type}{l:List α}{i:Int}(h:i<0\/(l.length:Int)<=i):idx l i=none:=by
 unfold idx;split
 ·exact List.getElem?_eq_none (by omega)
 ·rfl
theorem oh {α:Type}{l:List α}{i:Int}(aQ:0<=i) (h1:i<l.length):∃ y,idx l i=some y/\y∈l:=by
 have aT:i.toNat<l.length:=by omega
 exact ⟨l[i.toNat],by simp [idx,aQ,aT],List.getElem_mem aT⟩
theorem dV {α:Type}{l:List α}{k:Nat}(h:k<l.length):idx l (k:Int)=some l[k]:=by simp [idx,h]
theorem Mt (g:bN) (x:Item):∃ c,zZ g x=some c/\(c=true↔jg g x):=by
 unfold zZ;by_cases aQ:0<=x.Prod
 ·by_cases h1:x.Prod<g.bh.length
  ·obtain ⟨q,bg,_⟩:=oh aQ h1;by_cases af:0<=x.e'
   ·refine ⟨decide (x.e'<=(q.eu.length:Int)),by simp [aQ,h1,af,bg],?_⟩;rw [decide_eq_true_eq];exact ⟨λh=>⟨q,bg,af,h⟩,λ⟨fQ,zx,_,h⟩=>by rw [bg] at zx; cases zx; exact h⟩
   ·exact ⟨false,by simp [aQ,h1,af],λh=>(by cases h),λ⟨_,_,h,_⟩=>absurd h af⟩
  ·exact ⟨false,by simp [aQ,h1],λh=>(by cases h),λ⟨_,h,_⟩=>absurd (ng h).2.1 h1⟩
 ·exact ⟨false,by simp [aQ],λh=>(by cases h),λ⟨_,h,_⟩=>absurd (ng h).1 aQ⟩
theorem Hu (g:bN) (x:Item):yb g x=some (hV g x):=by
 unfold yb hV;obtain ⟨c,aa,hi⟩:=Mt g x;rw [aa];simp only [Option.bind_some];cases c with
 | false =>
  have aF:¬ jg g x:=λh=>by have:=hi.2 h; cases this
  simp only [Bool.not_false,cond_true,Option.bind_some];cases bg:idx g.bh x.Prod with
  | none=>rfl
  | some q =>
   have:idx q.eu x.e'=none:=Jt (by
    by_cases aQ:0<=x.e'
    ·right;by_cases h1:x.e'<=q.eu.length
     ·exact absurd ⟨q,bg,aQ,h1⟩ aF
     ·omega
    ·left; omega)
   simp [this]
 | true =>
  obtain ⟨q,bg,aQ,h1⟩:=hi.1 rfl;simp only [Bool.not_true,cond_false,bg,Option.bind_some];by_cases he:x.e'=q.eu.length
  ·rw [Jt (.inr (by omega))];simp [he]
  ·obtain ⟨s,aB,_⟩:=oh (l:=q.eu) (i:=x.e') aQ (by omega);simp [he,aB]
theorem O_ {g:bN}(aO:gz g) {x:Item}(h:0<=hV g x):jg g x/\qY g.ba.length (g.b2.length - 1) (hV g x)/\∃ q,idx g.bh x.Prod=some q/\idx q.eu x.e'=some (hV g x):=by
 cases bg:idx g.bh x.Prod with
 | none =>
  have:hV g x=-1:=by unfold hV; rw [bg]
  rw [this] at h; exact absurd h (by decide)
 | some q =>
  cases aB:idx q.eu x.e' with
  | none =>
   have:hV g x=-1:=by unfold hV; rw [bg]; simp [aB]
   rw [this] at h; exact absurd h (by decide)
  | some s =>
   have e:hV g x=s:=by unfold hV; rw [bg]; simp [aB]
   rw [e];obtain ⟨aQ,h1,hm⟩:=ng aB;exact ⟨⟨q,bg,aQ,by omega⟩,(aO.hx q (ng bg).2.2).right s hm,q,rfl,aB⟩
inductive n0 (g:bN) (l:List Item):Item->Prop
 | base {x:Item}(h:x∈l) (hi:jg g x):n0 g l x
 | step {x:Item}{q:Prod}{p:Nat}(h:n0 g l x) (au:g.bh[p]?=some q) (aF:hV g x=1000+q.Left) (aQ:1000<=hV g x):n0 g l ⟨p,0⟩
theorem OG {g:bN}{p:Nat}{q:Prod}(au:g.bh[p]?=some q):jg g ⟨p,0⟩:=⟨q,by simp [idx,au],Int.le_refl _,by show (0:Int)<=_; omega⟩
theorem n0.jg {g:bN}{l:List Item}{x:Item}(h:n0 g l x):jg g x:=by
 cases h with
 | base _ hi=>exact hi
 | step _ au _ _=>exact OG au
theorem Xs {g:bN}(aO:gz g) (x:Item):-1<=hV g x/\hV g x<=1023:=by
 by_cases h:0<=hV g x
 ·obtain ⟨_,aB,_⟩:=O_ aO h;have:=aO.dx;have:=aO.kE;rcases aB with aB | aB <;> omega
 ·refine ⟨?_,by omega⟩;revert h;unfold hV;cases bg:idx g.bh x.Prod with
  | none=>intro _; exact Int.le_refl _
  | some q =>
   cases aB:idx q.eu x.e' with
   | none=>intro _; simp [aB]
   | some s =>
    intro h;have hm:=(aO.hx q (ng bg).2.2).right s (ng aB).2.2;simp only [aB,Option.getD_some] at h ⊢;rcases hm with hm | hm <;> omega
def hr (m:List Bool):Nat:=(m.filter λb=>b).length
theorem wV:∀ (m:List Bool) (i:Nat),i<m.length->m.getD i false=false->hr (m.set i true)=hr m+1
 | [],i,h,_=>by simp at h
 | b::m,0,_,h=>by
  have:b=false:=by simpa using h
  subst this;simp [hr]
 | b::m,i+1,h,aQ=>by
  have:=wV m i (by simpa using h) (by simpa using aQ);unfold hr at this ⊢;simp only [List.set_cons_succ,List.filter_cons];cases b <;> simp [this]
theorem SA (m:List Bool):hr m<=m.length:=List.length_filter_le _ _
theorem k3 {α:Type}{r:List α}{k:Nat}(h:k<r.length):r.take (k+1)=r.take k++[r[k]]:=by
 simp_all
theorem Ge (k:Nat) (h:k<=1000000000000):aJ ((k:Int)+1)=((k+1:Nat):Int):=by
 grind [cB]
def allI (g:bN):List Item:=(List.range g.bh.length).flatMap λp=>(List.range 9).map λd=>(⟨(p:Nat),(d:Nat)⟩:Item)
theorem Rx (g:bN):(allI g).length=g.bh.length * 9:=by
 have:∀ l:List Nat,(l.map λ_=>9).sum=l.length * 9:=λl=>by
  induction l with
  | nil=>rfl
  | cons a l aU=>simp only [List.map_cons,List.sum_cons,aU,List.length_cons]; omega
 simp [allI,List.length_flatMap,this]
theorem Xg {g:bN}(aO:gz g) {x:Item}(h:jg g x):x∈allI g:=by
 obtain ⟨q,bg,aQ,h1⟩:=h;obtain ⟨af,aI,bF⟩:=ng bg;have:=aO.aG q bF;refine List.mem_flatMap.2 ⟨x.Prod.toNat,by simp; omega,List.mem_map.2 ⟨x.e'.toNat,by simp; omega,?_⟩⟩;obtain ⟨a,b⟩:=x;simp only at aQ af ⊢;congr 1 <;> omega
theorem tA {g:bN}(aO:gz g) {l:List Item}(ak:fR gZ l) (hi:∀ x∈l,jg g x):l.length<=540:=by
 have:=zQ (ak.nd vN) λx J=>Xg aO (hi x J);rw [Rx] at this;have:=aO.hX;omega
theorem RK {l:List Item}(ak:fR gZ l) {i j:Nat}(hi:i<l.length) (ah:j<l.length) (h:i<j):gZ l[i] l[j]=true:=List.pairwise_iff_getElem.1 ak i j hi ah h
theorem G9 (l:List Item) (x:Item) (ak:fR gZ l) (aF:l.length<=100000):Tot (xX l x) λr=>fR gZ r/\(∀ y,y∈r↔y∈l\/y=x):=by
 unfold xX;refine .aA (Ξ:=λz:Int=>∃ k:Nat,z=(k:Int)/\k<=l.length/\(∀ (i:Nat) (h:i<l.length),k<=i->gZ x l[i]=true)/\∀ (h:0<k),gZ x (l[k - 1]?.getD default)=false) ?_ λz aX=>?_
 ·refine Tot.count (λs=>-s) 1 (λs=>∃ k:Nat,s=(k:Int)/\k<=l.length/\∀ (i:Nat) (h:i<l.length),k<=i->gZ x l[i]=true) ⟨l.length,rfl,Nat.le_refl _,λi h hk=>by omega⟩ (by show 1 - -(l.length:Int)<_; omega) λs aB=>?_;obtain ⟨k,rfl,hk,ui⟩:=aB;refine .aA (Ξ:=λc:Bool=>(c=true->0<k/\gZ x (l[k - 1]?.getD default)=true)/\(c=false->∀ (h:0<k),gZ x (l[k - 1]?.getD default)=false)) ?_ λc aa=>Tot.bE (λh=>?_) (λh=>.ao ⟨k,rfl,hk,ui,aa.2 h⟩)
  ·refine Tot.bp (λh=>?_) (λh=>.ao ⟨λaR=>(by cases aR),λ_ aR=>by omega⟩);have hg:k - 1<l.length:=by omega
   have hw:aJ ((k:Int) - 1)=((k - 1:Nat):Int):=by rw [cB]; omega
   rw [hw,dV hg,List.getElem?_eq_getElem hg];simp only [Option.bind_some,Option.getD_some];generalize l[k - 1]=y;refine Tot.bp (λh1=>.ao ⟨λ_=>⟨by omega,JR.2 (.inl h1)⟩,λaR=>(by cases aR)⟩) (λh1=>Tot.bp (λaf=>.ao ⟨λaI=>⟨by omega,JR.2 (.inr ⟨af.symm,of_decide_eq_true aI⟩)⟩,λaI _=>?_⟩) (λaf=>.ao ⟨λaR=>(by cases aR),λ_ _=>?_⟩))
   ·have:=of_decide_eq_false aI;rw [Cv]; omega
   ·rw [Cv]; omega
  ·obtain ⟨aQ,h1⟩:=aa.1 h;refine .ao ⟨⟨k - 1,by rw [cB]; omega,by omega,λi hi VD=>?_⟩,by show -(k:Int) < -aJ _; rw [cB]; omega,by show -aJ _<=1; rw [cB]; omega⟩;by_cases e:i=k - 1
   ·subst e;rw [List.getElem?_eq_getElem hi] at h1;exact h1
   ·exact ui i hi (by omega)
 ·obtain ⟨k,rfl,hk,ui,l5⟩:=aX;refine .aA (Ξ:=λc:Bool=>(c=true↔(0<k/\l[k - 1]?.getD default=x))) ?_ λc aa=>Tot.bE (λh=>?_) (λh=>?_)
  ·refine Tot.bp (λh=>?_) (λh=>.ao ⟨λaR=>(by cases aR),λaR=>by omega⟩);have hg:k - 1<l.length:=by omega
   have hw:aJ ((k:Int) - 1)=((k - 1:Nat):Int):=by rw [cB]; omega
   rw [hw,dV hg,List.getElem?_eq_getElem hg];simp only [Option.bind_some,Option.getD_some];generalize l[k - 1]=y;refine .ao ?_;obtain ⟨bx,y2⟩:=y;obtain ⟨a8,x2⟩:=x;simp only [Bool.and_true,Bool.and_eq_true,decide_eq_true_eq,Item.mk.injEq];exact ⟨λaR=>⟨by omega,aR⟩,λaR=>aR.2⟩
  ·obtain ⟨aQ,h1⟩:=aa.1 h;have hg:k - 1<l.length:=by omega
   rw [List.getElem?_eq_getElem hg] at h1;have J:x∈l:=by rw [<- h1]; exact List.getElem_mem hg
   exact .ao ⟨ak,λy=>⟨.inl,λh=>h.elim id λe=>e ▸ J⟩⟩
  ·have dq:∀ (i:Nat) (hi:i<l.length),i<k->gZ l[i] x=true:=by
    intro i hi IA;have hg:k - 1<l.length:=by omega
    have l5:=l5 (by omega);have aF:l[k - 1]?.getD default≠x:=λe=>by rw [aa.2 ⟨by omega,e⟩] at h; cases h
    rw [List.getElem?_eq_getElem hg] at l5 aF;simp only [Option.getD_some] at l5 aF;have fW:gZ l[k - 1] x=true:=by
     cases bY:gZ l[k - 1] x with
     | true=>rfl
     | false=>exact absurd (vN.jk _ _ bY l5) aF
    by_cases e:i=k - 1
    ·subst e; exact fW
    ·exact vN.swo.trans _ _ _ (RK ak hi hg (by omega)) fW
   refine .aA (Ξ:=λz=>z=l.take k) (Tot.sub ⟨by omega,by omega,by omega⟩ (by simp)) λz aX=>?_;subst aX;refine .aA (Ξ:=λ_=>True) (Tot.ap (by simp [lim]; omega) trivial) λ_ _=>.aA (Ξ:=λ_=>True) (Tot.ap (by simp [lim]; omega) trivial) λ_ _=>?_;refine .aA (Ξ:=λz=>z=l.drop k) (Tot.sub ⟨by omega,by omega,by omega⟩ ?_) λz aX=>?_
   ·rw [List.take_of_length_le]
    ·congr 1
    ·rw [List.length_drop]; omega
   subst aX;refine .aA (Ξ:=λ_=>True) (Tot.ap (by simp [lim]; omega) trivial) λ_ _=>.ao ?_;rw [List.nil_append];constructor
   ·have h1:∀ a∈l.take k,gZ a x=true:=by
     intro a aP;obtain ⟨i,hi,rfl⟩:=List.mem_iff_getElem.1 aP;rw [List.length_take] at hi;rw [List.getElem_take];exact dq i (by omega) (by omega)
    have af:∀ a∈l.drop k,gZ x a=true:=by
     intro a aP;obtain ⟨i,hi,rfl⟩:=List.mem_iff_getElem.1 aP;rw [List.length_drop] at hi;rw [List.getElem_drop];exact ui (k+i) (by omega) (by omega)
    unfold fR;rw [List.append_assoc,List.pairwise_append];refine ⟨List.Pairwise.sublist (List.take_sublist k l) ak,?_,λa aP b av=>?_⟩
    ·rw [List.singleton_append,List.pairwise_cons];exact ⟨af,List.Pairwise.sublist (List.drop_sublist k l) ak⟩
    ·rcases List.mem_append.1 av with av | av
     ·rw [List.mem_singleton.1 av]; exact h1 a aP
     ·exact vN.swo.trans _ _ _ (h1 a aP) (af b av)
   ·intro y;rw [List.append_assoc,List.mem_append,List.mem_append,List.mem_singleton];have hm:y∈l↔y∈l.take k\/y∈l.drop k:=by
     rw [<- List.mem_append,List.take_append_drop]
    rw [hm];constructor
    ·rintro (h | h | h)
     ·exact .inl (.inl h)
     ·exact .inr h
     ·exact .inl (.inr h)
    ·rintro ((h | h) | h)
     ·exact .inl h
     ·exact .inr (.inr h)
     ·exact .inr (.inl h)
theorem R4 (g:bN) (aO:gz g) (l:List Item) (ak:l.length<=1000000):Tot (CK g l) λr=>fR gZ r/\∀ x,x∈r↔x∈l/\jg g x:=by
 unfold CK;refine .aA (Ξ:=λr=>fR gZ r/\∀ x,x∈r↔x∈l/\jg g x) ?_ λr aq=>.ao aq;refine Tot.count (λs=>s.2) l.length (λs=>∃ k:Nat,k<=l.length/\s.2=(k:Int)/\fR gZ s.1/\∀ x,x∈s.1↔x∈l.take k/\jg g x) ⟨0,Nat.zero_le _,rfl,List.Pairwise.nil,λx=>by simp⟩ (by show (l.length:Int) - 0<_; omega) λs aB=>?_;obtain ⟨out,kX⟩:=s;obtain ⟨k,hk,rfl,aP,hm⟩:=aB;simp only at aP hm ⊢;rw [Ge k (by omega)];refine Tot.bp (λaT=>?_) (λdS=>.ao ?_)
 ·have aT:k<l.length:=by omega
  rw [dV aT];refine .aA (Ξ:=λo:List Item=>fR gZ o/\∀ x,x∈o↔x∈l.take (k+1)/\jg g x) ?_ λo a1=>.ao ⟨⟨k+1,by omega,rfl,a1⟩,by show (k:Int)<((k+1:Nat):Int); omega,by show ((k+1:Nat):Int)<=_; omega⟩;obtain ⟨c,aa,hi⟩:=Mt g l[k];rw [k3 aT];refine Tot.aV ?_;rw [aa];refine Tot.aV (.aA (Ξ:=λo:List Item=>fR gZ o/\∀ x,x∈o↔x∈l.take k++[l[k]]/\jg g x) (Tot.bE (λh=>?_) (λh=>.ao ⟨aP,λx=>?_⟩)) λo a1=>.ao a1)
  ·have zw:=tA aO aP λx J=>((hm x).1 J).2;refine Tot.aV (.aA (G9 out _ aP (by omega)) λo a1=>.ao ⟨a1.1,λx=>?_⟩);rw [a1.2 x,List.mem_append,List.mem_singleton,hm x];constructor
   ·rintro (⟨h1,af⟩ | rfl)
    ·exact ⟨.inl h1,af⟩
    ·exact ⟨.inr rfl,hi.1 h⟩
   ·rintro ⟨h1 | rfl,af⟩
    ·exact .inl ⟨h1,af⟩
    ·exact .inr rfl
  ·rw [List.mem_append,List.mem_singleton,hm x];constructor
   ·rintro ⟨h1,af⟩;exact ⟨.inl h1,af⟩
   ·rintro ⟨h1 | rfl,af⟩
    ·exact ⟨h1,af⟩
    ·rw [hi.2 af] at h; cases h
 ·have:k=l.length:=by omega
  subst this;rw [List.take_length] at hm;exact ⟨aP,hm⟩
def wz (g:bN) (out:List Item) (x:Item):Prop:=1000<=hV g x->∀ (p:Nat) (q:Prod),g.bh[p]?=some q->q.Left=hV g x - 1000->(⟨p,0⟩:Item)∈out
theorem Hj (g:bN) (aO:gz g) (l:List Item) (ak:l.length<=1000000):Tot (x_ g l) λr=>fR gZ r/\∀ x,x∈r↔n0 g l x:=by
 have sR:=aO.hX;unfold x_;refine .aA (R4 g aO l ak) λa8 h1=>.aA (Ξ:=λr=>fR gZ r/\∀ x,x∈r↔n0 g l x) ?_ λr aq=>.ao aq;obtain ⟨UJ,zv⟩:=h1;refine Tot.loop (λs=>fR gZ s.1/\(∀ x∈s.1,n0 g l x)/\(∀ x∈l,jg g x->x∈s.1)/\(s.2=(s.1.length:Int)->∀ x∈s.1,wz g s.1 x)) (λs=>2 * (1000 - s.1.length)+(if s.2=(s.1.length:Int) then 0 else 1)) ⟨UJ,λx J=>.base ((zv x).1 J).1 ((zv x).1 J).2,λx J hi=>(zv x).2 ⟨J,hi⟩,λh=>by have h:(-1:Int)=_:=h; omega⟩ (by
  show 2 * (1000 - a8.length)+(if (-1:Int)=_ then 0 else 1)<1000000000000000000
  split <;> omega) λs aB=>?_
 obtain ⟨out,n⟩:=s;obtain ⟨aP,gF,vh,hf⟩:=aB;simp only at aP gF vh hf ⊢;have zw:=tA aO aP λx J=>(gF x J).jg;refine Tot.oL (λdq=>?_) (λhe=>.ao ⟨aP,λx=>⟨gF x,λJ=>?_⟩⟩)
 ·refine .aA (Ξ:=λj:List Item × Int=>j.2=(out.length:Int)/\fR gZ j.1/\(∀ x∈j.1,n0 g l x)/\(∀ x∈out,x∈j.1)/\(j.1.length=out.length->∀ x∈j.1,wz g j.1 x)) ?_ λj ah=>?_
  ·refine .aA (Ξ:=λr:List Item=>fR gZ r/\(∀ x∈r,n0 g l x)/\(∀ x∈out,x∈r)/\(r.length=out.length->∀ x∈r,wz g r x)) ?_ λr aq=>.ao ⟨rfl,aq⟩;refine .aA (Ξ:=λr:List Item=>fR gZ r/\(∀ x∈r,n0 g l x)/\(∀ x∈out,x∈r)/\(r.length=out.length->∀ x∈r,wz g r x)) ?_ λr aq=>.ao aq;refine Tot.count (λs=>s.2) out.length (λs=>∃ k:Nat,k<=out.length/\s.2=(k:Int)/\s.1=out/\∀ (j:Nat) (h:j<out.length),j<k->wz g out out[j]) ⟨0,Nat.zero_le _,rfl,rfl,λj _ ah=>absurd ah (Nat.not_lt_zero _)⟩ (by show (out.length:Int) - 0<_; omega) λs aB=>?_;obtain ⟨cur,kX⟩:=s;obtain ⟨k,hk,rfl,rfl,ND⟩:=aB;simp only;rw [Ge k (by omega)];refine Tot.bp (λaT=>?_) (λdS=>.ao ⟨aP,gF,λ_ h=>h,λ_ x J=>?_⟩)
   ·have aT:k<cur.length:=by omega
    rw [dV aT];have zH:=gF _ (List.getElem_mem aT);have EU:∀ P:Item->Prop,P cur[k]->∀ (j:Nat) (h:j<cur.length),j=k->P cur[j]:=λP cn j h e=>by subst e; exact cn
    generalize J:cur[k]=x at *;have acL:=Xs aO x;have hw:aJ (hV g x - 1000)=hV g x - 1000:=by rw [cB]; omega
    simp only [Option.bind_some,Hu g x,hw];refine (.aA (Ξ:=λr:List Item=>fR gZ r/\(∀ x∈r,n0 g l x)/\(∀ x∈cur,x∈r)/\wz g r x) ?_ λr aq=>?_)
    ·refine Tot.count (λs=>s.2) g.bh.length (λs=>∃ i:Nat,i<=g.bh.length/\s.2=(i:Int)/\fR gZ s.1/\(∀ x∈s.1,n0 g l x)/\(∀ x∈cur,x∈s.1)/\∀ (p:Nat) (q:Prod),p<i->g.bh[p]?=some q->q.Left=hV g x - 1000->(⟨p,0⟩:Item)∈s.1) ⟨0,Nat.zero_le _,rfl,aP,gF,λ_ h=>h,λp q au=>absurd au (Nat.not_lt_zero _)⟩ (by show (g.bh.length:Int) - 0<_; omega) λs aB=>?_;obtain ⟨o,sg⟩:=s;obtain ⟨i,hi,rfl,r7,BU,EJ,vr⟩:=aB;simp only at r7 BU EJ vr ⊢;rw [Ge i (by omega)];refine .aA (Ξ:=λc:Bool=>(c=true->i<g.bh.length/\1000<=hV g x)/\(c=false->g.bh.length<=i\/hV g x<1000)) (Tot.bp (λh=>.ao ⟨λaR=>⟨by omega,of_decide_eq_true aR⟩,λaR=>.inr (by have:=of_decide_eq_false aR; omega)⟩) (λh=>.ao ⟨λaR=>(by cases aR),λ_=>.inl (by omega)⟩)) λc aa=>Tot.bE (λh=>?_) (λh=>.ao ⟨r7,BU,EJ,λaQ p q au=>?_⟩)
     ·obtain ⟨IK,aQ⟩:=aa.1 h;have N6:g.bh[i]?=some g.bh[i]:=List.getElem?_eq_getElem IK;rw [dV IK];refine .aA (Ξ:=λo:List Item=>fR gZ o/\(∀ x∈o,n0 g l x)/\(∀ x∈cur,x∈o)/\∀ (p:Nat) (q:Prod),p<i+1->g.bh[p]?=some q->q.Left=hV g x - 1000->(⟨p,0⟩:Item)∈o) ?_ λo a1=>.ao ⟨⟨i+1,by omega,rfl,a1⟩,by show (i:Int)<((i+1:Nat):Int); omega,by show ((i+1:Nat):Int)<=_; omega⟩;refine Tot.aV (.aA (Ξ:=λo:List Item=>fR gZ o/\(∀ x∈o,n0 g l x)/\(∀ x∈cur,x∈o)/\∀ (p:Nat) (q:Prod),p<i+1->g.bh[p]?=some q->q.Left=hV g x - 1000->(⟨p,0⟩:Item)∈o) (Tot.bp (λh=>?_) (λh=>.ao ⟨r7,BU,EJ,λp q au BZ bg=>?_⟩)) λo a1=>.ao a1)
      ·have NY:=tA aO r7 λx J=>(BU x J).jg;refine .aA (G9 o ⟨(i:Nat),0⟩ r7 (by omega)) λr aq=>.ao ⟨aq.1,λy ax=>?_,λy ax=>(aq.2 y).2 (.inl (EJ y ax)),λp q au BZ bg=>?_⟩
       ·rcases (aq.2 y).1 ax with ax | rfl
        ·exact BU y ax
        ·exact .step zH N6 (by omega) aQ
       ·by_cases cv:p=i
        ·subst cv; exact (aq.2 _).2 (.inr rfl)
        ·exact (aq.2 _).2 (.inl (vr p q (by omega) BZ bg))
      ·by_cases cv:p=i
       ·subst cv;rw [N6] at BZ; cases BZ;exact absurd bg h
       ·exact vr p q (by omega) BZ bg
     ·rcases aa.2 h with h1 | h1
      ·exact vr p q (by have:=(List.getElem?_eq_some_iff.1 au).1; omega) au
      ·omega
    ·obtain ⟨sT,VZ,l7,V5⟩:=aq;have hle:cur.length<=r.length:=zQ (aP.nd vN) l7;refine Tot.oL (λBP=>.ao ⟨sT,VZ,l7,λe=>absurd (by omega) BP⟩) (λheq=>?_);have l6:r.length=cur.length:=by omega
     have V6:r=cur:=by
      have nJ:∀ y,y∈cur↔y∈r:=by
       intro y;refine ⟨l7 y,λax=>Classical.byContradiction λaF=>?_⟩;have:=zQ (l:=y::cur) (m:=r) (List.nodup_cons.2 ⟨aF,aP.nd vN⟩) λz aX=>by
        rcases List.mem_cons.1 aX with rfl | aX
        ·exact ax
        ·exact l7 z aX
       simp at this;omega
      exact (fR.uniq vN aP sT nJ).symm
     subst V6;refine .ao ⟨⟨k+1,by omega,rfl,rfl,λj ah gX=>?_⟩,by show (k:Int)<((k+1:Nat):Int); omega,by show ((k+1:Nat):Int)<=_; omega⟩;by_cases cv:j=k
     ·exact EU (wz g r) V5 j ah cv
     ·exact ND j ah (by omega)
   ·obtain ⟨j,ah,rfl⟩:=List.mem_iff_getElem.1 J;exact ND j ah (by omega)
  ·obtain ⟨h1,af,aI,bF,cF⟩:=ah;have hle:out.length<=j.1.length:=zQ (aP.nd vN) bF;have eZ:=tA aO af λx J=>(aI x J).jg;refine .ao ⟨⟨af,aI,λx J hi=>bF x (vh x J hi),λe=>cF (by show j.1.length=_; have e:j.2=(j.1.length:Int):=e; omega)⟩,?_⟩;show 2 * (1000 - j.1.length)+(if j.2=(j.1.length:Int) then 0 else 1)<2 * (1000 - out.length)+(if n=(out.length:Int) then 0 else 1)
   rw [if_neg dq];split
   ·omega
   ·have:j.1.length≠out.length:=λe=>by omega
    omega
 ·have aa:=hf he
  induction J with
  | base h hi=>exact vh _ h hi
  | @step x q p h au aF aQ aU=>exact aa x aU aQ p q au (by omega)
def DV (g:bN) (l:List Item) (a:Int) (y:Item):Prop:=∃ x,n0 g l x/\hV g x=a/\0<=a/\y=⟨x.Prod,x.e'+1⟩
theorem OF {g:bN}(aO:gz g) {x:Item}(h:0<=hV g x):jg g ⟨x.Prod,x.e'+1⟩:=by
 obtain ⟨_,_,q,bg,aB⟩:=O_ aO h;obtain ⟨aQ,h1,_⟩:=ng aB;exact ⟨q,bg,by show 0<=x.e'+1; omega,by show x.e'+1<=_; omega⟩
theorem W9 {g:bN}(aO:gz g) {x:Item}(h:jg g x):0<=x.e'/\x.e'<=8:=by
 obtain ⟨q,bg,aQ,h1⟩:=h;have:=aO.aG q (ng bg).2.2;omega
theorem DV.jg {g:bN}(aO:gz g) {l:List Item}{a:Int}{y:Item}(h:DV g l a y):jg g y:=by
 obtain ⟨x,_,h1,af,rfl⟩:=h;exact OF aO (by omega)
theorem Sn (g:bN) (aO:gz g) (l:List Item) (a:Int) (ak:l.length<=1000000):Tot (C6 g l a) λr=>fR gZ r/\∀ y,y∈r↔DV g l a y:=by
 unfold C6;refine .aA (Hj g aO l ak) λc aa=>.aA (Ξ:=λr=>fR gZ r/\∀ y,y∈r↔DV g l a y) ?_ λr aq=>.ao aq;have hf:=tA aO aa.1 λx J=>((aa.2 x).1 J).jg;refine Tot.count (λs=>s.2) c.length (λs=>∃ k:Nat,k<=c.length/\s.2=(k:Int)/\fR gZ s.1/\∀ y,y∈s.1↔∃ x∈c.take k,hV g x=a/\0<=a/\y=⟨x.Prod,x.e'+1⟩) ⟨0,Nat.zero_le _,rfl,List.Pairwise.nil,λy=>by simp⟩ (by show (c.length:Int) - 0<_; omega) λs aB=>?_;obtain ⟨o,kX⟩:=s;obtain ⟨k,hk,rfl,r7,BV⟩:=aB;simp only at r7 BV ⊢;rw [Ge k (by omega)];refine Tot.bp (λaT=>?_) (λdS=>.ao ⟨r7,λy=>?_⟩)
 ·have aT:k<c.length:=by omega
  have WR:=((aa.2 _).1 (List.getElem_mem aT)).jg;have ga:c.take (k+1)=c.take k++[c[k]]:=k3 aT;rw [dV aT];generalize c[k]=x at *;have aS:=W9 aO WR;have hw:aJ (x.e'+1)=x.e'+1:=by rw [cB]; omega
  refine .aA (Ξ:=λo:List Item=>fR gZ o/\∀ y,y∈o↔∃ x∈c.take (k+1),hV g x=a/\0<=a/\y=⟨x.Prod,x.e'+1⟩) ?_ λo a1=>.ao ⟨⟨k+1,by omega,rfl,a1⟩,by show (k:Int)<((k+1:Nat):Int); omega,by show ((k+1:Nat):Int)<=_; omega⟩;have nJ:∀ y,(∃ z∈c.take (k+1),hV g z=a/\0<=a/\y=(⟨z.Prod,z.e'+1⟩:Item))↔(y∈o\/(hV g x=a/\0<=a/\y=⟨x.Prod,x.e'+1⟩)):=by
   intro y;rw [BV y,ga];constructor
   ·rintro ⟨z,aX,h⟩;rcases List.mem_append.1 aX with aX | aX
    ·exact .inl ⟨z,aX,h⟩
    ·rw [List.mem_singleton.1 aX] at h; exact .inr h
   ·rintro (⟨z,aX,h⟩ | h)
    ·exact ⟨z,by simp [aX],h⟩
    ·exact ⟨x,by simp,h⟩
  simp only [Option.bind_some,Hu g x,hw];refine (.aA (Ξ:=λb:Bool=>b=decide (0<=hV g x/\hV g x=a)) (Tot.bp (λh=>.ao (by simp [h])) (λh=>.ao (by simp [h]))) λb av=>?_);subst av;refine .aA (Ξ:=λo:List Item=>fR gZ o/\∀ y,y∈o↔∃ x∈c.take (k+1),hV g x=a/\0<=a/\y=⟨x.Prod,x.e'+1⟩) (Tot.bp (λh=>?_) (λh=>.ao ⟨r7,λy=>?_⟩)) λo a1=>.ao a1
  ·have zw:=tA aO r7 λy ax=>by
    obtain ⟨z,_,h1,af,rfl⟩:=(BV y).1 ax;exact OF aO (by omega)
   refine (.aA (G9 o _ r7 (by omega)) λr aq=>.ao ⟨aq.1,λy=>?_⟩);rw [aq.2 y,nJ y];constructor
   ·rintro (h1 | h1)
    ·exact .inl h1
    ·exact .inr ⟨h.2,by omega,h1⟩
   ·rintro (h1 | h1)
    ·exact .inl h1
    ·exact .inr h1.2.2
  ·rw [nJ y];exact ⟨.inl,λaR=>aR.elim id λaR=>absurd ⟨by omega,aR.1⟩ h⟩
 ·have:k=c.length:=by omega
  subst this;rw [List.take_length] at BV;rw [BV y];constructor
  ·rintro ⟨x,J,h⟩;exact ⟨x,(aa.2 x).1 J,h⟩
  ·rintro ⟨x,J,h⟩;exact ⟨x,(aa.2 x).2 J,h⟩
def iT (a b:Int):Bool:=decide (a<b)
theorem OU {a b:Int}:iT a b=true↔a<b:=by simp [iT]
theorem JW {a b:Int}:iT a b=false↔¬ a<b:=by simp [iT]
theorem Fw:Ord iT where
 swo:=⟨λx=>by rw [JW]; omega,λx y z h1 af=>by rw [OU] at *; omega,λx y z h1 af=>by rw [JW] at *; omega⟩
 jk:=λx y h1 af=>by rw [JW] at *; omega
theorem LU {l:List Int}(ak:fR iT l) {i j:Nat}(hi:i<l.length) (ah:j<l.length) (h:i<j):iT l[i] l[j]=true:=List.pairwise_iff_getElem.1 ak i j hi ah h
theorem D' (l:List Int) (x:Int) (ak:fR iT l) (aF:l.length<=100000):Tot (pT l x) λr=>fR iT r/\r.length<=l.length+1/\(∀ y,y∈r↔y∈l\/y=x):=by
 unfold pT;refine .aA (Ξ:=λz:Int=>∃ k:Nat,z=(k:Int)/\k<=l.length/\(∀ (i:Nat) (h:i<l.length),k<=i->iT x l[i]=true)/\∀ (h:0<k),iT x (l[k - 1]?.getD default)=false) ?_ λz aX=>?_
 ·refine Tot.count (λs=>-s) 1 (λs=>∃ k:Nat,s=(k:Int)/\k<=l.length/\∀ (i:Nat) (h:i<l.length),k<=i->iT x l[i]=true) ⟨l.length,rfl,Nat.le_refl _,λi h hk=>by omega⟩ (by show 1 - -(l.length:Int)<_; omega) λs aB=>?_;obtain ⟨k,rfl,hk,ui⟩:=aB;refine .aA (Ξ:=λc:Bool=>(c=true->0<k/\iT x (l[k - 1]?.getD default)=true)/\(c=false->∀ (h:0<k),iT x (l[k - 1]?.getD default)=false)) ?_ λc aa=>Tot.bE (λh=>?_) (λh=>.ao ⟨k,rfl,hk,ui,aa.2 h⟩)
  ·refine Tot.bp (λh=>?_) (λh=>.ao ⟨λaR=>(by cases aR),λ_ aR=>by omega⟩);have hg:k - 1<l.length:=by omega
   have hw:aJ ((k:Int) - 1)=((k - 1:Nat):Int):=by rw [cB]; omega
   rw [hw,dV hg,List.getElem?_eq_getElem hg];simp only [Option.bind_some,Option.getD_some];exact .ao ⟨λaR=>⟨by omega,aR⟩,λaR _=>aR⟩
  ·obtain ⟨aQ,h1⟩:=aa.1 h;refine .ao ⟨⟨k - 1,by rw [cB]; omega,by omega,λi hi VD=>?_⟩,by show -(k:Int) < -aJ _; rw [cB]; omega,by show -aJ _<=1; rw [cB]; omega⟩
   grind
 ·obtain ⟨k,rfl,hk,ui,l5⟩:=aX;refine .aA (Ξ:=λc:Bool=>(c=true↔(0<k/\l[k - 1]?.getD default=x))) ?_ λc aa=>Tot.bE (λh=>?_) (λh=>?_)
  ·refine Tot.bp (λh=>?_) (λh=>.ao ⟨λaR=>(by cases aR),λaR=>by omega⟩);have hg:k - 1<l.length:=by omega
   have hw:aJ ((k:Int) - 1)=((k - 1:Nat):Int):=by rw [cB]; omega
   rw [hw,dV hg,List.getElem?_eq_getElem hg];simp only [Option.bind_some,Option.getD_some];generalize l[k - 1]=y;refine .ao ?_
   grind
  ·obtain ⟨aQ,h1⟩:=aa.1 h;have hg:k - 1<l.length:=by omega
   rw [List.getElem?_eq_getElem hg] at h1;have J:x∈l:=by rw [<- h1]; exact List.getElem_mem hg
   exact .ao ⟨ak,by omega,λy=>⟨.inl,λh=>h.elim id λe=>e ▸ J⟩⟩
  ·have dq:∀ (i:Nat) (hi:i<l.length),i<k->iT l[i] x=true:=by
    intro i hi IA;have hg:k - 1<l.length:=by omega
    have l5:=l5 (by omega);have aF:l[k - 1]?.getD default≠x:=λe=>by rw [aa.2 ⟨by omega,e⟩] at h; cases h
    rw [List.getElem?_eq_getElem hg] at l5 aF;simp only [Option.getD_some] at l5 aF;have fW:iT l[k - 1] x=true:=by
     grind [iT]
    by_cases e:i=k - 1
    ·grind
    ·exact Fw.swo.trans _ _ _ (LU ak hi hg (by omega)) fW
   refine .aA (Ξ:=λz=>z=l.take k) (Tot.sub ⟨by omega,by omega,by omega⟩ (by simp)) λz aX=>?_;subst aX;refine .aA (Ξ:=λ_=>True) (Tot.ap (by simp [lim]; omega) trivial) λ_ _=>.aA (Ξ:=λ_=>True) (Tot.ap (by simp [lim]; omega) trivial) λ_ _=>?_;refine .aA (Ξ:=λz=>z=l.drop k) (Tot.sub ⟨by omega,by omega,by omega⟩ ?_) λz aX=>?_
   ·grind [List.take_of_length_le]
   subst aX;refine .aA (Ξ:=λ_=>True) (Tot.ap (by simp [lim]; omega) trivial) λ_ _=>.ao ?_;rw [List.nil_append];refine ⟨?_,?_,?_⟩
   ·have h1:∀ a∈l.take k,iT a x=true:=by
     grind [List.mem_iff_getElem]
    have af:∀ a∈l.drop k,iT x a=true:=by
     grind [List.mem_iff_getElem]
    unfold fR;rw [List.append_assoc,List.pairwise_append];refine ⟨List.Pairwise.sublist (List.take_sublist k l) ak,?_,λa aP b av=>?_⟩
    ·rw [List.singleton_append,List.pairwise_cons];exact ⟨af,List.Pairwise.sublist (List.drop_sublist k l) ak⟩
    ·rcases List.mem_append.1 av with av | av
     ·grind
     ·exact Fw.swo.trans _ _ _ (h1 a aP) (af b av)
   ·grind
   grind [List.take_append_drop]
theorem P4 {α:Type}{l:List α}{k:Nat}{x:α}(hk:k<l.length) (i:Nat):(l.set k x)[i]?=if i=k then some x else l[i]?:=by
 rw [List.getElem?_set];by_cases e:k=i
 ·subst e; simp [hk]
 ·simp [e,Ne.symm e]
theorem Tn (x y:Item):(decide (x.Prod=y.Prod)&&(decide (x.e'=y.e')&&true))=decide (x=y):=by
 obtain ⟨a8,x2⟩:=x;obtain ⟨bx,y2⟩:=y;simp
theorem R5 (a b:List Item) (h:a.length<=1000000):Tot (CL a b) λc=>(c=true↔a=b):=by
 unfold CL;refine Tot.oL (λdq=>.ao ⟨λh=>(by cases h),λe=>absurd (by rw [e]) dq⟩) (λhe=>?_);have ak:a.length=b.length:=by omega
 refine Tot.aA (Ξ:=hl (λ_=>a=b) (λx:Bool=>x=false/\a≠b)) ?_ λx J=>?_
 ·refine Tot.count (λs=>s) a.length (λs=>∃ k:Nat,k<=a.length/\s=(k:Int)/\∀ (j:Nat) (h:j<a.length),j<k->a[j]=b[j]) ⟨0,Nat.zero_le _,rfl,λj _ ah=>absurd ah (Nat.not_lt_zero _)⟩ (by show (a.length:Int) - 0<_; omega) λs aB=>?_;obtain ⟨k,hk,rfl,lf⟩:=aB;rw [eB k (by omega)];refine Tot.bp (λaT=>?_) (λdS=>.ao ?_)
  ·have aT:k<a.length:=by omega
   have zu:k<b.length:=by omega
   rw [dV aT,dV zu];simp only [Option.bind_some,Tn];refine Tot.oL (λdq=>.ao ⟨rfl,λe=>dq (by subst e; rfl)⟩) (λheq=>.ao ⟨⟨k+1,by omega,rfl,λj ah gX=>?_⟩,by show (k:Int)<((k+1:Nat):Int); omega,by show ((k+1:Nat):Int)<=_; omega⟩);by_cases e:j=k
   ·subst e; exact heq
   ·exact lf j ah (by omega)
  ·exact List.ext_getElem ak λi h1 af=>lf i h1 (by omega)
 ·rcases x with _ | x
  ·exact .ao ⟨λ_=>J,λ_=>rfl⟩
  ·obtain ⟨rfl,dq⟩:x=false/\a≠b:=J;exact .ao ⟨λh=>(by cases h),λh=>absurd h dq⟩
def syms (g:bN):List Int:=(List.range g.ba.length).map (λk:Nat=>(k:Int))++(List.range g.b2.length).map (λk:Nat=>1000+(k:Int))
theorem Mc (g:bN) (a1:gz g):Tot (C5 g) λl=>l=syms g:=by
 have dM:=a1.kE;have bd:=a1.dx;unfold C5;refine .aA (Ξ:=λl:List Int=>l=(List.range g.ba.length).map (λk:Nat=>(k:Int))) ?_ λl ak=>?_
 ·refine Tot.upto (λs=>s.2) g.ba.length (λk s=>s.1=(List.range k).map (λk:Nat=>(k:Int))) rfl (by omega) rfl λk s hk he bc=>?_;obtain ⟨l,i⟩:=s;simp only at he bc ⊢;subst he bc;rw [eB k (by omega)];refine Tot.bp (λaT=>?_) (λdS=>.ao ?_)
  ·refine .aA (Ξ:=λ_=>True) (Tot.ap (by simp [lim]; omega) trivial) λ_ _=>.ao ⟨by omega,rfl,?_⟩;show _=(List.range (k+1)).map _;rw [List.range_succ,List.map_append]; rfl
  ·have:k=g.ba.length:=by omega
   subst this; rfl
 ·subst ak;refine .aA (Ξ:=λl:List Int=>l=syms g) ?_ λr aq=>.ao aq;refine Tot.upto (λs=>s.2) g.b2.length (λk s=>s.1=(List.range g.ba.length).map (λk:Nat=>(k:Int))++(List.range k).map (λk:Nat=>1000+(k:Int))) rfl (by omega) (by simp) λk s hk he bc=>?_;obtain ⟨l,i⟩:=s;simp only at he bc ⊢;subst he bc;rw [eB k (by omega)];refine Tot.bp (λaT=>?_) (λdS=>.ao ?_)
  ·refine .aA (Ξ:=λ_=>True) (Tot.ap (by simp [lim]; omega) trivial) λ_ _=>.ao ⟨by omega,rfl,?_⟩;have hw:aJ (1000+(k:Int))=1000+(k:Int):=by rw [cB]; omega
   show _=_++(List.range (k+1)).map _;rw [hw,List.range_succ,List.map_append,List.append_assoc]; rfl
  ·have:k=g.b2.length:=by omega
   subst this; rfl
theorem Y4 (g:bN):(syms g).length=g.ba.length+g.b2.length:=by simp [syms]
theorem Xi {g:bN}{s:Int}:s∈syms g↔(0<=s/\s<g.ba.length)\/(1000<=s/\s<1000+g.b2.length):=by
 unfold syms;rw [List.mem_append,List.mem_map,List.mem_map];constructor
 ·rintro (⟨k,hk,rfl⟩ | ⟨k,hk,rfl⟩)
  ·rw [List.mem_range] at hk; exact .inl (by omega)
  ·rw [List.mem_range] at hk; exact .inr (by omega)
 ·rintro (h | h)
  ·exact .inl ⟨s.toNat,by rw [List.mem_range]; omega,by omega⟩
  ·exact .inr ⟨(s - 1000).toNat,by rw [List.mem_range]; omega,by omega⟩
theorem Y5 {g:bN}(a1:gz g):(syms g).Nodup:=by
 have aw:=a1.kE;unfold syms;rw [List.nodup_append];refine ⟨List.pairwise_map.2 ((List.nodup_range (n:=g.ba.length)).imp λ{a b} h e=>h (by omega)),List.pairwise_map.2 ((List.nodup_range (n:=g.b2.length)).imp λ{a b} h e=>h (by omega)),λa aP b av=>?_⟩;obtain ⟨i,hi,rfl⟩:=List.mem_map.1 aP;obtain ⟨j,ah,rfl⟩:=List.mem_map.1 av;rw [List.mem_range] at hi;omega
structure yP (g:bN) (K:List Item):Prop where
 a:fR gZ K
 i:∀ x∈K,jg g x
theorem yP.len {g:bN}(a1:gz g) {K:List Item}(h:yP g K):K.length<=540:=tA a1 h.a h.i
theorem Ma (l:List Int) (x:Int) (h:l.length<=1000000):Tot (x8 l x) λc=>(c=true↔x∈l):=by
 unfold x8;refine .aA (Ξ:=hl (λ_=>x∉l) (λr:Bool=>r=true/\x∈l)) ?_ λr aq=>?_
 ·refine Tot.upto (λs=>s) l.length (λk s=>x∉l.take k) rfl (by omega) (by simp) λk s hk he bc=>?_;subst he;rw [eB k (by omega)];refine Tot.bp (λaT=>?_) (λdS=>.ao ?_)
  ·have aT:k<l.length:=by omega
   rw [dV aT];simp only [Option.bind_some];refine Tot.bp (λe=>.ao ⟨rfl,by rw [<- e]; exact List.getElem_mem aT⟩) (λe=>.ao ⟨aT,rfl,?_⟩);rw [k3 aT,List.mem_append,List.mem_singleton];exact λh=>h.elim bc λh=>e h.symm
  ·rw [List.take_of_length_le (by omega)] at bc;exact bc
 ·rcases r with r | r
  ·exact .ao ⟨λh=>(by cases h),λh=>absurd h aq⟩
  ·obtain ⟨rfl,h⟩:=aq;exact .ao ⟨λ_=>h,λ_=>rfl⟩
theorem Sp (m:List State) (k:List Item) (aQ:m.length<=1000) (h1:∀ st∈m,st.Kernel.length<=1000000):Tot (C7 m k) λr=>-1<=r/\r<m.length:=by
 unfold C7;refine .aA (Ξ:=hl (λ_=>True) (λr:Int=>0<=r/\r<m.length)) ?_ λx J=>?_
 ·refine Tot.upto (λs=>s) m.length (λ_ _=>True) rfl (by omega) trivial λj s ah he _=>?_;subst he;rw [eB j (by omega)];refine Tot.bp (λaT=>?_) (λdS=>.ao trivial);have aT:j<m.length:=by omega
  rw [dV aT];refine Tot.aV (.aA (R5 _ k (h1 _ (List.getElem_mem aT))) λc aa=>Tot.bE (λh=>.ao ⟨by omega,by omega⟩) (λh=>.ao ⟨aT,rfl,trivial⟩))
 ·rcases x with x | x
  ·exact .ao ⟨by omega,by omega⟩
  ·have J:0<=x/\x<m.length:=J;exact .ao ⟨by omega,by omega⟩
structure yT (g:bN) (n:Nat) (v:Move):Prop where
 s:v.Sym∈syms g
 t0:0<=v.jF
 t1:v.jF<n
structure mi (g:bN) (m:List State) (q j:Nat):Prop where
 gH:0<m.length
 nm:m.length<=150
 qz:∀ st∈m,yP g st.Kernel
 ms:∀ (i:Nat) (st:State),m[i]?=some st->(st.eW.map (·.Sym)).Sublist (if i<q then syms g else if i=q then (syms g).take j else [])
 aZ:∀ st∈m,∀ v∈st.eW,yT g m.length v
structure mN (g:bN) (m:List State):Prop where
 gH:0<m.length
 nm:m.length<=150
 qz:∀ st∈m,yP g st.Kernel
 xN:∀ st∈m,st.eW.length<=64
 nd:∀ st∈m,(st.eW.map (·.Sym)).Nodup
 aZ:∀ st∈m,∀ v∈st.eW,yT g m.length v
theorem yT.up {g:bN}{n cG:Nat}{v:Move}(h:yT g n v) (aF:n<=cG):yT g cG v:=⟨h.s,h.t0,by have:=h.t1; omega⟩
theorem mi.put {g:bN}{m:List State}{q j:Nat}(h:mi g m q j) {st:State}(bg:m[q]?=some st) {v:Move}(hv:yT g m.length v) (ah:(syms g)[j]?=some v.Sym):mi g (m.set q ⟨st.Kernel,st.eW++[v]⟩) q (j+1):=by
 have nb:=(List.getElem?_eq_some_iff.1 bg).1;have hm:=List.mem_of_getElem? bg;refine ⟨by rw [List.length_set]; exact h.gH,by rw [List.length_set]; exact h.nm,λs aB=>?_,λi s aB=>?_,λs aB w hw=>?_⟩
 ·rcases List.mem_or_eq_of_mem_set aB with aR | aR
  ·exact h.qz s aR
  ·rw [aR]; exact h.qz st hm
 ·rw [P4 nb] at aB;by_cases e:i=q
  ·subst e;rw [if_pos rfl] at aB; cases aB;have:=h.ms i st bg;rw [if_neg (by omega),if_pos rfl] at this ⊢;rw [List.map_append,List.take_add_one,ah];exact this.append (List.Sublist.refl _)
  ·rw [if_neg e] at aB;have:=h.ms i s aB;rw [if_neg e] at this ⊢;exact this
 ·rw [List.length_set];rcases List.mem_or_eq_of_mem_set aB with aR | aR
  ·exact h.aZ s aR w hw
  ·rw [aR] at hw;rcases List.mem_append.1 hw with hw | hw
   ·exact h.aZ st hm w hw
   ·rw [List.mem_singleton.1 hw]; exact hv
theorem mi.more {g:bN}{m:List State}{q j:Nat}(h:mi g m q j) (ak:m.length<150) {K:List Item}(hk:yP g K):mi g (m++[⟨K,[]⟩]) q j:=by
 refine ⟨by simp,by simp; omega,λs aB=>?_,λi s aB=>?_,λs aB w hw=>?_⟩
 ·rcases List.mem_append.1 aB with aB | aB
  ·exact h.qz s aB
  ·rw [List.mem_singleton.1 aB]; exact hk
 ·by_cases e:i<m.length
  ·rw [List.getElem?_append_left e] at aB; exact h.ms i s aB
  ·rw [List.getElem?_append_right (by omega)] at aB;have:s=⟨K,[]⟩:=by
    have:=List.mem_of_getElem? aB;simpa using this
   rw [this]; exact List.nil_sublist _
 ·rcases List.mem_append.1 aB with aB | aB
  ·exact (h.aZ s aB w hw).up (by simp)
  ·rw [List.mem_singleton.1 aB] at hw; cases hw
theorem mi.mono {g:bN}{m:List State}{q j vG:Nat}(h:mi g m q j) (ah:j<=vG):mi g m q vG:=by
 refine ⟨h.gH,h.nm,h.qz,λi s aB=>?_,h.aZ⟩;have:=h.ms i s aB;split
 ·rename_i e; rw [if_pos e] at this; exact this
 ·rename_i e; rw [if_neg e] at this;split
  ·rename_i cj; rw [if_pos cj] at this;exact this.trans (List.take_sublist_take_left ah)
  ·rename_i cj; rw [if_neg cj] at this; exact this
theorem mi.next {g:bN}{m:List State}{q j:Nat}(h:mi g m q j):mi g m (q+1) 0:=by
 refine ⟨h.gH,h.nm,h.qz,λi s aB=>?_,h.aZ⟩;have:=h.ms i s aB;by_cases e:i<q+1
 ·rw [if_pos e]
  split at this
  ·exact this
  ·split at this
   ·exact this.trans (List.take_sublist _ _)
   ·exact this.trans (List.nil_sublist _)
 ·rw [if_neg (by omega),if_neg (by omega)] at this;rw [if_neg e];exact this.trans (List.nil_sublist _)
theorem Sg (g:bN) (a1:gz g):Tot (Ai g) λr=>(r.2=0/\mN g r.1)\/r.2=4:=by
 have dM:=a1.kE;have bd:=a1.dx;have cn:=a1.hX;unfold Ai;refine Tot.aA (Mc g a1) λa8 h1=>?_;subst h1;have h_:=Y4 g;refine Tot.aA (Ξ:=hl (λm=>mi g m m.length 0) (λr:List State × Int=>r.2=4)) ?_ λx J=>?_
 ·refine Tot.loop (λs=>∃ q:Nat,s.2=(q:Int)/\q<=s.1.length/\mi g s.1 q 0) (λs=>151 - s.2.toNat) ⟨0,rfl,Nat.zero_le _,⟨by simp,by simp,λs aB=>?_,λi s aB=>?_,λs aB v hv=>?_⟩⟩ (by show 151 - 0<1000000000000000000; omega) λs b0=>?_
  ·rw [List.mem_singleton.1 aB];refine ⟨List.pairwise_singleton ..,λx J=>?_⟩;rw [List.mem_singleton.1 J];obtain ⟨q,bg⟩:∃ q,g.bh[0]?=some q:=⟨g.bh[0]'(by omega),List.getElem?_eq_getElem _⟩;exact OG (p:=0) bg
  ·have:=List.mem_of_getElem? aB;rw [List.mem_singleton.1 this]; exact List.nil_sublist _
  ·rw [List.mem_singleton.1 aB] at hv; cases hv
  obtain ⟨q,he,bg,Bw⟩:=b0;obtain ⟨m,i⟩:=s;simp only at he bg Bw ⊢;subst he;have xi:=Bw.nm;rw [eB q (by omega)];refine Tot.bp (λaT=>?_) (λdS=>.ao ?_)
  ·have aT:q<m.length:=by omega
   rw [dV aT];have di:=Bw.qz _ (List.getElem_mem aT);refine Tot.aV (Tot.aA (Hj g a1 _ (by have:=di.len a1; omega)) λc aa=>?_);have hf:=tA a1 aa.1 λx J=>((aa.2 x).1 J).jg;refine Tot.aA (Ξ:=λl:List Int=>l.length<=1000) ?_ λRu acf=>?_
   ·refine Tot.upto (λs=>s.2) c.length (λk s=>fR iT s.1/\s.1.length<=k) rfl (by omega) ⟨.nil,Nat.le_refl 0⟩ λk s hk he bc=>?_;obtain ⟨l,i⟩:=s;obtain ⟨g1,g2⟩:=bc;simp only at he g1 g2 ⊢;subst he;rw [eB k (by omega)];refine Tot.bp (λaT=>?_) (λdS=>.ao (show l.length<=1000 by omega));have aT:k<c.length:=by omega
    rw [dV aT];refine .aA (Ξ:=λl:List Int=>fR iT l/\l.length<=k+1) ?_ λo a1=>.ao ⟨aT,rfl,a1⟩;refine Tot.aV ?_;rw [Hu g _];refine Tot.aV (.aA (Ξ:=λl:List Int=>fR iT l/\l.length<=k+1) ?_ λo a1=>.ao a1);refine Tot.bp (λau=>.aA (D' l _ g1 (by omega)) λr aq=>.ao ⟨aq.1,by have:=aq.2.1; omega⟩) (λau=>.ao ⟨g1,by omega⟩)
   ·refine Tot.aA (Ξ:=hl (λm=>mi g m q (syms g).length/\q<m.length) (λr:List State × Int=>r.2=4)) ?_ λx J=>?_
    ·refine Tot.upto (λs=>s.2) (syms g).length (λk s=>mi g s.1 q k/\q<s.1.length) rfl (by omega) ⟨Bw,aT⟩ λk s hk he bc=>?_;obtain ⟨m,i⟩:=s;obtain ⟨tP,nb⟩:=bc;simp only at he tP nb ⊢;subst he;rw [eB k (by omega)];have vq:=tP.nm;refine Tot.bp (λaT=>?_) (λdS=>.ao ?_)
     ·have aT:k<(syms g).length:=by omega
      have nN:=List.getElem_mem aT;have pC:(syms g)[k]?=some (syms g)[k]:=List.getElem?_eq_getElem aT;rw [dV aT];generalize (syms g)[k]=s at *;refine Tot.aV (Tot.aA (Ma Ru s (by omega)) λcD _=>?_);refine Tot.bE (λ_=>.ao ⟨aT,rfl,tP.mono (by omega),nb⟩) (λ_=>?_);have n':m[q]?=some m[q]:=List.getElem?_eq_getElem nb;have di:=tP.qz _ (List.getElem_mem nb);rw [dV nb];generalize m[q]=st at *;refine Tot.aV (Tot.aV (Tot.aA (Sn g a1 st.Kernel s (by have:=di.len a1; omega)) λDQ zk=>?_));have ib:yP g DQ:=⟨zk.1,λy ax=>((zk.2 y).1 ax).jg a1⟩;refine Tot.aA (Sp m DQ (by omega) λt aw=>by have:=(tP.qz t aw).len a1; omega) λz aX=>?_;have Wb:=(tP.ms q st n').length_le;rw [if_neg (by omega),if_pos rfl,List.length_map,List.length_take] at Wb;refine Tot.bp (λIS=>Tot.bp (λ_=>.ao rfl) (λN2=>?_)) (λsS=>?_)
      ·refine .aA (Ξ:=λ_=>True) (Tot.ap (by simp [lim]; omega) trivial) λ_ _=>?_;have Ut:=tP.more (by omega) ib;have NL:(m++[(⟨DQ,[]⟩:State)])[q]?=some st:=by rw [List.getElem?_append_left nb]; exact n'
       have BJ:idx (m++[(⟨DQ,[]⟩:State)]) (q:Int)=some st:=by simp only [idx,if_pos (show (0:Int)<=(q:Int) by omega),Int.toNat_natCast]; exact NL
       rw [BJ];refine Tot.aV (Tot.aV ?_);refine .aA (Ξ:=λ_=>True) (Tot.ap (by simp [lim]; omega) trivial) λ_ _=>.ao ⟨aT,rfl,?_⟩;refine ⟨?_,by show q<(List.set _ _ _).length; rw [List.length_set]; simp; omega⟩;show mi g (List.set _ (q:Int).toNat _) q (k+1);rw [Int.toNat_natCast];exact Ut.put NL ⟨nN,by show (0:Int)<=(m.length:Int); omega,by show (m.length:Int)<_; simp; omega⟩ pC
      ·refine Tot.aV (Tot.aV ?_);refine .aA (Ξ:=λ_=>True) (Tot.ap (by simp [lim]; omega) trivial) λ_ _=>.ao ⟨aT,rfl,?_⟩;refine ⟨?_,by show q<(List.set _ _ _).length; rw [List.length_set]; exact nb⟩;show mi g (List.set _ (q:Int).toNat _) q (k+1);rw [Int.toNat_natCast];exact tP.put n' ⟨nN,by show 0<=z; omega,aX.2⟩ pC
     ·have:k=(syms g).length:=by omega
      subst this;exact ⟨tP,nb⟩
    ·rcases x with x | x
     ·obtain ⟨h1,af⟩:=J;refine .ao ⟨⟨q+1,rfl,af,h1.next⟩,?_⟩;show 151 - ((q+1:Nat):Int).toNat<151 - (q:Int).toNat;omega
     ·exact .ao J
  ·have:q=m.length:=by omega
   subst this;exact Bw
 ·rcases x with x | x
  ·have J:mi g x x.length 0:=J;have key:∀ st∈x,(st.eW.map (·.Sym)).Sublist (syms g):=λst b0=>by
    obtain ⟨i,hi⟩:=List.getElem?_of_mem b0;have:=J.ms i st hi;rw [if_pos (List.getElem?_eq_some_iff.1 hi).1] at this;exact this
   refine .ao (.inl ⟨rfl,J.gH,J.nm,J.qz,λst b0=>?_,λst b0=>(key st b0).nodup (Y5 a1),J.aZ⟩);have:=(key st b0).length_le;rw [List.length_map] at this; omega
  ·exact .ao (.inr J)
theorem WZ {α:Type}{m:List α}{q:Nat}{x:α}(h:m[q]?=some x):idx m (q:Int)=some x:=by simp [idx,h]
def GoTo (m:List State) (a s r:Int):Prop:=(r=-1/\∀ st,idx m a=some st->∀ v∈st.eW,v.Sym≠s)\/∃ st v,idx m a=some st/\v∈st.eW/\v.Sym=s/\r=v.jF
theorem D_ (m:List State) (a s:Int) (hm:∀ st∈m,st.eW.length<=64):Tot (rn m a s) (GoTo m a s):=by
 unfold rn;by_cases aQ:0<=a/\a<(m.length:Int)
 ·obtain ⟨st,b0,nJ⟩:=oh aQ.1 aQ.2;have ak:=hm st nJ;have d1:decide (0<=a)=true:=decide_eq_true aQ.1;have d2:decide (a<(m.length:Int))=true:=decide_eq_true aQ.2;rw [d1,d2];simp only [cond_true,b0,Option.bind_some];refine .aA (Ξ:=hl (λ_=>∀ v∈st.eW,v.Sym≠s) (λr:Int=>∃ v,v∈st.eW/\v.Sym=s/\r=v.jF)) ?_ λx J=>?_
  ·refine Tot.upto (λs=>s) st.eW.length (λk _=>∀ v∈st.eW.take k,v.Sym≠s) rfl (by omega) (by simp) λk i hk he bc=>?_;subst he;rw [eB k (by omega)];refine Tot.bp (λaT=>?_) (λdS=>.ao (by
    show ∀ v∈st.eW,v.Sym≠s;rw [List.take_of_length_le (by omega)] at bc; exact bc))
   have aT:k<st.eW.length:=by omega
   rw [dV aT];simp only [Option.bind_some];refine Tot.bp (λe=>.ao ⟨_,List.getElem_mem aT,e,rfl⟩) (λe=>.ao ⟨aT,rfl,λv hv=>?_⟩);rw [k3 aT,List.mem_append,List.mem_singleton] at hv;rcases hv with hv | rfl
   ·exact bc v hv
   ·exact e
  ·rcases x with x | x
   ·exact .ao (.inl ⟨rfl,λQk aR=>by rw [b0] at aR; cases aR; exact J⟩)
   ·obtain ⟨v,h1,af,aI⟩:=J;exact .ao (.inr ⟨st,v,b0,h1,af,aI⟩)
 ·refine .aA (Ξ:=hl (λ_=>True) (λ_:Int=>False)) (Tot.loop (λ_=>True) (λ_=>0) trivial (by show 0<1000000000000000000; omega) λi _=>?_) λx J=>?_
  ·refine .aA (Ξ:=λc=>c=false) ?_ λc aa=>by subst aa; exact .ao trivial
   refine Tot.bp (λh1=>Tot.bp (λaf=>absurd ⟨h1,af⟩ aQ) (λ_=>.ao rfl)) (λ_=>.ao rfl)
  ·rcases x with x | x
   ·refine .ao (.inl ⟨rfl,λst aR=>absurd ⟨(ng aR).1,(ng aR).2.1⟩ aQ⟩)
   ·exact J.elim
theorem GoTo.aM {g:bN}{m:List State}(hm:mN g m) {a s r:Int}(h:GoTo m a s r):-1<=r/\r<m.length:=by
 rcases h with ⟨rfl,_⟩ | ⟨st,v,h1,af,_,rfl⟩
 ·have:=hm.gH; exact ⟨by omega,by omega⟩
 ·have:=hm.aZ st (ng h1).2.2 v af;exact ⟨by have:=this.t0; omega,this.t1⟩
theorem GoTo.yes {g:bN}{m:List State}(hm:mN g m) {a s r:Int}(h:GoTo m a s r) {st:State}{v:Move}(aB:idx m a=some st) (hv:v∈st.eW) (e:v.Sym=s):0<=r/\r<m.length:=by
 rcases h with ⟨rfl,h⟩ | ⟨st,v,h1,af,_,rfl⟩
 ·exact absurd e (h st aB v hv)
 ·have:=hm.aZ st (ng h1).2.2 v af;exact ⟨this.t0,this.t1⟩
theorem Me {g:bN}{m:List State}(hm:mN g m) (a:Int) (l:List Int) (aP:-1<=a/\a<m.length) (ak:l.length<=1000):Tot (Am m a l) λr=>-1<=r/\r<m.length:=by
 unfold Am;refine .aA (Ξ:=λr:Int=>-1<=r/\r<m.length) ?_ λr aq=>.ao aq;refine Tot.upto (λs=>s.2) l.length (λ_ s=>-1<=s.1/\s.1<m.length) rfl (by omega) aP λk s hk he bc=>?_;obtain ⟨r,i⟩:=s;simp only at he bc ⊢;subst he;rw [eB k (by omega)];refine .aA (Ξ:=λc=>c=true->k<l.length) (Tot.bp (λh=>.ao λ_=>by omega) (λ_=>.ao λh=>by cases h)) λc aa=>Tot.bE (λh=>?_) (λ_=>.ao bc);have aT:=aa h;rw [dV aT];exact Tot.aV (.aA (D_ m r _ hm.xN) λz aX=>.ao ⟨aT,rfl,aX.aM hm⟩)
def u3 (m:List State) (t:Trans):Prop:=∃ st v,idx m t.State=some st/\v∈st.eW/\v.Sym=t.fC/\1000<=t.fC
structure wB (m:List State) (l:List Trans):Prop where
 n:l.length<=9600
 ok:∀ t∈l,u3 m t
 fE:∀ (q:Nat) (st:State) (v:Move),m[q]?=some st->v∈st.eW->1000<=v.Sym->(⟨q,v.Sym⟩:Trans)∈l
theorem St {g:bN}{m:List State}(hm:mN g m):Tot (qD m) (wB m):=by
 have aF:=hm.nm;unfold qD;refine .aA (Ξ:=wB m) ?_ λr aq=>.ao aq;refine Tot.upto (λs=>s.2) m.length (λk s=>s.1.length<=64 * k/\(∀ t∈s.1,u3 m t)/\∀ (q:Nat) (st:State) (v:Move),q<k->m[q]?=some st->v∈st.eW->1000<=v.Sym->(⟨q,v.Sym⟩:Trans)∈s.1) rfl (by omega) ⟨Nat.le_refl 0,λt h=>(by cases h),λq _ _ h=>absurd h (Nat.not_lt_zero _)⟩ λk s hk he bc=>?_;obtain ⟨l,i⟩:=s;obtain ⟨h1,af,aI⟩:=bc;simp only at he h1 af aI ⊢;subst he;rw [eB k (by omega)];refine Tot.bp (λaT=>?_) (λdS=>.ao ⟨?_,af,λq st v bg=>aI q st v ?_ bg⟩)
 ·have aT:k<m.length:=by omega
  have n':m[k]?=some m[k]:=List.getElem?_eq_getElem aT;have nJ:=List.getElem_mem aT;rw [dV aT];generalize m[k]=st at *;have vq:=hm.xN st nJ;simp only [Option.bind_some];refine .aA (Ξ:=λvH:List Trans=>vH.length<=64 * (k+1)/\(∀ t∈vH,u3 m t)/\(∀ t∈l,t∈vH)/\∀ v∈st.eW,1000<=v.Sym->(⟨k,v.Sym⟩:Trans)∈vH) ?_ λvH h0=>.ao ⟨aT,rfl,h0.1,h0.2.1,λq Qk v bg bF cF ej=>?_⟩
  ·refine Tot.upto (λs=>s.2) st.eW.length (λj s=>s.1.length<=64 * k+j/\(∀ t∈s.1,u3 m t)/\(∀ t∈l,t∈s.1)/\∀ v∈st.eW.take j,1000<=v.Sym->(⟨k,v.Sym⟩:Trans)∈s.1) rfl (by omega) ⟨h1,af,λ_ h=>h,λv hv=>by simp at hv⟩ λj s ah he bc=>?_;obtain ⟨o,i⟩:=s;obtain ⟨g1,g2,g3,g4⟩:=bc;simp only at he g1 g2 g3 g4 ⊢;subst he;rw [eB j (by omega)];refine Tot.bp (λaT=>?_) (λdS=>.ao ⟨by show o.length<=_; omega,g2,g3,by
    rw [List.take_of_length_le (by omega)] at g4; exact g4⟩)
   have aT:j<st.eW.length:=by omega
   have ga:=k3 aT;have ET:=List.getElem_mem aT;rw [dV aT];generalize st.eW[j]=v at *;simp only [Option.bind_some];refine .aA (Ξ:=λo:List Trans=>o.length<=64 * k+(j+1)/\(∀ t∈o,u3 m t)/\(∀ t∈l,t∈o)/\∀ v∈st.eW.take (j+1),1000<=v.Sym->(⟨k,v.Sym⟩:Trans)∈o) ?_ λo a1=>.ao ⟨aT,rfl,a1⟩;refine .aA (Ξ:=λo:List Trans=>o.length<=64 * k+(j+1)/\(∀ t∈o,u3 m t)/\(∀ t∈l,t∈o)/\∀ v∈st.eW.take (j+1),1000<=v.Sym->(⟨k,v.Sym⟩:Trans)∈o) (Tot.bp (λh=>?_) (λh=>.ao ⟨by omega,g2,g3,λw hw aB=>?_⟩)) λo a1=>.ao a1
   ·refine .aA (Ξ:=λ_=>True) (Tot.ap (by simp [lim]; omega) trivial) λ_ _=>.ao ⟨by simp; omega,λt aw=>?_,λt aw=>List.mem_append_left _ (g3 t aw),λw hw aB=>?_⟩
    ·rcases List.mem_append.1 aw with aw | aw
     ·exact g2 t aw
     ·rw [List.mem_singleton.1 aw];exact ⟨st,v,WZ n',ET,rfl,h⟩
    ·rw [ga,List.mem_append,List.mem_singleton] at hw;rcases hw with hw | rfl
     ·exact List.mem_append_left _ (g4 w hw aB)
     ·simp
   ·rw [ga,List.mem_append,List.mem_singleton] at hw;rcases hw with hw | rfl
    ·exact g4 w hw aB
    ·exact absurd aB h
  ·by_cases e:q=k
   ·subst e;rw [n'] at bF; cases bF;exact h0.2.2.2 v cF ej
   ·exact h0.2.2.1 _ (aI q Qk v (by omega) bF cF ej)
 ·show l.length<=9600;omega
 ·have:=(List.getElem?_eq_some_iff.1 bg).1;omega
theorem A8 (l:List Trans) (a n:Int) (ak:l.length<=9600):Tot (z6 l a n) λr=>-1<=r/\r<l.length/\((⟨a,n⟩:Trans)∈l->0<=r):=by
 unfold z6;refine .aA (Ξ:=hl (λ_=>(⟨a,n⟩:Trans)∉l) (λr:Int=>0<=r/\r<l.length)) ?_ λx J=>?_
 ·refine Tot.upto (λs=>s) l.length (λk _=>(⟨a,n⟩:Trans)∉l.take k) rfl (by omega) (by simp) λk i hk he bc=>?_;subst he;rw [eB k (by omega)];refine Tot.bp (λaT=>?_) (λdS=>.ao (by
   show (⟨a,n⟩:Trans)∉l;rw [List.take_of_length_le (by omega)] at bc; exact bc))
  have aT:k<l.length:=by omega
  have ga:=k3 aT;rw [dV aT];generalize l[k]=y at *;simp only [Option.bind_some];refine .aA (Ξ:=λc:Bool=>c=false->y≠⟨a,n⟩) (Tot.bp (λh=>.ao λaR e=>?_) (λh=>.ao λ_ e=>h (by rw [e]))) λc aa=>Tot.bE (λh=>.ao ⟨by show (0:Int)<=k; omega,by show (k:Int)<_; omega⟩) (λh=>.ao ⟨aT,rfl,?_⟩)
  ·have:=of_decide_eq_false aR;exact this (by rw [e])
  ·rw [ga,List.mem_append,List.mem_singleton];exact λaR=>aR.elim bc λe=>aa h e.symm
 ·rcases x with x | x
  ·refine .ao ⟨by omega,by omega,λh=>absurd h J⟩
  ·have J:0<=x/\x<l.length:=J;exact .ao ⟨by omega,J.2,λ_=>J.1⟩
theorem R6 (l:List Item) (ak:l.length<=1000000):Tot (CM l) λ_=>True:=by
 unfold CM;refine .aA (Ξ:=λ_=>True) ?_ λx J=>by
  rcases x with x | x
  ·exact .ao trivial
  ·exact .ao trivial
 refine Tot.upto (λs=>s) l.length (λ_ _=>True) rfl (by omega) trivial λk i hk he _=>?_;subst he;rw [eB k (by omega)];refine Tot.bp (λaT=>?_) (λ_=>.ao trivial);have aT:k<l.length:=by omega
 rw [dV aT];simp only [Option.bind_some];refine .aA (Ξ:=λ_=>True) (Tot.bp (λ_=>.ao trivial) (λ_=>.ao trivial)) λc _=>Tot.bE (λ_=>.ao trivial) (λ_=>.ao ⟨aT,rfl,trivial⟩)
theorem L9 (B:List Bool) (l:List Int) (ak:l.length<=1000) (h:∀ s∈l,s<1000\/(1000<=s/\s - 1000<B.length)) (fg:B.length<=1000):Tot (z7 B l) λ_=>True:=by
 unfold z7;refine .aA (Ξ:=λ_=>True) ?_ λx J=>by
  rcases x with x | x
  ·exact .ao trivial
  ·exact .ao trivial
 refine Tot.upto (λs=>s) l.length (λ_ _=>True) rfl (by omega) trivial λk i hk he _=>?_;subst he;rw [eB k (by omega)];refine Tot.bp (λaT=>?_) (λ_=>.ao trivial);have aT:k<l.length:=by omega
 have ax:=h _ (List.getElem_mem aT);rw [dV aT];generalize l[k]=y at *;simp only [Option.bind_some];refine .aA (Ξ:=λ_=>True) (Tot.bp (λ_=>.ao trivial) (λh1=>?_)) λc _=>Tot.bE (λ_=>.ao trivial) (λ_=>.ao ⟨aT,rfl,trivial⟩);have hw:aJ (y - 1000)=y - 1000:=by rw [cB]; omega
 rw [hw];obtain ⟨b,av,_⟩:=oh (l:=B) (i:=y - 1000) (by omega) (by omega);rw [av];exact .ao trivial
theorem PG {g:bN}(aO:gz g) {q:Prod}(bg:q∈g.bh) {B:List Bool}(fg:B.length=g.b2.length):∀ s∈q.eu,s<1000\/(1000<=s/\s - 1000<B.length):=λs aB=>by
 have aw:=aO.kE;have aF:=aO.dx;rcases (aO.hx q bg).right s aB with h | h <;> omega
theorem L8 (g:bN) (aO:gz g):Tot (z1 g) λB=>B.length=g.b2.length:=by
 have aw:=aO.kE;have aF:=aO.dx;have au:=aO.hX;unfold z1;refine .aA (Ξ:=λB=>B=List.replicate g.b2.length false) (Tot.mk (by simp [lim]; omega) (by simp)) λZP Ua=>?_;subst Ua;refine .aA (Ξ:=λB:List Bool=>B.length=g.b2.length) ?_ λB fg=>.ao fg;refine Tot.loop (λs=>s.1.length=g.b2.length) (λs=>2 * (g.b2.length - hr s.1)+s.2.toNat) (by simp) (by
  show 2 * (g.b2.length - hr _)+1<1000000000000000000; omega) λs aB=>?_
 obtain ⟨B,f⟩:=s;simp only at aB ⊢;refine Tot.bE (λaW=>?_) (λ_=>.ao aB);subst aW;refine .aA (Ξ:=λr:List Bool × Bool=>r.1.length=g.b2.length/\hr B<=hr r.1/\(r.2=true->hr B<hr r.1)) ?_ λr aq=>?_
 ·refine Tot.upto (λs=>s.2.2) g.bh.length (λ_ s=>s.1.length=g.b2.length/\hr B<=hr s.1/\(s.2.1=true->hr B<hr s.1)) rfl (by omega) ⟨aB,Nat.le_refl _,λh=>by cases h⟩ λk s hk he bc=>?_;obtain ⟨C,f,i⟩:=s;obtain ⟨h1,af,aI⟩:=bc;simp only at he h1 af aI ⊢;subst he;rw [eB k (by omega)];refine Tot.bp (λaT=>?_) (λdS=>.ao ⟨h1,af,aI⟩);have aT:k<g.bh.length:=by omega
  have nb:=List.getElem_mem aT;rw [dV aT];generalize g.bh[k]=q at *;have bg:=aO.hx q nb;have N8:=bg.left;obtain ⟨b,av,_⟩:=oh (l:=C) (i:=q.Left) N8.1 (by omega);simp only [Option.bind_some,av];refine .aA (Ξ:=λr:List Bool × Bool=>r.1.length=g.b2.length/\hr B<=hr r.1/\(r.2=true->hr B<hr r.1)) ?_ λr aq=>.ao ⟨aT,rfl,aq⟩;refine .aA (Ξ:=λc:Bool=>c=true->b=false) ?_ λc aa=>?_
  ·cases b with
   | true=>exact .ao λh=>by cases h
   | false =>
    refine .aA (L9 C q.eu (by have:=aO.aG q nb; omega) (PG aO nb h1) (by omega)) λ_ _=>.ao λ_=>rfl
  ·refine .aA (Ξ:=λr:List Bool × Bool=>r.1.length=g.b2.length/\hr B<=hr r.1/\(r.2=true->hr B<hr r.1)) (Tot.bE (λh=>.ao ?_) (λh=>.ao ⟨h1,af,aI⟩)) λr aq=>.ao aq;have Va:=aa h;subst Va;have zt:q.Left.toNat<C.length:=by omega
   have n':C.getD q.Left.toNat false=false:=by
    unfold idx at av;rw [if_pos N8.1] at av;rw [List.getD_eq_getElem?_getD,av]; rfl
   have:=wV C q.Left.toNat zt n';exact ⟨by rw [List.length_set]; exact h1,by show hr B<=hr (C.set _ _); omega,λ_=>by show hr B<hr (C.set _ _); omega⟩
 ·obtain ⟨h1,af,aI⟩:=aq;refine .ao ⟨h1,?_⟩;have aa:=SA r.1;show 2 * (g.b2.length - hr r.1)+r.2.toNat<2 * (g.b2.length - hr B)+true.toNat;cases iP:r.2 with
  | false=>simp only [Bool.toNat_false,Bool.toNat_true]; omega
  | true =>
   have:=aI iP;simp only [Bool.toNat_true]; omega
structure jq (T:Nat) (r:List Int):Prop where
 a:fR iT r
 i:∀ x∈r,0<=x/\x<T
theorem jq.len {T:Nat}{r:List Int}(h:jq T r):r.length<=T:=by
 have:=zQ (m:=(List.range T).map λk:Nat=>(k:Int)) (h.a.nd Fw) λx J=>by
  have:=h.i x J;exact List.mem_map.2 ⟨x.toNat,by rw [List.mem_range]; omega,by omega⟩
 grind
theorem jq.nil {T:Nat}:jq T []:=⟨.nil,λx h=>by cases h⟩
theorem jq.put {T:Nat}(dM:T<=100000) {r:List Int}(h:jq T r) {x:Int}(J:0<=x/\x<T):Tot (pT r x) λdm=>jq T dm/\r.length<=dm.length:=by
 have ak:=h.len;refine (D' r x h.a (by omega)).use λdm ec=>⟨⟨ec.1,λy ax=>?_⟩,zQ (h.a.nd Fw) λy ax=>(ec.2.2 y).2 (.inl ax)⟩;rcases (ec.2.2 y).1 ax with aR | rfl
 ·exact h.i y aR
 grind
def mG (L:List (List Int)) (i:Nat):Nat:=(L.getD i []).length
def jk (L:List (List Int)):Nat:=(L.map List.length).sum
theorem Qt:∀ (L L':List (List Int)),L.length=L'.length->(∀ i,mG L i<=mG L' i)->jk L<=jk L'/\((∃ i,mG L i<mG L' i)->jk L<jk L')
 | [],[],_,_=>⟨Nat.le_refl _,λ⟨i,h⟩=>absurd h (Nat.lt_irrefl _)⟩
 | a::L,b::L',ak,h=>by
  obtain ⟨h1,af⟩:=Qt L L' (by simpa using ak) λi=>by simpa [mG] using h (i+1)
  have aQ:a.length<=b.length:=by simpa [mG] using h 0
  have cv:jk (a::L)=a.length+jk L:=by simp [jk]
  have b9:jk (b::L')=b.length+jk L':=by simp [jk]
  rw [cv,b9];refine ⟨by omega,λ⟨i,hi⟩=>?_⟩;cases i with
  | zero =>
   have:a.length<b.length:=by simpa [mG] using hi
   omega
  | succ i =>
   have:=af ⟨i,by simpa [mG] using hi⟩;omega
def Sets (T:Nat) (L:List (List Int)):Prop:=∀ r∈L,jq T r
theorem Qs {T:Nat}:∀ {L:List (List Int)},Sets T L->jk L<=L.length * T
 | [],_=>by simp [jk]
 | a::L,h=>by
  have h1:=(h a (by simp)).len;have af:=Qs (L:=L) λr aq=>h r (by simp [aq]);have cv:jk (a::L)=a.length+jk L:=by simp [jk]
  rw [cv,List.length_cons,Nat.succ_mul]; omega
structure pe (T:Nat) (L L':List (List Int)):Prop where
 n:L'.length=L.length
 s:Sets T L'
 u:∀ i,mG L i<=mG L' i
theorem pe.refl {T:Nat}{L:List (List Int)}(h:Sets T L):pe T L L:=⟨rfl,h,λ_=>Nat.le_refl _⟩
theorem pe.trans {T:Nat}{A B C:List (List Int)}(h:pe T A B) (aR:pe T B C):pe T A C:=⟨aR.n.trans h.n,aR.s,λi=>Nat.le_trans (h.u i) (aR.u i)⟩
theorem pe.set {T:Nat}{L:List (List Int)}{k:Nat}{r dm:List Int}(aB:Sets T L) (hk:L[k]?=some r) (h:jq T dm) (ak:r.length<=dm.length):pe T L (L.set k dm):=by
 have fu:=(List.getElem?_eq_some_iff.1 hk).1;refine ⟨List.length_set ..,λx J=>?_,λi=>?_⟩
 ·rcases List.mem_or_eq_of_mem_set J with aR | aR
  ·exact aB x aR
  grind
 grind [mG]
theorem W0 {L:List (List Int)}{k:Nat}{r:List Int}(h:L[k]?=some r):mG L k=r.length:=by
 grind [mG]
theorem WY {α:Type}{l:List α}{i:Int}{y:α}(h:idx l i=some y):l[i.toNat]?=some y:=by
 grind [idx]
theorem Md (T:Nat) (dM:T<=1000) (a0 aD:List (List Int)) (aF:a0.length<=9600) (he:aD.length=a0.length) (aQ:Sets T a0) (h1:Sets a0.length aD):Tot (Al a0 aD) λr=>r.length=a0.length/\Sets T r:=by
 unfold Al;refine .aA (Ξ:=λr:List (List Int)=>r.length=a0.length/\Sets T r) ?_ λr aq=>.ao aq;have av:a0.length * T<=9600 * 1000:=Nat.mul_le_mul aF dM;refine Tot.loop (λs=>s.1.length=a0.length/\Sets T s.1) (λs=>2 * (a0.length * T - jk s.1)+s.2.toNat) ⟨rfl,aQ⟩ (by
  show 2 * (a0.length * T - jk _)+1<1000000000000000000;omega) λs aB=>?_
 obtain ⟨L,f⟩:=s;obtain ⟨ak,aB⟩:=aB;simp only at ak aB ⊢;refine Tot.bE (λaW=>?_) (λ_=>.ao ⟨ak,aB⟩);subst aW;refine .aA (Ξ:=λr:List (List Int) × Bool=>pe T L r.1/\(r.2=true->∃ i,mG L i<mG r.1 i)) ?_ λr aq=>?_
 ·refine Tot.upto (λs=>s.2.2) L.length (λ_ s=>pe T L s.1/\(s.2.1=true->∃ i,mG L i<mG s.1 i)) rfl (by omega) ⟨.refl aB,λh=>by cases h⟩ λk s hk ia bc=>?_;obtain ⟨C,f,i⟩:=s;obtain ⟨hu,sM⟩:=bc;simp only at ia hu sM ⊢;subst ia;rw [eB k (by omega)];have Oh:=hu.n;refine Tot.bp (λaT=>?_) (λdS=>.ao ⟨hu,sM⟩);have NS:k<C.length:=by omega
  have hg:k<aD.length:=by omega
  have aco:C[k]?=some C[k]:=List.getElem?_eq_getElem NS;have qo:=h1 _ (List.getElem_mem hg);rw [dV hg,dV NS];generalize aD[k]=row at *;generalize C[k]=nn at *;simp only [Option.bind_some];have l6:=qo.len;refine .aA (Ξ:=λD:List (List Int)=>pe T C D) ?_ λD hJ=>?_
  ·refine Tot.upto (λs=>s.2) row.length (λ_ s=>pe T C s.1) rfl (by omega) (.refl hu.s) λj s ah ia bc=>?_;obtain ⟨D,i⟩:=s;simp only at ia bc ⊢;subst ia;rw [eB j (by omega)];have Uf:=bc.n;refine Tot.bp (λaT=>?_) (λ_=>.ao bc);have aT:j<row.length:=by omega
   have ax:=qo.i _ (List.getElem_mem aT);rw [dV aT];generalize row[j]=y at *;simp only [Option.bind_some];refine .aA (Ξ:=λE:List (List Int)=>pe T C E) ?_ λE lf=>.ao ⟨aT,rfl,lf⟩;refine Tot.count (λs=>s.2) T (λs=>∃ n:Nat,s.2=(n:Int)/\pe T C s.1) ⟨0,rfl,bc⟩ (by show (T:Int) - 0<_; omega) λs aB=>?_;obtain ⟨E,i⟩:=s;obtain ⟨n,EH,lf⟩:=aB;simp only at EH lf ⊢;subst EH;have ab9:=lf.n;obtain ⟨z,aX,WV⟩:=oh (l:=E) (i:=y) ax.1 (by omega);have pK:=lf.s z WV;have vD:=pK.len;have IE:k<E.length:=by omega
   have Vs:E[k]?=some E[k]:=List.getElem?_eq_getElem IE;rw [aX];simp only [Option.bind_some];refine Tot.bp (λaT=>?_) (λ_=>.ao lf);have aT:n<z.length:=by omega
   rw [eB n (by omega),dV IE,dV aT];simp only [Option.bind_some];refine .aA ((lf.s _ (List.getElem_mem IE)).put (by omega) (pK.i _ (List.getElem_mem aT))) λdm ec=>.ao ⟨⟨n+1,rfl,?_⟩,by show (n:Int)<((n+1:Nat):Int); omega,by show ((n+1:Nat):Int)<=T; omega⟩;exact lf.trans (.set lf.s Vs ec.1 ec.2)
  ·have Uf:=hJ.n;have NT:k<D.length:=by omega
   have acp:D[k]?=some D[k]:=List.getElem?_eq_getElem NT;have zC:=hu.trans hJ;refine .aA (Ξ:=λc:Bool=>c=true->∃ i,mG L i<mG D i) ?_ λc aa=>.ao ⟨by omega,rfl,zC,aa⟩;refine Tot.bE (λaW=>.ao λ_=>?_) (λ_=>?_)
   ·obtain ⟨i,hi⟩:=sM aW;exact ⟨i,Nat.lt_of_lt_of_le hi (hJ.u i)⟩
   ·rw [dV NT];refine Tot.aV (.ao λh=>⟨k,?_⟩);have aI:=hJ.u k;have bF:=hu.u k
    grind [W0]
 ·obtain ⟨hu,aW⟩:=aq;have B1:=hu.n;obtain ⟨aI,bF⟩:=Qt L r.1 B1.symm hu.u;have cF:=Qs hu.s;rw [show r.1.length=a0.length by omega] at cF;refine .ao ⟨⟨by show r.1.length=_; omega,hu.s⟩,?_⟩;show 2 * (a0.length * T - jk r.1)+r.2.toNat<2 * (a0.length * T - jk L)+true.toNat;cases iP:r.2 with
  | false=>simp only [Bool.toNat_false,Bool.toNat_true]; omega
  | true =>
   grind
theorem mN.sym {g:bN}(aO:gz g) {m:List State}(hm:mN g m) {st:State}(b0:st∈m) {v:Move}(hv:v∈st.eW):0<=v.Sym/\(v.Sym<1000->v.Sym<g.ba.length)/\(1000<=v.Sym->v.Sym - 1000<g.b2.length):=by
 have aw:=aO.kE;rcases Xi.1 (hm.aZ st b0 v hv).s with h | h
 ·exact ⟨h.1,λ_=>h.2,λaR=>by omega⟩
 ·exact ⟨by omega,λaR=>by omega,λ_=>by omega⟩
theorem u3.go {g:bN}{m:List State}(hm:mN g m) {t:Trans}(h:u3 m t):Tot (rn m t.State t.fC) λr=>0<=r/\r<m.length:=by
 obtain ⟨st,v,h1,af,aI,_⟩:=h;exact (D_ m t.State t.fC hm.xN).use λr aq=>aq.yes hm h1 af aI
theorem P7 {T:Nat}{L:List (List Int)}{r:List Int}(h:Sets T L) (aq:jq T r):Sets T (L++[r]):=λx J=>by
 rcases List.mem_append.1 J with J | J
 ·exact h x J
 ·rw [List.mem_singleton.1 J]; exact aq
theorem Sq (g:bN) (aO:gz g) {m:List State}(hm:mN g m):Tot (C8 m) λr=>∃ dB,qD m=some dB/\wB m dB/\r.length=dB.length/\Sets g.ba.length r:=by
 have aw:=aO.kE;obtain ⟨dB,qg,iG⟩:=St hm;have xm:=iG.n;unfold C8;rw [qg];refine Tot.aV (.aA (Ξ:=λr:List (List Int)=>r.length=dB.length/\Sets g.ba.length r) ?_ λr aq=>.ao ⟨dB,rfl,iG,aq⟩);refine Tot.upto (λs=>s.2) dB.length (λk s=>s.1.length=k/\Sets g.ba.length s.1) rfl (by omega) ⟨rfl,λr h=>by cases h⟩ λk s hk he bc=>?_;obtain ⟨L,i⟩:=s;obtain ⟨h1,af⟩:=bc;simp only at he h1 af ⊢;subst he;rw [eB k (by omega)];refine Tot.bp (λaT=>?_) (λdS=>.ao ⟨by show L.length=_; omega,af⟩);have aT:k<dB.length:=by omega
 have ga:=iG.ok _ (List.getElem_mem aT);rw [dV aT];generalize dB[k]=t at *;simp only [Option.bind_some];refine .aA (ga.go hm) λto B7=>?_;obtain ⟨st,b0,nN⟩:=oh B7.1 B7.2;have di:=hm.qz st nN;have vq:=hm.xN st nN;rw [b0];simp only [Option.bind_some];refine .aA (R6 _ (by have:=di.len aO; omega)) λc _=>?_;refine .aA (Ξ:=jq g.ba.length) (Tot.bE (λ_=>?_) (λ_=>.ao .nil)) λAr zy=>?_
 ·refine .aA (Ξ:=λ_=>True) (Tot.ap (by simp [lim]) trivial) λ_ _=>.ao ⟨List.pairwise_singleton ..,λx J=>?_⟩;rw [List.mem_singleton.1 J]; omega
 refine .aA (Ξ:=jq g.ba.length) ?_ λr aq=>?_
 ·refine Tot.upto (λs=>s.2) st.eW.length (λk s=>jq g.ba.length s.1) rfl (by omega) zy λj s ah he bc=>?_;obtain ⟨r,i⟩:=s;simp only at he bc ⊢;subst he;rw [eB j (by omega)];refine Tot.bp (λaT=>?_) (λ_=>.ao bc);have aT:j<st.eW.length:=by omega
  have hv:=hm.sym aO nN (List.getElem_mem aT);rw [dV aT];generalize st.eW[j]=v at *;simp only [Option.bind_some];refine .aA (Ξ:=jq g.ba.length) ?_ λr aq=>.ao ⟨aT,rfl,aq⟩;refine .aA (Ξ:=jq g.ba.length) (Tot.bp (λh=>?_) (λ_=>.ao bc)) λr aq=>.ao aq;exact .aA (bc.put (by omega) ⟨hv.1,hv.2.1 h⟩) λr aq=>.ao aq.1
 ·refine .aA (Ξ:=λ_=>True) (Tot.ap (by simp [lim]; omega) trivial) λ_ _=>.ao ⟨aT,rfl,by simp; omega,P7 af aq⟩
theorem Sr (g:bN) (aO:gz g) {m:List State}(hm:mN g m) {dB:List Trans}(qg:qD m=some dB) (iG:wB m dB):Tot (C9 g m) λr=>r.length=dB.length/\Sets dB.length r:=by
 have aw:=aO.kE;have kx:=aO.dx;have xm:=iG.n;unfold C9;rw [qg];refine Tot.aV (.aA (L8 g aO) λB fg=>.aA (Ξ:=λr:List (List Int)=>r.length=dB.length/\Sets dB.length r) ?_ λr aq=>.ao aq);refine Tot.upto (λs=>s.2) dB.length (λk s=>s.1.length=k/\Sets dB.length s.1) rfl (by omega) ⟨rfl,λr h=>by cases h⟩ λk s hk he bc=>?_;obtain ⟨L,i⟩:=s;obtain ⟨h1,af⟩:=bc;simp only at he h1 af ⊢;subst he;rw [eB k (by omega)];refine Tot.bp (λaT=>?_) (λdS=>.ao ⟨by show L.length=_; omega,af⟩);have aT:k<dB.length:=by omega
 have ga:=iG.ok _ (List.getElem_mem aT);rw [dV aT];generalize dB[k]=t at *;simp only [Option.bind_some];refine .aA (ga.go hm) λto B7=>?_;obtain ⟨st,b0,nN⟩:=oh B7.1 B7.2;have qp:=WY b0;have vq:=hm.xN st nN;rw [b0];simp only [Option.bind_some];refine .aA (Ξ:=jq dB.length) ?_ λr aq=>?_
 ·refine Tot.upto (λs=>s.2) st.eW.length (λk s=>jq dB.length s.1) rfl (by omega) .nil λj s ah he bc=>?_;obtain ⟨r,i⟩:=s;simp only at he bc ⊢;subst he;rw [eB j (by omega)];refine Tot.bp (λaT=>?_) (λ_=>.ao bc);have aT:j<st.eW.length:=by omega
  have ET:=List.getElem_mem aT;have hv:=hm.sym aO nN ET;rw [dV aT];generalize st.eW[j]=v at *;simp only [Option.bind_some];refine .aA (Ξ:=jq dB.length) ?_ λr aq=>.ao ⟨aT,rfl,aq⟩;refine .aA (Ξ:=λc:Bool=>c=true->1000<=v.Sym) (Tot.bp (λh=>?_) (λ_=>.ao λh=>by cases h)) λc aa=>?_
  ·have hw:aJ (v.Sym - 1000)=v.Sym - 1000:=by
    have:=hv.2.2 h;rw [cB]; omega
   rw [hw];obtain ⟨b,av,_⟩:=oh (l:=B) (i:=v.Sym - 1000) (by omega) (by have:=hv.2.2 h; omega);rw [av];exact Tot.aV (.ao λ_=>h)
  ·refine .aA (Ξ:=jq dB.length) (Tot.bE (λh=>?_) (λ_=>.ao bc)) λr aq=>.ao aq;have vo:=iG.fE to.toNat st v qp ET (aa h);rw [show ((to.toNat:Nat):Int)=to by omega] at vo;refine .aA (A8 dB to v.Sym xm) λz aX=>?_;exact .aA (bc.put (by omega) ⟨aX.2.2 vo,aX.2.1⟩) λr aq=>.ao aq.1
 ·refine .aA (Ξ:=λ_=>True) (Tot.ap (by simp [lim]; omega) trivial) λ_ _=>.ao ⟨aT,rfl,by simp; omega,P7 af aq⟩
theorem Ss (g:bN) (aO:gz g) {m:List State}(hm:mN g m) {dB:List Trans}(qg:qD m=some dB) (iG:wB m dB):Tot (C_ g m) λr=>r.length=dB.length/\Sets dB.length r:=by
 have aw:=aO.kE;have kx:=aO.dx;have sR:=aO.hX;have xm:=iG.n;unfold C_;rw [qg];refine Tot.aV (.aA (L8 g aO) λB fg=>.aA (Ξ:=λr=>r=List.replicate dB.length ([]:List Int)) (Tot.mk (by simp [lim]; omega) (by simp)) λZR Up=>.aA (Ξ:=λr:List (List Int)=>r.length=dB.length/\Sets dB.length r) ?_ λr aq=>.ao aq);subst Up;have ZO:∀ {L:List (List Int)},(L.length=dB.length/\Sets dB.length L)->∀ {z:Int}{r dm:List Int},idx L z=some r->jq dB.length dm->(L.set z.toNat dm).length=dB.length/\Sets dB.length (L.set z.toNat dm):=λ{L} h_ {z r dm} _ ec=>⟨by rw [List.length_set]; exact h_.1,λx J=>by
  rcases List.mem_or_eq_of_mem_set J with aR | aR
  ·exact h_.2 x aR
  ·rw [aR]; exact ec⟩
 refine Tot.upto (λs=>s.2) dB.length (λk s=>s.1.length=dB.length/\Sets dB.length s.1) rfl (by omega) ⟨by simp,λr h=>by rw [List.eq_of_mem_replicate h]; exact .nil⟩ λk s hk he bc=>?_;obtain ⟨L,i⟩:=s;simp only at he bc ⊢;subst he;rw [eB k (by omega)];refine Tot.bp (λaT=>?_) (λdS=>.ao bc);have aT:k<dB.length:=by omega
 have ga:=iG.ok _ (List.getElem_mem aT);rw [dV aT];generalize dB[k]=t at *;simp only [Option.bind_some];refine .aA (Ξ:=λr:List (List Int)=>r.length=dB.length/\Sets dB.length r) ?_ λr aq=>.ao ⟨aT,rfl,aq⟩;refine Tot.upto (λs=>s.2) g.bh.length (λk s=>s.1.length=dB.length/\Sets dB.length s.1) rfl (by omega) bc λp s au he bc=>?_;obtain ⟨L,i⟩:=s;simp only at he bc ⊢;subst he;rw [eB p (by omega)];refine Tot.bp (λEG=>?_) (λdS=>.ao bc);have EG:p<g.bh.length:=by omega
 have nb:=List.getElem_mem EG;rw [dV EG];generalize g.bh[p]=q at *;have bg:=aO.hx q nb;have B1:=aO.aG q nb;have lN:=PG aO nb fg;simp only [Option.bind_some];refine .aA (Ξ:=λr:List (List Int)=>r.length=dB.length/\Sets dB.length r) ?_ λr aq=>.ao ⟨EG,rfl,aq⟩;refine Tot.bE (λ_=>.ao bc) (λ_=>.aA (Ξ:=λr:List (List Int)=>r.length=dB.length/\Sets dB.length r) ?_ λr aq=>.ao aq);refine Tot.upto (λs=>s.2) q.eu.length (λk s=>s.1.length=dB.length/\Sets dB.length s.1) rfl (by omega) bc λj s ah he bc=>?_;obtain ⟨L,i⟩:=s;simp only at he bc ⊢;subst he;rw [eB j (by omega)];refine Tot.bp (λeF=>?_) (λdS=>.ao bc);have eF:j<q.eu.length:=by omega
 rw [dV eF];generalize q.eu[j]=y at *;simp only [Option.bind_some];refine .aA (Ξ:=λr:List (List Int)=>r.length=dB.length/\Sets dB.length r) ?_ λr aq=>.ao ⟨eF,rfl,aq⟩;refine .aA (Ξ:=λ_=>True) (Tot.bp (λ_=>.ao trivial) (λ_=>?_)) λc _=>Tot.bE (λ_=>.ao bc) (λ_=>?_)
 ·refine .aA (Ξ:=λr=>r=q.eu.drop (j+1)) (Tot.sub ⟨by omega,by omega,by omega⟩ ?_) λr aq=>?_
  ·rw [List.take_of_length_le]
   ·congr 1
   ·rw [List.length_drop]; omega
  ·subst aq;exact .aA (L9 B _ (by rw [List.length_drop]; omega) (λs aB=>lN s (List.mem_of_mem_drop aB)) (by omega)) λ_ _=>.ao trivial
 refine .aA (Ξ:=λr=>r.length<=8) (Tot.sub ⟨by omega,by omega,by omega⟩ (by rw [List.length_take,List.length_drop]; omega)) λr aq=>?_;obtain ⟨st,_,b0,_⟩:=ga;have I0:=ng b0;refine .aA (Me hm t.State r ⟨by omega,I0.2.1⟩ (by omega)) λz aX=>?_;refine .aA (Ξ:=λr:List (List Int)=>r.length=dB.length/\Sets dB.length r) (Tot.bE (λ_=>?_) (λ_=>.ao bc)) λr aq=>.ao aq;refine .aA (A8 dB z y xm) λn aF=>?_;refine .aA (Ξ:=λr:List (List Int)=>r.length=dB.length/\Sets dB.length r) (Tot.bp (λaQ=>?_) (λ_=>.ao bc)) λr aq=>.ao aq;obtain ⟨Ar,zy,zA⟩:=oh (l:=L) aQ (by rw [bc.1]; exact aF.2.1);rw [zy];refine Tot.aV (.aA ((bc.2 Ar zA).put (by omega) ⟨by omega,by omega⟩) λdm ec=>.ao (ZO bc zy ec.1))
theorem Sh (g:bN) (aO:gz g) {m:List State}(hm:mN g m):Tot (Aj g m) λr=>∃ dB,qD m=some dB/\wB m dB/\r.length=dB.length/\Sets g.ba.length r:=by
 have aw:=aO.kE;unfold Aj;refine .aA (Sq g aO hm) λwa h1=>?_;obtain ⟨dB,qg,iG,II,xl⟩:=h1;have xm:=iG.n;refine .aA (Sr g aO hm qg iG) λlu af=>.aA (Md g.ba.length (by omega) wa lu (by omega) (by omega) xl (by rw [II]; exact af.2)) λAs aI=>?_;refine .aA (Ss g aO hm qg iG) λyd bF=>.aA (Md g.ba.length (by omega) As yd (by omega) (by omega) aI.2 (by rw [aI.1,II]; exact bF.2)) λDg cF=>?_;exact .ao ⟨dB,qg,iG,by omega,cF.2⟩
def qX (g:bN) (p:Int):Prop:=0<p/\p<g.bh.length
theorem A' (g:bN) (aO:gz g) (K:List Item) (ak:K.length<=1000000):Tot (C0 g K) λr=>r.length<=540/\∀ p∈r,qX g p:=by
 unfold C0;refine .aA (Hj g aO K ak) λc aa=>?_;have hf:=tA aO aa.1 λx J=>((aa.2 x).1 J).jg;refine .aA (Ξ:=λr:List Int=>r.length<=540/\∀ p∈r,qX g p) ?_ λr aq=>.ao aq;refine Tot.upto (λs=>s.2) c.length (λk s=>s.1.length<=k/\∀ p∈s.1,qX g p) rfl (by omega) ⟨Nat.le_refl 0,λp h=>by cases h⟩ λk s hk he bc=>?_;obtain ⟨L,i⟩:=s;obtain ⟨h1,af⟩:=bc;simp only at he h1 af ⊢;subst he;rw [eB k (by omega)];refine Tot.bp (λaT=>?_) (λdS=>.ao ⟨by show L.length<=_; omega,af⟩);have aT:k<c.length:=by omega
 have hi:=((aa.2 _).1 (List.getElem_mem aT)).jg;rw [dV aT];generalize c[k]=x at *;obtain ⟨q,bg,aI,bF⟩:=hi;simp only [Option.bind_some];refine .aA (Ξ:=λL:List Int=>L.length<=k+1/\∀ p∈L,qX g p) ?_ λr aq=>.ao ⟨aT,rfl,aq⟩;refine .aA (Ξ:=λc:Bool=>c=true->0<x.Prod) (Tot.bp (λh=>?_) (λ_=>.ao λh=>by cases h)) λc aa=>?_
 ·rw [bg]; exact Tot.aV (.ao λ_=>h)
 refine .aA (Ξ:=λL:List Int=>L.length<=k+1/\∀ p∈L,qX g p) (Tot.bE (λh=>?_) (λ_=>.ao ⟨by omega,af⟩)) λr aq=>.ao aq;refine .aA (Ξ:=λ_=>True) (Tot.ap (by simp [lim]; omega) trivial) λ_ _=>.ao ⟨by simp; omega,λp au=>?_⟩;rcases List.mem_append.1 au with au | au
 ·exact af p au
 ·rw [List.mem_singleton.1 au]; exact ⟨aa h,(ng bg).2.1⟩
theorem Si (g:bN) (aO:gz g) {m:List State}(hm:mN g m) {dB:List Trans}(qg:qD m=some dB) (iG:wB m dB) (q p:Int):Tot (C1 g m q p) λr=>r.length<=9600/\∀ x∈r,0<=x/\x<dB.length:=by
 have xm:=iG.n;have sR:=aO.hX;have kx:=aO.dx;unfold C1;refine .aA (Ξ:=λc:Bool=>c=false->0<=p/\p<g.bh.length) (Tot.bp (λ_=>.ao λh=>by cases h) (λ_=>Tot.bp (λ_=>.ao λh=>by cases h) (λ_=>Tot.bp (λ_=>.ao λh=>by cases h) (λh=>.ao λaR=>by have:=of_decide_eq_false aR; omega)))) λc aa=>Tot.bE (λ_=>.ao ⟨Nat.zero_le _,λx h=>by cases h⟩) (λh=>?_);obtain ⟨aQ,h1⟩:=aa h;rw [qg];refine Tot.aV ?_;refine .aA (Ξ:=λr:List Int=>r.length<=9600/\∀ x∈r,0<=x/\x<dB.length) ?_ λr aq=>.ao aq;obtain ⟨hx,EM,VV⟩:=oh aQ h1;have B1:=aO.aG hx VV;refine Tot.upto (λs=>s.2) dB.length (λk s=>s.1.length<=k/\∀ x∈s.1,0<=x/\x<dB.length) rfl (by omega) ⟨Nat.le_refl 0,λp h=>by cases h⟩ λk s hk he bc=>?_;obtain ⟨L,i⟩:=s;obtain ⟨af,aI⟩:=bc;simp only at he af aI ⊢;subst he;rw [eB k (by omega)];refine Tot.bp (λaT=>?_) (λdS=>.ao ⟨by show L.length<=_; omega,aI⟩);have aT:k<dB.length:=by omega
 have ga:=iG.ok _ (List.getElem_mem aT);rw [dV aT,EM];generalize dB[k]=t at *;obtain ⟨st,_,b0,_⟩:=ga;have I0:=ng b0;simp only [Option.bind_some];refine .aA (Ξ:=λL:List Int=>L.length<=k+1/\∀ x∈L,0<=x/\x<dB.length) ?_ λr aq=>.ao ⟨aT,rfl,aq⟩;refine .aA (Ξ:=λ_=>True) (Tot.bp (λh=>?_) (λ_=>.ao trivial)) λc aa=>?_
 ·exact .aA (Me hm t.State hx.eu ⟨by omega,I0.2.1⟩ (by omega)) λ_ _=>.ao trivial
 refine .aA (Ξ:=λL:List Int=>L.length<=k+1/\∀ x∈L,0<=x/\x<dB.length) (Tot.bE (λh=>?_) (λ_=>.ao ⟨by omega,aI⟩)) λr aq=>.ao aq;refine .aA (Ξ:=λ_=>True) (Tot.ap (by simp [lim]; omega) trivial) λ_ _=>.ao ⟨by simp; omega,λp au=>?_⟩;rcases List.mem_append.1 au with au | au
 ·exact aI p au
 ·rw [List.mem_singleton.1 au]; exact ⟨by omega,by omega⟩
structure yS (g:bN) (l:k8):Prop where
 p:qX g l.Prod
 t:jq g.ba.length l.ba
theorem Sc (g:bN) (aO:gz g) {m:List State}(hm:mN g m):Tot (CY g m) λr=>r.length<=81000/\∀ l∈r,yS g l:=by
 have aw:=aO.kE;have xi:=hm.nm;unfold CY;refine .aA (Sh g aO hm) λF aN=>?_;obtain ⟨dB,qg,iG,ab_,jL⟩:=aN;have xm:=iG.n;refine .aA (Ξ:=λr:List k8=>r.length<=81000/\∀ l∈r,yS g l) ?_ λr aq=>.ao aq;refine Tot.upto (λs=>s.2) m.length (λk s=>s.1.length<=540 * k/\∀ l∈s.1,yS g l) rfl (by omega) ⟨Nat.le_refl 0,λp h=>by cases h⟩ λk s hk he bc=>?_;obtain ⟨L,i⟩:=s;obtain ⟨h1,af⟩:=bc;simp only at he h1 af ⊢;subst he;rw [eB k (by omega)];refine Tot.bp (λaT=>?_) (λdS=>.ao ⟨by show L.length<=_; omega,af⟩);have aT:k<m.length:=by omega
 have di:=hm.qz _ (List.getElem_mem aT);rw [dV aT];generalize m[k]=st at *;refine Tot.aV (.aA (A' g aO st.Kernel (by have:=di.len aO; omega)) λE lf=>?_);obtain ⟨ab8,Uh⟩:=lf;refine .aA (Ξ:=λL:List k8=>L.length<=540 * (k+1)/\∀ l∈L,yS g l) ?_ λr aq=>.ao ⟨aT,rfl,aq⟩;refine Tot.upto (λs=>s.2) E.length (λj s=>s.1.length<=540 * k+j/\∀ l∈s.1,yS g l) rfl (by omega) ⟨h1,af⟩ λj s ah he bc=>?_;obtain ⟨L,i⟩:=s;obtain ⟨h1,af⟩:=bc;simp only at he h1 af ⊢;subst he;rw [eB j (by omega)];refine Tot.bp (λeF=>?_) (λdS=>.ao ⟨by show L.length<=_; omega,af⟩);have eF:j<E.length:=by omega
 have au:=Uh _ (List.getElem_mem eF);rw [dV eF];generalize E[j]=p at *;simp only [Option.bind_some];refine .aA (Si g aO hm qg iG k p) λB fg=>?_;obtain ⟨ab5,Ud⟩:=fg;refine .aA (Ξ:=jq g.ba.length) ?_ λS bj=>?_
 ·refine Tot.upto (λs=>s.2) B.length (λ_ s=>jq g.ba.length s.1) rfl (by omega) .nil λb s av he bc=>?_;obtain ⟨S,i⟩:=s;simp only at he bc ⊢;subst he;rw [eB b (by omega)];refine Tot.bp (λzu=>?_) (λdS=>.ao bc);have zu:b<B.length:=by omega
  have J:=Ud _ (List.getElem_mem zu);rw [dV zu];generalize B[b]=x at *;obtain ⟨row,qo,zA⟩:=oh (l:=F) J.1 (by omega);have l7:=jL row zA;have l6:=l7.len;simp only [Option.bind_some,qo];refine .aA (Ξ:=jq g.ba.length) ?_ λS bj=>.ao ⟨zu,rfl,bj⟩;refine Tot.upto (λs=>s.2) row.length (λ_ s=>jq g.ba.length s.1) rfl (by omega) bc λz s aX he bc=>?_;obtain ⟨S,i⟩:=s;simp only at he bc ⊢;subst he;rw [eB z (by omega)];refine Tot.bp (λqm=>?_) (λdS=>.ao bc);have qm:z<row.length:=by omega
  rw [dV qm];exact Tot.aV (.aA (bc.put (by omega) (l7.i _ (List.getElem_mem qm))) λr aq=>.ao ⟨qm,rfl,aq.1⟩)
 ·refine .aA (Ξ:=λ_=>True) (Tot.ap (by simp [lim]; omega) trivial) λ_ _=>.ao ⟨eF,rfl,by simp; omega,λl ak=>?_⟩;rcases List.mem_append.1 ak with ak | ak
  ·exact af l ak
  ·rw [List.mem_singleton.1 ak]; exact ⟨au,bj⟩
def oq (c:Cell):Nat:=c.bh.length+(if 0<=c.j7 then 1 else 0)+(if c.lW then 1 else 0)
theorem Zh {x:Option Int}{c:Cell}(ak:c.bh.length<=1000) (e:x=(((bif decide (0<=c.j7) then
some (aJ ((c.bh.length:Int)+1))
else
some (c.bh.length:Int))).bind λjv =>
((bif c.lW then
some (aJ (jv+1))
else
some jv)).bind λix =>
some ix)):x=some (oq c:Int):=by
 subst e;have hw:aJ ((c.bh.length:Int)+1)=(c.bh.length:Int)+1:=by rw [cB]; omega
 have Wo:aJ ((c.bh.length:Int)+1+1)=(c.bh.length:Int)+1+1:=by rw [cB]; omega
 unfold oq;by_cases h:0<=c.j7
 ·cases af:c.lW <;> simp [h,hw,Wo]
 ·cases af:c.lW <;> simp [h,hw]
theorem Mv (c:Cell) (ak:c.bh.length<=1000):Af c=some (oq c:Int):=Zh ak (by unfold Af; rfl)
structure o' (g:bN) (n:Nat) (c:Cell):Prop where
 s:0<=c.State/\c.State<n
 t:0<=c.bX/\c.bX<g.ba.length
 f:-1<=c.j7/\c.j7<n
 p:fR iT c.bh
 q:∀ p∈c.bh,qX g p
 Zd:0<oq c
theorem o'.len {g:bN}(aO:gz g) {n:Nat}{c:Cell}(h:o' g n c):c.bh.length<=60:=by
 have:=aO.hX;have:=jq.len (T:=g.bh.length) ⟨h.p,λx J=>⟨by have:=(h.q x J).1; omega,(h.q x J).2⟩⟩;omega
def yG (a b:Cell):Prop:=a.State<b.State\/(a.State=b.State/\a.bX<b.bX)
structure AN (g:bN) (n:Nat) (l:List Cell):Prop where
 ok:∀ c∈l,o' g n c
 ac5:l.Pairwise yG
 n:l.length<=6000
theorem A9 (g:bN) (aO:gz g) {m:List State}(hm:mN g m) (qA:List k8) (ak:qA.length<=81000) (hk:∀ l∈qA,yS g l):Tot (CX g m qA) (AN g m.length):=by
 have aw:=aO.kE;have xi:=hm.nm;have sR:=aO.hX;unfold CX;refine .aA (Ξ:=AN g m.length) ?_ λr aq=>.ao aq;refine Tot.upto (λs=>s.2) m.length (λk s=>s.1.length<=40 * k/\(∀ c∈s.1,o' g m.length c)/\s.1.Pairwise yG/\∀ c∈s.1,c.State<k) rfl (by omega) ⟨Nat.le_refl 0,λp h=>(by cases h),.nil,λp h=>by cases h⟩ λk s ud he bc=>?_;obtain ⟨L,i⟩:=s;obtain ⟨h1,af,aI,bF⟩:=bc;simp only at he h1 af aI bF ⊢;subst he;rw [eB k (by omega)];refine Tot.bp (λaT=>?_) (λdS=>.ao ⟨af,aI,by show L.length<=_; omega⟩);have aT:k<m.length:=by omega
 have di:=hm.qz _ (List.getElem_mem aT);rw [dV aT];generalize m[k]=st at *;have acb:=di.len aO;refine .aA (Ξ:=λL:List Cell=>L.length<=40 * (k+1)/\(∀ c∈L,o' g m.length c)/\L.Pairwise yG/\∀ c∈L,c.State<(k+1:Nat)) ?_ λr aq=>.ao ⟨aT,rfl,aq⟩;refine Tot.upto (λs=>s.2) g.ba.length (λj s=>s.1.length<=40 * k+j/\(∀ c∈s.1,o' g m.length c)/\s.1.Pairwise yG/\∀ c∈s.1,c.State<k\/(c.State=k/\c.bX<j)) rfl (by omega) ⟨h1,af,aI,λc aa=>.inl (bF c aa)⟩ λj s ah he bc=>?_;obtain ⟨L,i⟩:=s;obtain ⟨h1,af,aI,bF⟩:=bc;simp only at he h1 af aI bF ⊢;subst he;rw [eB j (by omega)];refine Tot.bp (λeF=>?_) (λdS=>.ao ⟨by show L.length<=_; omega,af,aI,λc aa=>by rcases bF c aa with h | h <;> omega⟩);refine .aA (Ξ:=λL:List Cell=>L.length<=40 * k+(j+1)/\(∀ c∈L,o' g m.length c)/\L.Pairwise yG/\∀ c∈L,c.State<k\/(c.State=k/\c.bX<(j+1:Nat))) ?_ λr aq=>.ao ⟨by omega,rfl,aq⟩;refine .aA (D_ m k j hm.xN) λeR V9=>?_;have V_:=V9.aM hm;refine .aA (Ξ:=λ_=>True) ?_ λac _=>?_
 ·refine Tot.upto (λs=>s.2) st.Kernel.length (λ_ _=>True) rfl (by omega) trivial λz s aX he _=>?_;obtain ⟨b,i⟩:=s;simp only at he ⊢;subst he;rw [eB z (by omega)];simp only [Option.bind_some];refine Tot.bp (λqm=>?_) (λ_=>.ao trivial);have qm:z<st.Kernel.length:=by omega
  rw [dV qm];simp only [Option.bind_some];refine .aA (Ξ:=λ_=>True) (Tot.bE (λ_=>.ao trivial) (λ_=>Tot.bp (λ_=>Tot.bp (λ_=>.ao trivial) (λ_=>.ao trivial)) (λ_=>.ao trivial))) λ_ _=>.ao ⟨qm,rfl,trivial⟩
 refine .aA (Ξ:=λP:List Int=>fR iT P/\∀ p∈P,qX g p) ?_ λP cn=>?_
 ·refine Tot.upto (λs=>s.2) qA.length (λ_ s=>fR iT s.1/\∀ p∈s.1,qX g p) rfl (by omega) ⟨.nil,λp h=>by cases h⟩ λz s aX he bc=>?_;obtain ⟨P,i⟩:=s;obtain ⟨g1,g2⟩:=bc;simp only at he g1 g2 ⊢;subst he;rw [eB z (by omega)];refine Tot.bp (λqm=>?_) (λdS=>.ao ⟨g1,g2⟩);have qm:z<qA.length:=by omega
  have h_:=hk _ (List.getElem_mem qm);rw [dV qm];generalize qA[z]=l at *;have We:=h_.t.len;have Ux:=jq.len (T:=g.bh.length) ⟨g1,λx J=>⟨by have:=(g2 x J).1; omega,(g2 x J).2⟩⟩;simp only [Option.bind_some];refine .aA (Ξ:=λP:List Int=>fR iT P/\∀ p∈P,qX g p) ?_ λr aq=>.ao ⟨qm,rfl,aq⟩;refine .aA (Ξ:=λ_=>True) (Tot.bp (λ_=>.aA (Ma l.ba j (by omega)) λ_ _=>.ao trivial) (λ_=>.ao trivial)) λc _=>?_;refine .aA (Ξ:=λP:List Int=>fR iT P/\∀ p∈P,qX g p) (Tot.bE (λ_=>?_) (λ_=>.ao ⟨g1,g2⟩)) λr aq=>.ao aq;refine .aA (D' P l.Prod g1 (by omega)) λr aq=>.ao ⟨aq.1,λp au=>?_⟩;rcases (aq.2.2 p).1 au with h | rfl
  ·exact g2 p h
  ·exact h_.p
 ·have Ux:=jq.len (T:=g.bh.length) ⟨cn.1,λx J=>⟨by have:=(cn.2 x J).1; omega,(cn.2 x J).2⟩⟩;rw [Mv _ (by show P.length<=_; omega)];refine Tot.aV (.aA (Ξ:=λL:List Cell=>L.length<=40 * k+(j+1)/\(∀ c∈L,o' g m.length c)/\L.Pairwise yG/\∀ c∈L,c.State<k\/(c.State=k/\c.bX<(j+1:Nat))) (Tot.bp (λaQ=>?_) (λ_=>.ao ⟨by omega,af,aI,λc aa=>by rcases bF c aa with h | h <;> omega⟩)) λr aq=>.ao aq);refine .aA (Ξ:=λ_=>True) (Tot.ap (by simp [lim]; omega) trivial) λ_ _=>.ao ⟨by simp; omega,λc aa=>?_,List.pairwise_append.2 ⟨aI,List.pairwise_singleton ..,λa aP b av=>?_⟩,λc aa=>?_⟩
  ·rcases List.mem_append.1 aa with aa | aa
   ·exact af c aa
   ·rw [List.mem_singleton.1 aa];exact ⟨⟨by show (0:Int)<=k; omega,by show (k:Int)<_; omega⟩,⟨by show (0:Int)<=j; omega,by show (j:Int)<_; omega⟩,V_,cn.1,cn.2,by omega⟩
  ·rw [List.mem_singleton.1 av];rcases bF a aP with h | h
   ·exact .inl h
   ·exact .inr h
  ·rcases List.mem_append.1 aa with aa | aa
   ·rcases bF c aa with h | h
    ·exact .inl h
    ·exact .inr ⟨h.1,by omega⟩
   ·rw [List.mem_singleton.1 aa];exact .inr ⟨rfl,by show (j:Int)<_; omega⟩
open Go Go.Own
theorem iK.Xj {m:fJ}{T L:Nat}(h:iK m T L):k9 m (3+T) m.cb.length 0 0 :=
 ⟨h.gD,h.lo,h.hi,by have:=h.ty; omega,rfl,by rw [h.hB]; decide,by rw [h.hx]; exact Nat.le_refl 0,by rw [h.hx]; exact λp au=>absurd au (by simp),h.lvl,h.jy⟩
theorem t77 (s:Source) (av:rL s):Tot (v' s) λr=>r.2.1=0->gz r.1:=by
 unfold v';refine .aA (t103 s av) λc aa=>Tot.bE (λ_=>.ao λh=>absurd h (by decide)) (λiq=>?_);have ok:Lu s:=aa (by simpa using iq);refine .aA (Tot.mk (by decide) (rfl:List.replicate (3:Int).toNat false=List.replicate (3:Int).toNat false)) λa7 jV=>?_;have Vk:=av.ze;have B1:=av.aG
 -- declarations
 refine Tot.aA (Ξ:=λr=>iK r.1 (1001 * 1000) 0) ?_ λbS cF=>?_
 ·refine Tot.count (λz=>z.2.2) s.Decls.length (λz=>0<=z.2.2/\z.2.2<=s.Decls.length/\iK z.1 (1001 * z.2.2.toNat) 0/\z.1.cq<=z.2.2) ⟨Int.le_refl 0,by show (0:Int)<=_; omega,⟨by show a7.length=3; rw [<- jV]; rfl,Nat.le_refl 3,Nat.le_refl 3,Nat.le_refl 0,Nat.le_refl 0,rfl,rfl,Int.le_refl 0,by show ∀ t∈[_,_,_],0<=bX.Level t; simp⟩,Int.le_refl 0⟩ (by show (s.Decls.length:Int) - 0<_; omega) λz aX=>?_;obtain ⟨m,st,i⟩:=z;obtain ⟨aQ,h1,hm,pB⟩:=aX;simp only at aQ h1 hm pB ⊢;have hw:aJ (i+1)=i+1:=by rw [cB]; omega
  rw [hw];have IH:=hm.lvl;refine Tot.bp (λaT=>?_) (λ_=>.ao (hm.mono (by omega) (Nat.le_refl _)));refine .aA (Tot.hp (Φ:=λy=>y∈s.Decls) aQ aT λy _ ax=>ax) λd aS=>?_;have hJ:=av.decls d aS;have zp:=hJ.n;refine .aA (Ξ:=λ_=>True) (Tot.bE (λ_=>.ao trivial) (λ_=>.ao trivial)) λim _=>.aA (Ξ:=λj=>0<=j/\j<=i+1) (Tot.bE (λ_=>.ao (by rw [cB]; omega)) (λ_=>.ao (by omega))) λjw zi=>?_;refine Tot.aA (Ξ:=λr=>iK r.1 (1001 * i.toNat+1000) 0/\r.1.cq<=i+1) ?_ λed sH=>.ao ⟨⟨?_,?_,?_,?_⟩,?_,?_⟩
  ·refine Tot.count (λz=>z.2.2) d.eN.length (λz=>0<=z.2.2/\z.2.2<=d.eN.length/\iK z.1 (1001 * i.toNat+z.2.2.toNat) 0/\z.1.cq<=i+1) ⟨Int.le_refl 0,by show (0:Int)<=_; omega,⟨hm.gD,hm.lo,hm.hi,hm.ty,hm.fv,hm.hx,hm.hB,zi.1,hm.jy⟩,zi.2⟩ (by show (d.eN.length:Int) - 0<_; omega) λz aX=>?_;obtain ⟨m,st,k⟩:=z;obtain ⟨g0,g1,hm,pB⟩:=aX;simp only at g0 g1 hm pB ⊢;have qq:aJ (k+1)=k+1:=by rw [cB]; omega
   rw [qq];refine Tot.bp (λra=>?_) (λ_=>.ao ⟨hm.mono (by omega) (Nat.le_refl _),pB⟩);have E7:Tot (idx d.eN k) λy=>y∈d.eN:=Tot.hp g0 ra λy _ ax=>ax;refine Tot.aA (Ξ:=λj=>iK j.1 (1001 * i.toNat+k.toNat+1) 0/\j.1.cq<=i+1) ?_ λj ah=>.ao ⟨⟨?_,?_,?_,ah.2⟩,?_,?_⟩
   ·refine Tot.bE (λ_=>?_) (λ_=>?_)
    ·refine .aA E7 λx J=>.aA (t104 m d x hm.gD (by have:=hm.hi; omega) (by have:=hm.ty; omega) (ok.decls d aS x J)) λm' aO=>.ao ⟨hm.grow aO,by show m'.cq<=_; rw [aO.lvl]; exact pB⟩
    ·refine Tot.aA (Ξ:=λj=>iK j (1001 * i.toNat+k.toNat+1) 0/\j.cq<=i+1) ?_ λj ah=>.aA E7 λ_ _=>.ao ah;refine Tot.bE (λ_=>?_) (λ_=>.ao ⟨hm.mono (by omega) (Nat.le_refl _),pB⟩);exact .aA E7 λ_ _=>.aA E7 λ_ _=>.aA (t105 m _ _) λm' ir=>.ao ⟨(hm.same ir.1).mono (by omega) (Nat.le_refl _),by rw [ir.1.jy]; exact pB⟩
   ·show 0<=k+1; omega
   ·show k+1<=(d.eN.length:Int); omega
   ·show iK j.1 (1001 * i.toNat+(k+1).toNat) 0;exact ah.1.mono (by omega) (Nat.le_refl _)
   ·show k<k+1; omega
   ·show k+1<=(d.eN.length:Int); omega
  ·show 0<=i+1; omega
  ·show i+1<=(s.Decls.length:Int); omega
  ·show iK ed.1 (1001 * (i+1).toNat) 0;exact sH.1.mono (by omega) (Nat.le_refl _)
  ·exact sH.2
  ·show i<i+1; omega
  ·show i+1<=(s.Decls.length:Int); omega
 -- what stands on the left
 refine Tot.aA (Ξ:=λr=>iK r (1001 * 1000) 1000) ?_ λcW HP=>?_
 ·refine Tot.count (λz=>z.2) s.dG.length (λz=>0<=z.2/\z.2<=s.dG.length/\iK z.1 (1001 * 1000) z.2.toNat) ⟨Int.le_refl 0,by show (0:Int)<=_; omega,cF⟩ (by show (s.dG.length:Int) - 0<_; omega) λz aX=>?_;obtain ⟨m,i⟩:=z;obtain ⟨aQ,h1,hm⟩:=aX;simp only at aQ h1 hm ⊢;have hw:aJ (i+1)=i+1:=by rw [cB]; omega
  rw [hw];refine Tot.bp (λaT=>?_) (λ_=>.ao (hm.mono (Nat.le_refl _) (by omega)));have vn:=hm.hi;have vp:=hm.fv;refine Tot.aA (Ξ:=λj=>iK j (1001 * 1000) (i.toNat+1)) ?_ λj ah=>.ao ⟨⟨?_,?_,?_⟩,?_,?_⟩
  ·refine .aA (Tot.hp (Φ:=λ_=>True) aQ aT λy _ ax=>trivial) λr aq=>.aA (t106 m _ (by simp only [dL]; omega)) λt _=>?_;refine Tot.aA (Ξ:=λj=>iK j (1001 * 1000) i.toNat) ?_ λiR po=>?_
   ·exact Tot.bE (λ_=>.aA (t105 m _ _) λm' ir=>.ao (hm.same ir.1)) (λ_=>.ao hm)
   ·have acF:=po.fv;refine .aA (t107 iR _ (by simp only [dL]; omega)) λk _=>?_;refine Tot.aA (Ξ:=λl=>l.length<=i.toNat+1) ?_ λl ak=>.ao ⟨po.gD,po.lo,po.hi,po.ty,ak,po.hx,po.hB,po.lvl,po.jy⟩;refine Tot.bE (λ_=>?_) (λ_=>.ao (by omega));exact .aA (Ξ:=λ_=>True) (Tot.ap (by simp [lim]; omega) trivial) λ_ _=>.ao (by simp; omega)
  ·show 0<=i+1; omega
  ·show i+1<=(s.dG.length:Int); omega
  ·show iK j (1001 * 1000) (i+1).toNat;exact ah.mono (Nat.le_refl _) (by omega)
  ·show i<i+1; omega
  ·show i+1<=(s.dG.length:Int); omega
 -- types and starts
 refine Tot.aA (Ξ:=λr=>iK r (1001 * 1000) 1000) ?_ λhj tM=>?_
 ·refine Tot.count (λz=>z.2) s.Decls.length (λz=>0<=z.2/\z.2<=s.Decls.length/\iK z.1 (1001 * 1000) 1000) ⟨Int.le_refl 0,by show (0:Int)<=_; omega,HP⟩ (by show (s.Decls.length:Int) - 0<_; omega) λz aX=>?_;obtain ⟨m,i⟩:=z;obtain ⟨aQ,h1,hm⟩:=aX;simp only at aQ h1 hm ⊢;have hw:aJ (i+1)=i+1:=by rw [cB]; omega
  rw [hw];refine Tot.bp (λaT=>?_) (λ_=>.ao hm);refine Tot.aA (Ξ:=λr=>iK r (1001 * 1000) 1000) ?_ λow TV=>.ao ⟨⟨?_,?_,TV⟩,?_,?_⟩
  ·have m_:i.toNat<s.Decls.length:=by omega
   have hi:idx s.Decls i=some s.Decls[i.toNat]:=by simp [idx,aQ,m_]
   rw [hi];generalize aS:s.Decls[i.toNat]=d;have jU:d∈s.Decls:=by rw [<- aS]; exact List.getElem_mem m_
   have zp:=(av.decls d jU).n;refine Tot.count (λz=>z.2) d.eN.length (λz=>0<=z.2/\z.2<=d.eN.length/\iK z.1 (1001 * 1000) 1000) ⟨Int.le_refl 0,by show (0:Int)<=_; omega,hm⟩ (by show (d.eN.length:Int) - 0<_; omega) λz aX=>?_;obtain ⟨m,k⟩:=z;obtain ⟨g0,g1,hm⟩:=aX;simp only at g0 g1 hm ⊢;have qq:aJ (k+1)=k+1:=by rw [cB]; omega
   rw [qq];refine Tot.aV (Tot.bp (λra=>?_) (λ_=>.ao hm));have vp:=hm.fv;refine Tot.aA (Ξ:=λj=>iK j (1001 * 1000) 1000) ?_ λj ah=>.ao ⟨⟨?_,?_,ah⟩,?_,?_⟩
   ·refine Tot.aV (.aA (Tot.hp (Φ:=λ_=>True) g0 ra λ_ _ _=>trivial) λx _=>?_);refine .aA (Ξ:=λ_=>True) (Tot.aV (Tot.bE (λ_=>.aA (t107 m _ (by simp only [dL]; omega)) λ_ _=>.ao trivial) (λ_=>.ao trivial))) λc _=>?_;refine Tot.aA (Ξ:=λj=>iK j (1001 * 1000) 1000) ?_ λj ah=>.ao ah;exact Tot.bE (λ_=>.aA (t105 m _ _) λm' ir=>.ao (hm.same ir.1)) (λ_=>.ao hm)
   ·show 0<=k+1; omega
   ·show k+1<=(d.eN.length:Int); omega
   ·show k<k+1; omega
   ·show k+1<=(d.eN.length:Int); omega
  ·show 0<=i+1; omega
  ·show i+1<=(s.Decls.length:Int); omega
  ·show i<i+1; omega
  ·show i+1<=(s.Decls.length:Int); omega
 -- the start
 have sS:=ok.pos;refine Tot.aA (Ξ:=λ_=>True) (Tot.bE (λ_=>.aA (Ξ:=λ_=>True) (Tot.hp (by decide) (by omega) λ_ _ _=>trivial) λ_ _=>.ao trivial) (λ_=>.ao trivial)) λxE _=>?_;have acI:=tM.fv;refine .aA (t107 hj xE (by simp only [dL]; omega)) λmL q9=>?_;have T2:-1<=mL/\mL<hj.cb.length:=by rcases q9 with h | h <;> omega
 -- the alternatives
 have h_:hj.cb.length<=1000:=tM.fv;generalize Uq:hj.cb.length=L at h_ T2;refine Tot.aA (Ξ:=λr=>k9 r (3+1001 * 1000+1001 * 1000000) L (1001 * 1000000) (1+1001 * 1000000)/\1<=r.aH.bh.length) ?_ λbu T3=>?_
 ·have ue:=tM.Xj;rw [Uq] at ue;refine Tot.count (λz=>z.2) s.dG.length (λz=>0<=z.2/\z.2<=s.dG.length/\k9 z.1 (3+1001 * 1000+1001 * (1000 * z.2.toNat)) L (1001 * (1000 * z.2.toNat)) (1+1001 * (1000 * z.2.toNat))/\1<=z.1.aH.bh.length) ⟨Int.le_refl 0,by show (0:Int)<=_; omega,⟨ue.gD,ue.lo,ue.hi,ue.ty,ue.fv,ue.hB,Nat.le_refl 1,λp au=>?_,ue.lvl,ue.jy⟩,Nat.le_refl 1⟩ (by show (s.dG.length:Int) - 0<_; omega) λz aX=>?_
  ·rw [List.mem_singleton.1 au];have acs:=tM.hB;have l5:=tM.lo;refine ⟨⟨Int.le_refl 0,by show (0:Int)<=L+hj.b_; omega⟩,λy ax=>?_,⟨by show (-1:Int)<=-1; omega,by show (-1:Int)<_; omega⟩⟩;have ax:y∈[aJ (1001+mL)]:=ax;rw [List.mem_singleton.1 ax];have:aJ (1001+mL)=1001+mL:=by rw [cB]; omega
   rw [this];exact .inr (by show 1000<=1001+mL/\1001+mL<=1000+((L:Int)+hj.b_); omega)
  ·obtain ⟨m,i⟩:=z;obtain ⟨aQ,h1,hm,vt⟩:=aX;simp only at aQ h1 hm vt ⊢;have hw:aJ (i+1)=i+1:=by rw [cB]; omega
   rw [hw];refine Tot.bp (λaT=>?_) (λ_=>.ao ⟨hm.mono (by omega) (by omega) (by omega),vt⟩);refine Tot.aA (Ξ:=λr=>k9 r (3+1001 * 1000+1001 * (1000 * (i.toNat+1))) L (1001 * (1000 * (i.toNat+1))) (1+1001 * (1000 * (i.toNat+1)))/\1<=r.aH.bh.length) ?_ λkG Ep=>.ao ⟨⟨?_,?_,?_,Ep.2⟩,?_,?_⟩
   ·have m_:i.toNat<s.dG.length:=by omega
    have hi:idx s.dG i=some s.dG[i.toNat]:=by simp [idx,aQ,m_]
    rw [hi];generalize aS:s.dG[i.toNat]=d;have jU:d∈s.dG:=by rw [<- aS]; exact List.getElem_mem m_
    have zp:=(av.rules d jU).n;refine Tot.count (λz=>z.2) d.eM.length (λz=>0<=z.2/\z.2<=d.eM.length/\k9 z.1 (3+1001 * 1000+1001 * (1000 * i.toNat+z.2.toNat)) L (1001 * (1000 * i.toNat+z.2.toNat)) (1+1001 * (1000 * i.toNat+z.2.toNat))/\1<=z.1.aH.bh.length) ⟨Int.le_refl 0,by show (0:Int)<=_; omega,hm,vt⟩ (by show (d.eM.length:Int) - 0<_; omega) λz aX=>?_;obtain ⟨m,k⟩:=z;obtain ⟨g0,g1,hm,vt⟩:=aX;simp only at g0 g1 hm vt ⊢;have qq:aJ (k+1)=k+1:=by rw [cB]; omega
    rw [qq];refine Tot.aV (Tot.bp (λra=>?_) (λ_=>.ao ⟨hm.mono (by omega) (by omega) (by omega),vt⟩));refine Tot.aV (Tot.aV (.aA (Tot.hp (Φ:=λy=>y∈d.eM) g0 ra λ_ _ h=>h) λa aP=>?_));refine .aA (t108 m d.Left a hm (by omega) (by omega) (by omega) (by omega) ((av.rules d jU).alts a aP) (ok.rules d jU a aP)) λm' ir=>.ao ⟨⟨?_,?_,?_,ir.2⟩,?_,?_⟩
    ·show 0<=k+1; omega
    ·show k+1<=(d.eM.length:Int); omega
    ·show k9 m' (3+1001 * 1000+1001 * (1000 * i.toNat+(k+1).toNat)) L (1001 * (1000 * i.toNat+(k+1).toNat)) (1+1001 * (1000 * i.toNat+(k+1).toNat));exact ir.1.mono (by omega) (by omega) (by omega)
    ·show k<k+1; omega
    ·show k+1<=(d.eM.length:Int); omega
   ·show 0<=i+1; omega
   ·show i+1<=(s.dG.length:Int); omega
   ·show k9 kG (3+1001 * 1000+1001 * (1000 * (i+1).toNat)) L (1001 * (1000 * (i+1).toNat)) (1+1001 * (1000 * (i+1).toNat));exact Ep.1.mono (by omega) (by omega) (by omega)
   ·show i<i+1; omega
   ·show i+1<=(s.dG.length:Int); omega
 obtain ⟨pq,T4⟩:=T3;refine Tot.oL (λh=>.ao λaR=>absurd aR h) (λhe=>?_);have abZ:=pq.fv;have abX:=pq.hi;have ab1:=pq.ty;have abY:=pq.hB;have ab0:=pq.Ap
 -- nonterminals
 refine Tot.aA (Ξ:=λl=>l.length=1+L) ?_ λuR HS=>?_
 ·refine Tot.count (λz=>z.2) bu.cb.length (λz=>0<=z.2/\z.2<=bu.cb.length/\z.1.length=1+z.2.toNat) ⟨Int.le_refl 0,by show (0:Int)<=_; omega,rfl⟩ (by show (bu.cb.length:Int) - 0<_; omega) λz aX=>?_;obtain ⟨l,i⟩:=z;obtain ⟨aQ,h1,ak⟩:=aX;simp only at aQ h1 ak ⊢;have hw:aJ (i+1)=i+1:=by rw [cB]; omega
  rw [hw];refine Tot.bp (λaT=>?_) (λ_=>.ao (by show l.length=1+L; omega));refine .aA (Tot.hp (Φ:=λ_=>True) aQ aT λ_ _ _=>trivial) λqM _=>.aA (t109 _ _ (by show bu.cL.length<=_; simp only [dL]; omega)) λyy T5=>?_;have ab3:yy=-1\/(0<=yy/\yy<bu.cL.length):=T5;refine .aA (Ξ:=λ_=>True) (Tot.bp (λh=>.aA (Ξ:=λ_=>True) (Tot.hp h (by omega) λ_ _ _=>trivial) λ_ _=>.ao trivial) (λ_=>.ao trivial)) λuw _=>?_;refine .aA (Ξ:=λ_=>True) (Tot.ap (by simp [lim]; omega) trivial) λ_ _=>.ao ⟨⟨?_,?_,?_⟩,?_,?_⟩
  ·show 0<=i+1; omega
  ·show i+1<=(bu.cb.length:Int); omega
  ·show (l++[_]).length=1+(i+1).toNat;simp; omega
  ·show i<i+1; omega
  ·show i+1<=(bu.cb.length:Int); omega
 refine Tot.aA (Ξ:=λl=>(l.length:Int)=1+L+bu.b_) ?_ λk5 M4=>?_
 ·refine Tot.count (λz=>z.2) (bu.b_+1) (λz=>1<=z.2/\z.2<=bu.b_+1/\(z.1.length:Int)=1+L+(z.2 - 1)) ⟨Int.le_refl 1,by show (1:Int)<=_; omega,by show (uR.length:Int)=1+L+(1 - 1); omega⟩ (by show bu.b_+1 - 1<_; omega) λz aX=>?_;obtain ⟨l,i⟩:=z;obtain ⟨aQ,h1,ak⟩:=aX;simp only at aQ h1 ak ⊢;have hw:aJ (i+1)=i+1:=by rw [cB]; omega
  rw [hw];refine Tot.bp (λaT=>?_) (λ_=>.ao (by show (l.length:Int)=1+L+bu.b_; omega));refine .aA (t110 i (by omega) (by omega)) λGx ab4=>.aA (Ξ:=λ_=>True) (Tot.cat (by show 1+Gx.size<=_; omega) trivial) λwv _=>?_;refine .aA (Ξ:=λ_=>True) (Tot.ap (by simp [lim]; omega) trivial) λ_ _=>.ao ⟨⟨?_,?_,?_⟩,?_,?_⟩
  ·show 1<=i+1; omega
  ·show i+1<=bu.b_+1; omega
  ·show ((l++[_]).length:Int)=1+L+(i+1 - 1);simp; omega
  ·show i<i+1; omega
  ·show i+1<=bu.b_+1; omega
 -- numbers
 have r5:=pq.gD;refine Tot.aA (Ξ:=λl=>l.length=bu.aH.ba.length/\∀ t∈l,0<=t.Level) ?_ λme T6=>?_
 ·refine Tot.count (λz=>z.2.2) bu.aH.ba.length (λz=>3<=z.2.2/\z.2.2<=bu.aH.ba.length/\z.1.length=bu.aH.ba.length/\∀ t∈z.1,0<=t.Level) ⟨Int.le_refl 3,by have:=pq.lo; show (3:Int)<=_; omega,rfl,pq.jy⟩ (by show (bu.aH.ba.length:Int) - 3<_; omega) λz aX=>?_;obtain ⟨l,n,i⟩:=z;obtain ⟨aQ,h1,ak,hv⟩:=aX;simp only at aQ h1 ak hv ⊢;have hw:aJ (i+1)=i+1:=by rw [cB]; omega
  rw [hw];refine Tot.bp (λaT=>?_) (λ_=>.ao ⟨ak,hv⟩);refine Tot.aA (Ξ:=λj=>j.1.length=bu.aH.ba.length/\∀ t∈j.1,0<=t.Level) ?_ λj ah=>.ao ⟨⟨?_,?_,ah⟩,?_,?_⟩
  ·refine .aA (Tot.hp (Φ:=λ_=>True) (by omega) (by rw [r5]; omega) λ_ _ _=>trivial) λ_ _=>?_;refine Tot.aA (Ξ:=λj=>j.1.length=bu.aH.ba.length/\∀ t∈j.1,0<=t.Level) ?_ λj ah=>.ao ah;refine Tot.bE (λ_=>?_) (λ_=>.ao ⟨ak,hv⟩);refine .aA (Tot.hp (Φ:=λy=>y∈l) (by omega) aT λ_ _ h=>h) λy ax=>.ao ⟨by show (l.set _ _).length=_; simp [ak],λt aw=>?_⟩;rcases OW aw with aw | rfl
   ·exact hv t aw
   ·exact (hv y ax:0<=y.Level)
  ·show 3<=i+1; omega
  ·show i+1<=(bu.aH.ba.length:Int); omega
  ·show i<i+1; omega
  ·show i+1<=(bu.aH.ba.length:Int); omega
 -- limits
 obtain ⟨M5,T7⟩:=T6;refine Tot.aA (Ξ:=λc=>c=false->me.length<=40/\k5.length<=24/\bu.aH.bh.length<=60) ?_ λA8 HM=>?_
 ·refine Tot.bp (λ_=>.ao λh=>by cases h) (λh1=>Tot.bp (λ_=>.ao λh=>by cases h) (λaf=>.ao λh=>?_));have aI:=of_decide_eq_false h;omega
 refine Tot.aA (Ξ:=λc=>c=false->A8=false/\∀ p∈bu.aH.bh,p.eu.length<=8) ?_ λAG HN=>?_
 ·refine Tot.count (λz=>z.2) bu.aH.bh.length (λz=>0<=z.2/\z.2<=bu.aH.bh.length/\(z.1=false->A8=false/\∀ (j:Nat) (p:Prod),(j:Int)<z.2->bu.aH.bh[j]?=some p->p.eu.length<=8)) ⟨Int.le_refl 0,by show (0:Int)<=_; omega,λh=>⟨h,λj p ah=>by have ah:(j:Int)<0:=ah; omega⟩⟩ (by show (bu.aH.bh.length:Int) - 0<_; omega) λz aX=>?_;obtain ⟨c,i⟩:=z;obtain ⟨aQ,h1,ak⟩:=aX;simp only at aQ h1 ak ⊢;have hw:aJ (i+1)=i+1:=by rw [cB]; omega
  rw [hw];refine Tot.bp (λaT=>?_) (λdS=>.ao λh=>⟨(ak h).1,λp au=>?_⟩)
  ·refine Tot.aA (Ξ:=λfS=>fS=false->c=false/\∀ p,bu.aH.bh[i.toNat]?=some p->p.eu.length<=8) ?_ λfS fl=>.ao ⟨⟨?_,?_,λh=>?_⟩,?_,?_⟩
   ·refine Tot.bE (λ_=>.ao λh=>by cases h) (λVd=>.aA (Tot.hp (Φ:=λy=>idx bu.aH.bh i=some y) aQ aT λ_ h _=>h) λy ax=>.ao λh=>⟨Vd,λp au=>?_⟩);have af:=(pM ax).2.2;rw [au] at af; cases af;have:=of_decide_eq_false h;omega
   ·show 0<=i+1; omega
   ·show i+1<=(bu.aH.bh.length:Int); omega
   ·obtain ⟨aD,a2⟩:=fl h;obtain ⟨hn,iD⟩:=ak aD;refine ⟨hn,λj p ah au=>?_⟩;have ah:(j:Int)<i+1:=ah;by_cases Vz:(j:Int)<i
    ·exact iD j p Vz au
    ·have:j=i.toNat:=by omega
     subst this;exact a2 p au
   ·show i<i+1; omega
   ·show i+1<=(bu.aH.bh.length:Int); omega
  ·obtain ⟨j,ah,rfl⟩:=List.mem_iff_getElem.1 au;exact (ak h).2 j _ (by omega) (List.getElem?_eq_getElem ah)
 refine Tot.bE (λ_=>.ao λh=>absurd h (by decide)) (λaa=>.ao λ_=>?_);obtain ⟨aD,a2⟩:=HN aa;obtain ⟨hn,iD,lF⟩:=HM aD;have l5:=pq.lo;refine ⟨⟨?_,hn⟩,⟨?_,iD⟩,⟨T4,lF⟩,λp au=>?_,a2,T7⟩
 ·show 3<=me.length; omega
 ·show 1<=k5.length; omega
 ·have:=pq.hx p au;exact this.mono (by show _<=me.length; omega) (by show (L:Int)+bu.b_<=((k5.length:Nat):Int) - 1; omega)
theorem t62 (s:Source) (av:rL s):Tot (x7 s) λr=>r.2=true->gz r.1:=by
 unfold x7;exact .aA (t77 s av) λr aq=>.ao λh=>aq (of_decide_eq_true h)
theorem Sb (s:Source) (av:rL s):Tot (x5 s) λr=>r.2.2=true->gz r.1/\mN r.1 r.2.1:=by
 unfold x5;refine .aA (t62 s av) λr aq=>Tot.bE (λ_=>.ao λh=>by cases h) (λh=>?_);have aO:=aq (by simpa using h);refine .aA (Sg r.1 aO) λm hm=>.ao λh=>⟨aO,?_⟩;have h:m.2=0:=of_decide_eq_true h;rcases hm with hm | hm
 ·exact hm.2
 ·omega
structure GD (g:bN) (m:List State) (cs:List Cell):Prop where
 rV:gz g
 acZ:mN g m
 ce:AN g m.length cs
theorem qc (s:Source) (av:rL s):Tot (vY s) λr=>r.2.2.2=true->GD r.1 r.2.1 r.2.2.1:=by
 unfold vY;refine .aA (Sb s av) λr aq=>Tot.bE (λ_=>.ao λh=>by cases h) (λh=>?_);obtain ⟨aO,hm⟩:=aq (by simpa using h);exact .aA (Sc r.1 aO hm) λqA NX=>.aA (A9 r.1 aO hm qA NX.1 NX.2) λcs hL=>.ao λ_=>⟨aO,hm,hL⟩
def zN (g:bN) (p:Int):Int × Int:=match idx g.bh p with
 | some q=>match idx g.ba q.Prec with
  | some t=>(t.Level,t.fq)
  | none=>(0,0)
 | none=>(0,0)
def dec (g:bN) (p t:Int):Int:=match idx g.ba t with
 | some k=>if (zN g p).1=0\/k.Level=0 then 0 else if (zN g p).1<k.Level then 1 else if k.Level<(zN g p).1 then 2 else if k.fq=1 then 2 else if k.fq=2 then 1 else 3
 | none=>0
theorem Ti (g:bN) (aO:gz g) (p:Int) (au:0<=p/\p<g.bh.length):C' g p=some (zN g p):=by
 obtain ⟨q,bg,hm⟩:=oh au.1 au.2;have av:=(aO.hx q hm).prec;unfold C' zN;have d1:decide (p<0)=false:=decide_eq_false (by omega);have d2:decide ((g.bh.length:Int)<=p)=false:=decide_eq_false (by omega);rw [d1,d2,bg];simp only [cond_false,Option.bind_some];by_cases h:q.Prec<0
 ·rw [decide_eq_true h,Jt (.inl h)]; rfl
 ·obtain ⟨t,aw,_⟩:=oh (l:=g.ba) (i:=q.Prec) (by omega) av.2;rw [decide_eq_false h,aw]; rfl
theorem Th (g:bN) (aO:gz g) (p t:Int) (au:0<=p/\p<g.bh.length) (aw:0<=t/\t<g.ba.length):C2 g p t=some (dec g p t):=by
 obtain ⟨k,hk,hm⟩:=oh aw.1 aw.2;unfold C2 dec;rw [Ti g aO p au,hk];have d1:decide (t<0)=false:=decide_eq_false (by omega);have d2:decide ((g.ba.length:Int)<=t)=false:=decide_eq_false (by omega);rw [d1,d2];generalize zN g p=x;simp only [cond_false,Option.bind_some];by_cases h1:x.1=0
 ·simp [h1]
 ·by_cases af:k.Level=0
  ·simp [h1,af]
  ·rw [if_neg (by omega)];simp only [h1,af,decide_false,cond_false,Option.bind_some];by_cases aI:x.1<k.Level
   ·simp [aI]
   ·by_cases bF:k.Level<x.1
    ·simp [aI,bF]
    ·by_cases cF:k.fq=1
     ·simp [aI,bF,cF]
     ·by_cases ej:k.fq=2 <;> simp [aI,bF,cF,ej]
def sy (g:bN) (c:Cell):Act:=match c.bh with
 | []=>if c.lW=true then ⟨3,0⟩ else ⟨1,c.j7⟩
 | p::_=>if c.lW=true then ⟨3,0⟩ else if c.j7<0 then ⟨2,p⟩ else if dec g p c.bX=2 then ⟨2,p⟩ else if dec g p c.bX=3 then ⟨4,0⟩ else ⟨1,c.j7⟩
def zb (g:bN) (c:Cell):List fb:=match c.bh with
 | []=>[]
 | p::r=>r.map (λx=>(⟨c.State,c.bX,p,x⟩:fb))++(if c.lW=true\/(0<=c.j7/\dec g p c.bX=0) then [(⟨c.State,c.bX,-1,p⟩:fb)] else [])
structure oA (g:bN) (n:Nat) (a:Act):Prop where
 k:0<=a.Kind/\a.Kind<=4
 gH:a.Kind=0->a.N=0
 nm:a.Kind=1->0<=a.N/\a.N<n
 oX:a.Kind=2->qX g a.N
 OY:a.Kind=3->a.N=0
 Xo:a.Kind=4->a.N=0
theorem Rq {g:bN}{n:Nat}{c:Cell}(h:o' g n c):oA g n (sy g c)/\(sy g c).Kind≠0:=by
 have B6:=h.Zd;have aW:=h.f;have a3:oA g n ⟨3,0⟩:=⟨⟨by decide,by decide⟩,λh=>(by cases h),λh=>(by cases h),λh=>(by cases h),λ_=>rfl,λh=>by cases h⟩;have a4:oA g n ⟨4,0⟩:=⟨⟨by decide,by decide⟩,λh=>(by cases h),λh=>(by cases h),λh=>(by cases h),λ_=>rfl,λ_=>rfl⟩;have aD:0<=c.j7->oA g n ⟨1,c.j7⟩:=λaQ=>⟨⟨by show (0:Int)<=1; decide,by show (1:Int)<=4; decide⟩,λh=>(by cases h),λ_=>⟨aQ,aW.2⟩,λh=>(by cases h),λh=>(by cases h),λh=>by cases h⟩;have a2:∀ p∈c.bh,oA g n ⟨2,p⟩:=λp au=>⟨⟨by show (0:Int)<=2; decide,by show (2:Int)<=4; decide⟩,λh=>(by cases h),λh=>(by cases h),λ_=>h.q p au,λh=>(by cases h),λh=>by cases h⟩;unfold sy;unfold oq at B6;cases cn:c.bh with
 | nil =>
  simp only;rw [cn] at B6;by_cases h1:c.lW=true
  ·rw [if_pos h1]; exact ⟨a3,by decide⟩
  ·rw [if_neg h1];rw [if_neg h1] at B6;refine ⟨aD ?_,by show (1:Int)≠0; decide⟩;by_cases af:0<=c.j7
   ·exact af
   ·rw [if_neg af] at B6; simp at B6
 | cons p r =>
  simp only;have au:=a2 p (by rw [cn]; simp);split
  ·exact ⟨a3,by decide⟩
  ·split
   ·exact ⟨au,by show (2:Int)≠0; decide⟩
   ·split
    ·exact ⟨au,by show (2:Int)≠0; decide⟩
    ·split
     ·exact ⟨a4,by decide⟩
     ·exact ⟨aD (by omega),by show (1:Int)≠0; decide⟩
theorem Mg {g:bN}(aO:gz g) {n:Nat}{c:Cell}(h:o' g n c):(zb g c).length<=60:=by
 have ak:=h.len aO;unfold zb;cases cn:c.bh with
 | nil=>simp
 | cons p r =>
  rw [cn,List.length_cons] at ak;simp only [List.length_append,List.length_map];split
  ·simp; omega
  ·simp; omega
theorem w1 (g:bN) (aO:gz g) {n:Nat}(c:Cell) (h:o' g n c):x6 g c=some (sy g c,zb g c):=by
 have ak:=h.len aO
 suffices aB:Tot (x6 g c) λr=>r=(sy g c,zb g c) by
  obtain ⟨r,aq,e⟩:=aB; rw [aq,e]
 unfold x6 sy zb;cases cn:c.bh with
 | nil =>
  simp only;refine .aA (Ξ:=λl:List fb=>l=[]) ?_ λl ak=>?_
  ·refine Tot.loop (λs=>s=(([]:List fb),(1:Int))) (λ_=>0) rfl (by show 0<1000000000000000000; omega) λs aB=>?_;subst aB;exact .ao rfl
  ·subst ak;cases h1:c.lW
   ·exact .ao (by simp)
   ·exact .ao (by simp)
 | cons p r =>
  rw [cn,List.length_cons] at ak;simp only;have hc:idx (p::r) 0=some p:=rfl;refine .aA (Ξ:=λl:List fb=>l=r.map (λx=>(⟨c.State,c.bX,p,x⟩:fb))) ?_ λl ak=>?_
  ·refine Tot.count (λs=>s.2) ((r.length:Int)+1) (λs=>∃ k:Nat,k<=r.length/\s.2=((k+1:Nat):Int)/\s.1=(r.take k).map (λx=>(⟨c.State,c.bX,p,x⟩:fb))) ⟨0,Nat.zero_le _,rfl,rfl⟩ (by show (r.length:Int)+1 - 1<_; omega) λs aB=>?_;obtain ⟨l,i⟩:=s;obtain ⟨k,hk,he,bc⟩:=aB;simp only at he bc ⊢;subst he bc;rw [eB (k+1) (by omega),hc];refine Tot.bp (λaT=>?_) (λdS=>.ao ?_)
   ·rw [List.length_cons] at aT;have aT:k<r.length:=by omega
    have cv:idx (p::r) ((k+1:Nat):Int)=some r[k]:=by
     simp only [idx,if_pos (show (0:Int)<=((k+1:Nat):Int) by omega),Int.toNat_natCast,List.getElem?_cons_succ];exact List.getElem?_eq_getElem aT
    rw [cv];refine Tot.aV (Tot.aV (.aA (Ξ:=λ_=>True) (Tot.ap (by simp [lim]; omega) trivial) λ_ _=>.ao ⟨⟨k+1,by omega,rfl,?_⟩,by show ((k+1:Nat):Int)<((k+1+1:Nat):Int); omega,by show ((k+1+1:Nat):Int)<=(r.length:Int)+1; omega⟩));show _=(r.take (k+1)).map _;rw [k3 aT,List.map_append]; rfl
   ·rw [List.length_cons] at dS;rw [List.take_of_length_le (by omega)]; rfl
  ·subst ak;have au:=h.q p (by rw [cn]; simp);have Hv:=Th g aO p c.bX ⟨by have:=au.1; omega,au.2⟩ h.t;have dl:decide (((p::r).length:Int)=0)=false:=decide_eq_false (by simp; omega);simp only [hc,Hv,dl,cond_false,Option.bind_some];generalize vm:dec g p c.bX=v;refine ⟨_,?_,rfl⟩;have Nt:c' (r.map (λx=>(⟨c.State,c.bX,p,x⟩:fb))) [(⟨c.State,c.bX,(-1),p⟩:fb)]=some (r.map (λx=>(⟨c.State,c.bX,p,x⟩:fb))++[⟨c.State,c.bX,(-1),p⟩]):=by
    unfold c'; rw [if_pos (by simp [lim]; omega)]
   cases h1:c.lW
   ·by_cases af:c.j7<0
    ·have aI:¬ (0<=c.j7):=by omega
     simp [af,aI]
    ·have aI:0<=c.j7:=by omega
     by_cases bF:v=0
     ·simp [af,aI,bF,Nt]
     ·by_cases cF:v=2
      ·simp [af,aI,cF]
      ·by_cases ej:v=3
       ·simp [af,aI,ej]
       ·simp [af,aI,bF,cF,ej]
   ·simp [Nt]
def rowOf (g:bN) (l:List Cell):List Act:=l.foldl (λrow c=>row.set c.bX.toNat (sy g c)) (List.replicate g.ba.length ⟨0,0⟩)
def iC (cs:List Cell) (q:Nat):List Cell:=cs.filter λc=>decide (c.State=(q:Int))
def go (m:List State) (q s:Int):Int:=(rn m q s).getD (-1)
theorem go_eq {g:bN}{m:List State}(hm:mN g m) (q s:Int):rn m q s=some (go m q s)/\GoTo m q s (go m q s):=by
 obtain ⟨r,aq,h⟩:=D_ m q s hm.xN;unfold go;rw [aq];exact ⟨rfl,h⟩
theorem PJ (g:bN):∀ (l:List Cell),(rowOf g l).length=g.ba.length:=λl=>by
 suffices h:∀ (l:List Cell) (r:List Act),(l.foldl (λrow c=>row.set c.bX.toNat (sy g c)) r).length=r.length by
  unfold rowOf; rw [h]; simp
 intro l
 induction l with
 | nil=>intro r; rfl
 | cons c l aU=>intro r; rw [List.foldl_cons,aU,List.length_set]
theorem Ym (g:bN) (l:List Cell) (c:Cell):rowOf g (l++[c])=(rowOf g l).set c.bX.toNat (sy g c):=by
 unfold rowOf; rw [List.foldl_append]; rfl
theorem Yj {g:bN}{n:Nat}:∀ {l:List Cell},(∀ c∈l,o' g n c)->∀ a∈rowOf g l,oA g n a:=by
 intro l h
 suffices aB:∀ (l:List Cell) (r:List Act),(∀ c∈l,o' g n c)->(∀ a∈r,oA g n a)->∀ a∈l.foldl (λrow c=>row.set c.bX.toNat (sy g c)) r,oA g n a by
  refine aB l _ h λa aP=>?_;rw [List.eq_of_mem_replicate aP];exact ⟨⟨by decide,by decide⟩,λ_=>rfl,λh=>(by cases h),λh=>(by cases h),λh=>(by cases h),λh=>by cases h⟩
 intro l
 induction l with
 | nil=>intro r _ aq; exact aq
 | cons c l aU =>
  intro r ak aq;rw [List.foldl_cons];refine aU _ (λd aS=>ak d (by simp [aS])) λa aP=>?_;rcases List.mem_or_eq_of_mem_set aP with h | h
  ·exact aq a h
  ·rw [h]; exact (Rq (ak c (by simp))).1
def w4 (g:bN) (m:List State) (q:Nat):List Int:=(List.range g.b2.length).map λa:Nat=>go m q (1000+(a:Int))
def l0 (g:bN) (l:List Cell):List fb:=l.flatMap (zb g)
theorem Hn {g:bN}(aO:gz g) {n:Nat}:∀ {l:List Cell},(∀ c∈l,o' g n c)->(l0 g l).length<=60 * l.length
 | [],_=>by simp [l0]
 | c::l,h=>by
  have h1:=Mg aO (h c (by simp));have af:=Hn aO (l:=l) λd aS=>h d (by simp [aS]);unfold l0 at af ⊢;rw [List.flatMap_cons,List.length_append,List.length_cons];omega
theorem Qr {α:Type}{l:List α}{k:Nat}(h:k<l.length) (p:α->Bool):(l.take (k+1)).filter p=(l.take k).filter p++(if p l[k] then [l[k]] else []):=by
 rw [k3 h,List.filter_append];congr 1;rw [List.filter_cons]
 split <;> simp
structure GH (g:bN) (m:List State) (cs:List Cell) (d:gT):Prop where
 a:d.cz=(List.range m.length).map λq=>rowOf g (iC cs q)
 o:d.ei=(List.range m.length).map λq=>w4 g m q
theorem R8 (g:bN) (m:List State) (cs:List Cell) (ev:GD g m cs):Tot (Ad g m cs) λr=>GH g m cs r.1/\r.2=(List.range m.length).flatMap λq=>l0 g (iC cs q):=by
 obtain ⟨aO,hm,aa⟩:=ev;have aw:=aO.kE;have aF:=aO.dx;have xi:=hm.nm;have Ip:=aa.n;unfold Ad;refine .aA (Ξ:=λr:List (List Act) × List (List Int) × List fb=>r.1=(List.range m.length).map (λq=>rowOf g (iC cs q))/\r.2.1=(List.range m.length).map (λq=>w4 g m q)/\r.2.2=(List.range m.length).flatMap λq=>l0 g (iC cs q)) ?_ λr aq=>.ao ⟨⟨aq.1,aq.2.1⟩,aq.2.2⟩;have sM:∀ q,(l0 g (iC cs q)).length<=360000:=λq=>by
  have h1:=Hn aO (l:=iC cs q) λc vi=>aa.ok c ((List.mem_filter.1 vi).1);have af:=List.length_filter_le (λc:Cell=>decide (c.State=(q:Int))) cs;unfold iC at h1 ⊢;omega
 have Iv:∀ k,((List.range k).flatMap λq=>l0 g (iC cs q)).length<=360000 * k:=λk=>by
  induction k with
  | zero=>simp
  | succ k aU =>
   rw [List.range_succ,List.flatMap_append,List.length_append];have:=sM k;simp only [List.flatMap_cons,List.flatMap_nil,List.append_nil];omega
 refine Tot.upto (λs=>s.2.2.2) m.length (λk s=>s.1=(List.range k).map (λq=>rowOf g (iC cs q))/\s.2.1=(List.range k).map (λq=>w4 g m q)/\s.2.2.1=(List.range k).flatMap λq=>l0 g (iC cs q)) rfl (by omega) ⟨rfl,rfl,rfl⟩ λk s hk he bc=>?_;obtain ⟨A,G,C,i⟩:=s;obtain ⟨h1,af,aI⟩:=bc;simp only at he h1 af aI ⊢;subst he h1 af aI;rw [eB k (by omega)];refine Tot.bp (λaT=>?_) (λdS=>.ao ?_)
 ·have aT:k<m.length:=by omega
  refine .aA (Ξ:=λr=>r=List.replicate g.ba.length (⟨0,0⟩:Act)) (Tot.mk (by simp [lim]; omega) (by simp)) λtt gE=>?_;subst gE;have acn:=Iv k;refine .aA (Ξ:=λr:List fb × List Act=>r.1=(List.range k).flatMap (λq=>l0 g (iC cs q))++l0 g (iC cs k)/\r.2=rowOf g (iC cs k)) ?_ λr aq=>?_
  ·refine Tot.upto (λs=>s.2.2) cs.length (λj s=>s.1=(List.range k).flatMap (λq=>l0 g (iC cs q))++l0 g (iC (cs.take j) k)/\s.2.1=rowOf g (iC (cs.take j) k)) rfl (by omega) ⟨by simp [iC,l0],by simp [iC,rowOf]⟩ λj s ah he bc=>?_;obtain ⟨C,R,i⟩:=s;obtain ⟨h1,af⟩:=bc;simp only at he h1 af ⊢;subst he h1 af;rw [eB j (by omega)];refine Tot.bp (λeF=>?_) (λdS=>.ao ?_)
   ·have eF:j<cs.length:=by omega
    have xd:=aa.ok _ (List.getElem_mem eF);have sN:=Qr eF (λc:Cell=>decide (c.State=(k:Int)));have acQ:(l0 g (iC (cs.take j) k)).length<=360000:=by
     have h1:=Hn aO (l:=iC (cs.take j) k) λc vi=>aa.ok c (List.mem_of_mem_take ((List.mem_filter.1 vi).1));have af:=List.length_filter_le (λc:Cell=>decide (c.State=(k:Int))) (cs.take j);rw [List.length_take] at af;unfold iC at h1 ⊢;omega
    rw [dV eF];generalize cs[j]=c at *;simp only [Option.bind_some];refine .aA (Ξ:=λr:List fb × List Act=>r.1=(List.range k).flatMap (λq=>l0 g (iC cs q))++l0 g (iC (cs.take (j+1)) k)/\r.2=rowOf g (iC (cs.take (j+1)) k)) ?_ λr aq=>.ao ⟨eF,rfl,aq⟩;refine .aA (Ξ:=λr:List fb × List Act=>r.1=(List.range k).flatMap (λq=>l0 g (iC cs q))++l0 g (iC (cs.take (j+1)) k)/\r.2=rowOf g (iC (cs.take (j+1)) k)) (Tot.bp (λaB=>?_) (λaB=>.ao ?_)) λr aq=>.ao aq
    ·rw [decide_eq_true aB,if_pos rfl] at sN;rw [w1 g aO c xd];simp only [Option.bind_some];have l6:=PJ g (iC (cs.take j) k);obtain ⟨a0,w7,_⟩:=oh (l:=rowOf g (iC (cs.take j) k)) (i:=c.bX) xd.t.1 (by rw [l6]; exact xd.t.2);rw [w7];have hf:=Mg aO xd;refine Tot.aV (.aA (Ξ:=λ_=>True) (Tot.ap (by rw [List.length_append]; simp only [lim]; omega) trivial) λ_ _=>.ao ⟨?_,?_⟩)
     ·show _=_++l0 g ((cs.take (j+1)).filter _);rw [sN];unfold l0;rw [List.flatMap_append,List.append_assoc];simp [iC]
     ·show _=rowOf g ((cs.take (j+1)).filter _);rw [sN,Ym]; rfl
    ·have:(if (decide (c.State=(k:Int)))=true then [c] else [])=[]:=by simp [aB]
     rw [this,List.append_nil] at sN;unfold iC;rw [sN];exact ⟨rfl,rfl⟩
   ·have e:cs.take j=cs:=List.take_of_length_le (by omega);rw [e];exact ⟨rfl,rfl⟩
  ·obtain ⟨C,R⟩:=r;obtain ⟨h1,af⟩:=aq;simp only at h1 af ⊢;subst h1 af;refine .aA (Ξ:=λr=>r=List.replicate g.b2.length (0:Int)) (Tot.mk (by simp [lim]; omega) (by simp)) λGK Ul=>?_;subst Ul;refine .aA (Ξ:=λr:List Int=>r=w4 g m k) ?_ λr aq=>?_
   ·refine Tot.upto (λs=>s.2) g.b2.length (λj s=>s.1.length=g.b2.length/\∀ i:Nat,i<j->s.1[i]?=some (go m k (1000+(i:Int)))) rfl (by omega) ⟨by simp,λi hi=>absurd hi (Nat.not_lt_zero _)⟩ λj s ah he bc=>?_;obtain ⟨L,i⟩:=s;obtain ⟨h1,af⟩:=bc;simp only at he h1 af ⊢;subst he;rw [eB j (by omega)];refine Tot.bp (λeF=>?_) (λdS=>.ao ?_)
    ·have eF:j<L.length:=by omega
     have hw:aJ (1000+(j:Int))=1000+(j:Int):=by rw [cB]; omega
     rw [hw,(go_eq hm k _).1,dV eF];refine Tot.aV (Tot.aV (.ao ⟨by omega,rfl,?_,λi hi=>?_⟩))
     ·show (L.set _ _).length=_;rw [List.length_set]; exact h1
     ·show (L.set (j:Int).toNat _)[i]?=_;rw [Int.toNat_natCast,P4 eF];by_cases e:i=j
      ·subst e; rw [if_pos rfl]
      ·rw [if_neg e]; exact af i (by omega)
    ·show L=w4 g m k;refine List.ext_getElem? λi=>?_;unfold w4;by_cases hi:i<g.b2.length
     ·rw [af i (by omega),List.getElem?_map,List.getElem?_range hi]; rfl
     ·rw [List.getElem?_eq_none (by omega),List.getElem?_eq_none (by simp; omega)]
   ·subst aq;refine .aA (Ξ:=λ_=>True) (Tot.ap (by simp [lim]; omega) trivial) λ_ _=>.aA (Ξ:=λ_=>True) (Tot.ap (by simp [lim]; omega) trivial) λ_ _=>.ao ⟨aT,rfl,?_,?_,?_⟩
    ·show _=(List.range (k+1)).map _;rw [List.range_succ,List.map_append]; rfl
    ·show _=(List.range (k+1)).map _;rw [List.range_succ,List.map_append]; rfl
    ·show _=(List.range (k+1)).flatMap _;rw [List.range_succ,List.flatMap_append]; simp
 ·have:k=m.length:=by omega
  subst this;exact ⟨rfl,rfl,rfl⟩
structure sw (g:bN) (n:Nat) (d:gT):Prop where
 gH:0<n/\n<=150
 rV:gz g
 a:d.cz.length=n
 jH:∀ r∈d.cz,r.length=g.ba.length/\∀ a∈r,oA g n a
 o:d.ei.length=n
 xV:∀ r∈d.ei,r.length=g.b2.length/\∀ v∈r,-1<=v/\v<n
theorem GH.aM {g:bN}{m:List State}{cs:List Cell}{d:gT}(h:GH g m cs d) (ev:GD g m cs):sw g m.length d:=by
 obtain ⟨aO,hm,aa⟩:=ev;refine ⟨⟨hm.gH,hm.nm⟩,aO,by rw [h.a]; simp,λr aq=>?_,by rw [h.o]; simp,λr aq=>?_⟩
 ·rw [h.a] at aq;obtain ⟨q,_,rfl⟩:=List.mem_map.1 aq;exact ⟨PJ g _,Yj λc vi=>aa.ok c (List.mem_filter.1 vi).1⟩
 ·rw [h.o] at aq;obtain ⟨q,_,rfl⟩:=List.mem_map.1 aq;refine ⟨by simp [w4],λv hv=>?_⟩;obtain ⟨a,_,rfl⟩:=List.mem_map.1 hv;exact (go_eq hm q _).2.aM hm
theorem X_ {g:bN}(aO:gz g) {n:Nat}{cs:List Cell}(aa:AN g n cs) {f:Cell->Option Int}(aW:∀ c:Cell,c.bh.length<=1000->f c=some (oq c:Int)):Tot (b1 (R:=Int) (λ(s1:Int × Int) =>
(bif decide (s1.2<(cs.length:Int)) then
((idx cs s1.2).bind λbw =>
(f bw).bind λbQ =>
((bif decide (1<bQ) then
some (aJ (s1.1+1))
else
some s1.1)).bind λfa =>
some fa).bind λkU =>
some (.inl (kU,aJ (s1.2+1)))
else
some (.inr s1.1))) (0,0)) λr=>r=((cs.filter λc=>decide (1<oq c)).length:Int):=by
 have Ip:=aa.n;refine Tot.upto (λs=>s.2) cs.length (λk s=>s.1=(((cs.take k).filter λc=>decide (1<oq c)).length:Int)) rfl (by omega) rfl λk s hk he bc=>?_;obtain ⟨z,i⟩:=s;simp only at he bc ⊢;subst he bc;rw [eB k (by omega)];refine Tot.bp (λaT=>?_) (λdS=>.ao ?_)
 ·have aT:k<cs.length:=by omega
  have Vf:=aa.ok _ (List.getElem_mem aT);have sN:=Qr aT (λc:Cell=>decide (1<oq c));have sM:=List.length_filter_le (λc:Cell=>decide (1<oq c)) (cs.take k);rw [List.length_take] at sM;rw [dV aT];generalize cs[k]=c at *;have hf:=Vf.len aO;rw [show (some c).bind=λ(f:Cell->Option Int)=>f c from rfl]
  simp only [aW c (by omega),Option.bind_some];refine .aA (Ξ:=λz:Int=>z=(((cs.take (k+1)).filter λc=>decide (1<oq c)).length:Int)) ?_ λr aq=>.ao ⟨aT,rfl,aq⟩;rw [sN];refine .aA (Ξ:=λz:Int=>z=(((cs.take k).filter (λc=>decide (1<oq c))++if decide (1<oq c)=true then [c] else []).length:Int)) (Tot.bp (λh=>.ao ?_) (λh=>.ao ?_)) λr aq=>.ao aq
  ·have:1<oq c:=by omega
   rw [eB _ (by omega)];simp [this]
  ·have:¬ 1<oq c:=by omega
   simp [this]
 ·have e:cs.take k=cs:=List.take_of_length_le (by omega);rw [e]; rfl
theorem tE {g:bN}(aO:gz g) {n:Nat}{cs:List Cell}(aa:AN g n cs):Tot (CS cs) λr=>r=((cs.filter λc=>decide (1<oq c)).length:Int):=by
 unfold CS;exact .aA (X_ aO aa Mv) λr aq=>.ao aq
theorem R3 (s:Source) (av:rL s):Tot (sn s) λr=>r.2.2.2=true->∃ n,sw r.1 n r.2.1:=by
 unfold sn;refine .aA (qc s av) λr aq=>Tot.bE (λ_=>.ao λh=>by cases h) (λh=>?_);have ev:=aq (by simpa using h);exact .aA (R8 _ _ _ ev) λd aS=>.aA (tE ev.rV ev.ce) λ_ _=>.ao λ_=>⟨_,aS.1.aM ev⟩
theorem Tg (a:Act):Ah a=mF a:=by
 grind [Ah,mF]
theorem Ht (n:Int):x4 n=ta n:=by
 grind [x4,ta]
theorem Qw (a:Act):Tot (mF a) λ_=>True:=by
 unfold mF
 repeat' first | apply Tot.bi | refine Tot.bE (λ_=>?_) (λ_=>?_) | exact Tot.ao trivial | apply Tot.ao
theorem Zl (n:Int):Tot (ta n) λ_=>True:=by
 grind [ta,Tot.ao]
theorem Se (a:Act):∃ c,mF a=some c/\(c=0\/ta c=some a):=by
 obtain ⟨c,aa,_⟩:=Qw a;refine ⟨c,aa,?_⟩;obtain ⟨K,N⟩:=a;have g:∀ p q:Prop,∀ [Decidable p] [Decidable q],(bif decide p then some (decide q) else some false)=some (decide (p/\q)):=λp q _ _=>by
  by_cases au:p <;> simp [au]
 by_cases h1:K=1/\0<=N/\N<=19999
 ·obtain ⟨rfl,h1⟩:=h1;have e:aJ (N+1)=N+1:=by rw [cB]; omega
  have b9:aJ (N+1 - 1)=N:=by rw [cB]; omega
  simp [mF,h1,e] at aa;subst aa;have af:1<=N+1/\N+1<=20000:=by omega
  have fG:aJ N=N:=by rw [cB]; omega
  exact .inr (by simp [ta,af,fG])
 ·by_cases af:K=2/\1<=N/\N<=19999
  ·obtain ⟨rfl,af⟩:=af;have e:aJ (-N)=-N:=by rw [cB]; omega
   have b9:aJ N=N:=by rw [cB]; omega
   simp [mF,af,e] at aa;subst aa;have aI:¬ 1<=-N:=by omega
   have bF:-N<=-1/\-19999<=-N:=by omega
   exact .inr (by simp [ta,aI,bF,b9])
  ·by_cases aI:K=3/\N=0
   ·obtain ⟨rfl,rfl⟩:=aI;have:mF ⟨3,0⟩=some 20001:=by decide
    rw [this] at aa; cases aa;exact .inr (by decide)
   ·by_cases bF:K=4/\N=0
    ·obtain ⟨rfl,rfl⟩:=bF;have:mF ⟨4,0⟩=some 20002:=by decide
     rw [this] at aa; cases aa;exact .inr (by decide)
    ·refine .inl ?_;have xF:(bif decide (K=1) then (bif decide (0<=N) then some (decide (N<=19999)) else some false) else some false)=some false:=by
      rw [g]; by_cases h:K=1
      ·have:=λaR=>h1 ⟨h,aR⟩;simp [h]; omega
      ·simp [h]
     have oV:(bif decide (K=2) then (bif decide (1<=N) then some (decide (N<=19999)) else some false) else some false)=some false:=by
      rw [g]; by_cases h:K=2
      ·have:=λaR=>af ⟨h,aR⟩;simp [h]; omega
      ·simp [h]
     have Xa:(bif decide (K=3) then some (decide (N=0)) else some false)=some false:=by rw [g]; simp [aI]
     have JI:(bif decide (K=4) then some (decide (N=0)) else some false)=some false:=by rw [g]; simp [bF]
     unfold mF at aa;rw [xF,oV,Xa,JI] at aa;simpa using aa.symm
def oD (l:List Int) (v:Int):Prop:=(l=[]/\v=-1)\/(v∈l/\∀ x∈l,l.count x<l.count v\/(l.count x=l.count v/\v<=x))
theorem oD.uniq {l:List Int}{v w:Int}(h:oD l v) (aR:oD l w):v=w:=by
 rcases h with ⟨h1,af⟩ | ⟨h1,af⟩ <;> rcases aR with ⟨aI,bF⟩ | ⟨aI,bF⟩
 ·omega
 ·subst h1; cases aI
 ·subst aI; cases h1
 ·have a:=af w aI;have b:=bF v h1;omega
theorem wX (l:List Int) (y x:Int):(l++[y]).count x=l.count x+(if y=x then 1 else 0):=by
 rw [List.count_append];by_cases e:y=x
 ·subst e; simp
 ·rw [if_neg e,List.count_eq_zero.2 λhm=>e (List.mem_singleton.1 hm).symm]
theorem S4 {l:List Int}{x:Int}(h:x∈l):0<l.count x:=List.count_pos_iff.2 h
theorem oD.snoc {l:List Int}{b y:Int}(h:oD l b) (aQ:∀ x∈l,0<=x) (ax:0<=y):oD (l++[y]) (if b<0\/(l++[y]).count b<(l++[y]).count y\/((l++[y]).count y=(l++[y]).count b/\y<b) then y else b):=by
 refine .inr ?_;rcases h with ⟨rfl,rfl⟩ | ⟨av,hm⟩
 ·rw [if_pos (.inl (by decide))];refine ⟨by simp,λx J=>?_⟩;rw [List.nil_append,List.mem_singleton] at J;subst J; exact .inr ⟨rfl,Int.le_refl _⟩
 ·have Ex:=aQ b av;have key:∀ x∈l++[y],x∈l\/x=y:=λx J=>by simpa using J
  have wZ:(l++[y]).count y=l.count y+1:=by rw [wX,if_pos rfl]
  by_cases Nw:b=y
  ·subst Nw;rw [if_neg (by omega)];refine ⟨by simp,λx J=>?_⟩;rw [wZ];by_cases e:x=b
   ·subst e; exact .inr ⟨wZ,Int.le_refl _⟩
   ·rw [wX,if_neg (λh=>e h.symm)];rcases key x J with J | J
    ·have:=hm x J; omega
    ·exact absurd J e
  ·have j':(l++[y]).count b=l.count b:=by rw [wX,if_neg (λh=>Nw h.symm)]; rfl
   by_cases aa:b<0\/(l++[y]).count b<(l++[y]).count y\/((l++[y]).count y=(l++[y]).count b/\y<b)
   ·rw [if_pos aa];rw [j',wZ] at aa;refine ⟨by simp,λx J=>?_⟩;rw [wZ];by_cases e:x=y
    ·subst e; exact .inr ⟨wZ,Int.le_refl _⟩
    ·rw [wX,if_neg (λh=>e h.symm)];rcases key x J with J | J
     ·have:=hm x J; omega
     ·exact absurd J e
   ·rw [if_neg aa];rw [j',wZ] at aa;refine ⟨by simp [av],λx J=>?_⟩;rw [j'];by_cases e:x=y
    ·subst e; rw [wZ]; omega
    ·rw [wX,if_neg (λh=>e h.symm)];rcases key x J with J | J
     ·have:=hm x J; omega
     ·exact absurd J e
theorem JJ {x:Int}(h:-1<=x/\x<=1000000):si x=true:=by unfold si; rw [decide_eq_true]; omega
theorem za (l:List Int) (ak:l.length<=100000) (aQ:∀ x∈l,0<=x/\x<=1000000):Tot (v7 l) (oD l):=by
 unfold v7;refine .aA (Ξ:=oD l) ?_ λr aq=>.ao aq;refine Tot.upto (λs=>s.2.2) l.length (λk s=>s.1.length=k/\(∀ x,(o4 s.1 x).getD 0=((l.take k).count x:Int))/\oD (l.take k) s.2.1) rfl (by omega) ⟨rfl,λx=>by simp [o4],.inl ⟨rfl,rfl⟩⟩ λk s hk he bc=>?_;obtain ⟨m,b,i⟩:=s;obtain ⟨h1,af,aI⟩:=bc;simp only at he h1 af aI ⊢;subst he;rw [eB k (by omega)];refine Tot.bp (λaT=>?_) (λdS=>.ao ?_)
 ·have aT:k<l.length:=by omega
  have ax:=aQ _ (List.getElem_mem aT);have ga:=k3 aT;have Nn:∀ x∈l.take k,0<=x/\x<=1000000:=λx J=>aQ x (List.mem_of_mem_take J);have hf:=List.count_le_length (a:=l[k]) (l:=l.take k);rw [dV aT];generalize l[k]=y at *;have av:-1<=b/\b<=1000000:=by
   rcases aI with ⟨_,rfl⟩ | ⟨h,_⟩
   ·omega
   ·have:=Nn b h; omega
  rw [List.length_take] at hf;have cv:sk si 0 m y=some ((l.take k).count y:Int):=by unfold sk; rw [if_pos (JJ ⟨by omega,ax.2⟩),af]
  have b9:aJ (((l.take k).count y:Int)+1)=(((l.take k).count y+1:Nat):Int):=eB _ (by omega);have fG:zP si m y (((l.take k).count y+1:Nat):Int)=some ((y,(((l.take k).count y+1:Nat):Int))::m):=by
   unfold zP;rw [JJ ⟨by omega,ax.2⟩,Bool.true_and,if_pos (decide_eq_true (by simp only [lim]; omega))]
  have N0:∀ x,(o4 ((y,(((l.take k).count y+1:Nat):Int))::m) x).getD 0=((l.take (k+1)).count x:Int):=λx=>by
   rw [ga,wX];unfold o4;by_cases e:y=x
   ·subst e; rw [if_pos rfl,if_pos rfl]; rfl
   ·rw [if_neg e,if_neg e,af]; rfl
  have mU:∀ x,(-1<=x/\x<=1000000)->sk si 0 ((y,(((l.take k).count y+1:Nat):Int))::m) x=some ((l.take (k+1)).count x:Int):=λx J=>by unfold sk; rw [if_pos (JJ J),N0]
  have aB:=aI.snoc (y:=y) (λx J=>(Nn x J).1) ax.1;rw [<- ga] at aB;have iq:=List.count_le_length (a:=y) (l:=l.take (k+1));have tZ:=List.count_le_length (a:=b) (l:=l.take (k+1));rw [List.length_take] at iq tZ;simp only [Option.bind_some,cv,b9,fG,mU y ⟨by omega,ax.2⟩,mU b av];have hw:aJ (((l.take (k+1)).count y:Int) - ((l.take (k+1)).count b:Int))=((l.take (k+1)).count y:Int) - ((l.take (k+1)).count b:Int):=by rw [cB]; omega
  rw [hw];refine .aA (Ξ:=λr:List (Int × Int) × Int=>r.1=(y,(((l.take k).count y+1:Nat):Int))::m/\oD (l.take (k+1)) r.2) ?_ λr aq=>.ao ⟨aT,rfl,by rw [aq.1]; simp [h1],by rw [aq.1]; exact N0,aq.2⟩;refine .aA (Ξ:=λc:Bool=>c=decide (b<0\/(l.take (k+1)).count b<(l.take (k+1)).count y\/((l.take (k+1)).count y=(l.take (k+1)).count b/\y<b))) ?_ λc aa=>?_
  ·refine Tot.bp (λh=>.ao (decide_eq_true (.inl h)).symm) (λh=>Tot.bp (λaR=>.ao (decide_eq_true (.inr (.inl (by omega)))).symm) (λaR=>Tot.bp (λaf=>.ao ?_) (λaf=>.ao (decide_eq_false (by omega)).symm)));exact decide_eq_decide.2 (by omega)
  ·subst aa;refine .aA (Ξ:=λz=>z=(if b<0\/(l.take (k+1)).count b<(l.take (k+1)).count y\/((l.take (k+1)).count y=(l.take (k+1)).count b/\y<b) then y else b)) (Tot.bp (λh=>.ao (if_pos h).symm) (λh=>.ao (if_neg h).symm)) λz aX=>.ao ⟨rfl,?_⟩
   show oD _ z;rw [aX]; exact aB
 ·have e:l.take k=l:=List.take_of_length_le (by omega);rw [e] at aI;exact aI
theorem sD (l:List Int) (ak:l.length<=100000) (aQ:∀ x∈l,0<=x/\x<=1000000):Tot (vZ l) (oD l):=by
 unfold vZ;refine .aA (Ξ:=λr:List Int=>fR iT r/\r.length<=l.length/\∀ x,x∈r↔x∈l) ?_ λD hJ=>?_
 ·refine Tot.upto (λs=>s.2) l.length (λk s=>fR iT s.1/\s.1.length<=k/\∀ x,x∈s.1↔x∈l.take k) rfl (by omega) ⟨.nil,Nat.le_refl 0,λx=>by simp⟩ λk s hk he bc=>?_;obtain ⟨r,i⟩:=s;obtain ⟨h1,af,aI⟩:=bc;simp only at he h1 af aI ⊢;subst he;rw [eB k (by omega)];refine Tot.bp (λaT=>?_) (λdS=>.ao ?_)
  ·have aT:k<l.length:=by omega
   have ga:=k3 aT;rw [dV aT];generalize l[k]=y at *;refine Tot.aV (.aA (D' r y h1 (by omega)) λdm ec=>.ao ⟨aT,rfl,ec.1,by have:=ec.2.1; show dm.length<=k+1; omega,λx=>?_⟩);rw [ga,List.mem_append,List.mem_singleton,<- aI];exact ec.2.2 x
  ·have e:l.take k=l:=List.take_of_length_le (by omega);rw [e] at aI;exact ⟨h1,by omega,aI⟩
 ·obtain ⟨Ue,ab7,Es⟩:=hJ;refine .aA (Ξ:=λr:Int=>oD l r) ?_ λr aq=>.ao aq;refine Tot.upto (λs=>s.2.2) D.length (λk s=>(k=0/\s.1=-1/\s.2.1=0)\/(s.1∈D.take k/\s.2.1=(l.count s.1:Int)/\∀ x∈D.take k,l.count x<l.count s.1\/(l.count x=l.count s.1/\s.1<=x))) rfl (by omega) (.inl ⟨rfl,rfl,rfl⟩) λk s hk he bc=>?_;obtain ⟨b,n,i⟩:=s;simp only at he bc ⊢;subst he;rw [eB k (by omega)];refine Tot.bp (λaT=>?_) (λdS=>.ao ?_)
  ·have aT:k<D.length:=by omega
   have ga:=k3 aT;have EX:=List.getElem_mem aT;have ui:∀ x∈D.take k,x<D[k]:=λx J=>by
    obtain ⟨j,ah,rfl⟩:=List.mem_iff_getElem.1 J;rw [List.length_take] at ah;rw [List.getElem_take];exact OU.1 (LU Ue (by omega) aT (by omega))
   rw [dV aT];generalize D[k]=y at *;have EW:=(Es y).1 EX;refine .aA (Ξ:=λr:Int × Int=>r.1∈D.take (k+1)/\r.2=(l.count r.1:Int)/\∀ x∈D.take (k+1),l.count x<l.count r.1\/(l.count x=l.count r.1/\r.1<=x)) ?_ λr aq=>.ao ⟨aT,rfl,.inr aq⟩;refine .aA (Ξ:=λz:Int=>z=(l.count y:Int)) ?_ λz aX=>?_
   ·refine Tot.upto (λs=>s.2) l.length (λj s=>s.1=((l.take j).count y:Int)) rfl (by omega) (by simp) λj s ah he bc=>?_;obtain ⟨z,i⟩:=s;simp only at he bc ⊢;subst he bc;rw [eB j (by omega)];refine Tot.bp (λeF=>?_) (λdS=>.ao ?_)
    ·have eF:j<l.length:=by omega
     have nO:=k3 eF;have hf:=List.count_le_length (a:=y) (l:=l.take j);rw [List.length_take] at hf;rw [dV eF];generalize l[j]=x at *;simp only [Option.bind_some];refine .aA (Ξ:=λz:Int=>z=((l.take (j+1)).count y:Int)) ?_ λz aX=>.ao ⟨eF,rfl,aX⟩;rw [nO,wX];refine .aA (Ξ:=λz:Int=>z=(((l.take j).count y+if x=y then 1 else 0:Nat):Int)) (Tot.bp (λe=>.ao ?_) (λe=>.ao ?_)) λz aX=>.ao aX
     ·rw [if_pos e,eB _ (by omega)]
     ·rw [if_neg e]; rfl
    ·have e:l.take j=l:=List.take_of_length_le (by omega);rw [e]; rfl
   ·subst aX;refine .aA (Ξ:=λr:Int × Int=>r.1∈D.take (k+1)/\r.2=(l.count r.1:Int)/\∀ x∈D.take (k+1),l.count x<l.count r.1\/(l.count x=l.count r.1/\r.1<=x)) ?_ λr aq=>.ao aq;have xe:=S4 EW;rw [ga];have key:∀ x∈D.take k++[y],x∈D.take k\/x=y:=λx J=>by simpa using J
    refine Tot.bp (λaa=>Tot.aV (.ao ⟨by simp,rfl,λx J=>?_⟩)) (λaa=>?_)
    ·rcases key x J with J | rfl
     ·rcases bc with ⟨rfl,_,_⟩ | ⟨h1,af,aI⟩
      ·simp at J
      ·have:=aI x J; show l.count x<l.count y\/_; omega
     ·exact .inr ⟨rfl,Int.le_refl _⟩
    ·rcases bc with ⟨rfl,_,rfl⟩ | ⟨h1,af,aI⟩
     ·omega
     ·refine .ao ⟨by simp [h1],af,λx J=>?_⟩;rcases key x J with J | rfl
      ·exact aI x J
      ·have:=ui b h1;have aa:¬ ((n:Int)<(l.count x:Int)):=aa;have af:n=(l.count b:Int):=af;show l.count x<l.count b\/(l.count x=l.count b/\b<=x);omega
  ·have e:D.take k=D:=List.take_of_length_le (by omega);rw [e] at bc;rcases bc with ⟨rfl,rfl,_⟩ | ⟨h1,af,aI⟩
   ·have:D=[]:=List.eq_nil_of_length_eq_zero (by omega);refine .inl ⟨?_,rfl⟩;refine List.eq_nil_iff_forall_not_mem.2 λx J=>?_;have:=(Es x).2 J
    subst_vars
    cases this
   ·exact .inr ⟨(Es b).1 h1,λx J=>aI x ((Es x).2 J)⟩
def g_ (l:List Int):Int:=(vZ l).getD (-1)
def GM (l:List Int):Prop:=l.length<=100000/\∀ x∈l,0<=x/\x<=1000000
theorem CH {l:List Int}(h:GM l):v7 l=some (g_ l)/\vZ l=some (g_ l)/\oD l (g_ l):=by
 obtain ⟨v,hv,h1⟩:=za l h.1 h.2;obtain ⟨w,hw,af⟩:=sD l h.1 h.2;have e:g_ l=w:=by unfold g_; rw [hw]; rfl
 have b9:=h1.uniq af
 grind
def hN {α:Type}(keep:α->Bool) (val:α->Int) (l:List α):List b4:=(l.zipIdx.filter λp=>keep p.1).map λp=>(⟨(p.2:Nat),val p.1⟩:b4)
theorem FG {α:Type}(keep:α->Bool) (val:α->Int) (l:List α) (x:α):hN keep val (l++[x])=hN keep val l++(if keep x=true then [(⟨l.length,val x⟩:b4)] else []):=by
 grind [hN]
theorem tb {α:Type}(keep:α->Bool) (val:α->Int) (l:List α):(hN keep val l).length<=l.length:=by
 grind [hN,List.length_zipIdx]
theorem OV {α:Type}{keep:α->Bool}{val:α->Int}{l:List α}{p:b4}:p∈hN keep val l↔∃ (k:Nat) (x:α),l[k]?=some x/\keep x=true/\p=⟨k,val x⟩:=by
 unfold hN;rw [List.mem_map];constructor
 ·grind
 ·rintro ⟨k,x,h1,af,rfl⟩;exact ⟨(x,k),by rw [List.mem_filter,List.mem_zipIdx_iff_getElem?]; exact ⟨h1,af⟩,rfl⟩
def red (r:List Act):List Int:=(r.filter λa=>decide (a.Kind=2)).map (·.N)
theorem PF (r:List Act) (a:Act):red (r++[a])=red r++(if a.Kind=2 then [a.N] else []):=by
 grind [red]
theorem Kn (r:List Act):(red r).length<=r.length:=by
 grind [red]
def lb (a:Act):Int:=(mF a).getD 0
theorem Mi (a:Act):Ah a=some (lb a)/\mF a=some (lb a):=by
 obtain ⟨c,aa,_⟩:=Qw a
 grind [lb,Tg]
def jY (d:Int) (a:Act):Bool:=!decide (a.Kind=0)&&(!decide (a.Kind=2)||!decide (a.N=d))
def lv (r:List Act):Row:=⟨g_ (red r),hN (jY (g_ (red r))) lb r⟩
def lQ (d v:Int):Bool:=decide (0<=v)&&!decide (v=d)
def pos (c:List Int):List Int:=c.filter λv=>decide (0<=v)
theorem PA (r:List Int) (a:Int):pos (r++[a])=pos r++(if 0<=a then [a] else []):=by
 grind [pos]
def lx (c:List Int):Row:=⟨g_ (pos c),hN (lQ (g_ (pos c))) id c⟩
def eg (d:gT) (a:Nat):List Int:=d.ei.map λr=>r.getD a 0
theorem Ko {g:bN}{n:Nat}(aO:gz g) {r:List Act}(ak:r.length=g.ba.length) (h:∀ a∈r,oA g n a):GM (red r):=by
 have aw:=aO.kE;have au:=aO.hX;have:=Kn r;refine ⟨by omega,λx J=>?_⟩;unfold red at J;obtain ⟨a,aP,rfl⟩:=List.mem_map.1 J;rw [List.mem_filter] at aP;have hk:=(h a aP.1).oX (of_decide_eq_true aP.2);have h1:=hk.1;have af:=hk.2;omega
theorem Pz {c:List Int}(ak:c.length<=150) (h:∀ v∈c,v<150):GM (pos c):=by
 have:=List.length_filter_le (λv:Int=>decide (0<=v)) c;refine ⟨by unfold pos; omega,λx J=>?_⟩
 grind [pos]
theorem tF (g:bN) (n:Nat) (d:gT) (aS:sw g n d):Tot (CT d) λr=>r=d.cz.map lv:=by
 have aO:=aS.rV;have aw:=aO.kE;have aF:=aS.gH;have aP:=aS.a;unfold CT;refine .aA (Ξ:=λr:List Row=>r=d.cz.map lv) ?_ λr aq=>.ao aq;refine Tot.upto (λs=>s.2) d.cz.length (λk s=>s.1=(d.cz.take k).map lv) rfl (by omega) rfl λk s hk he bc=>?_;obtain ⟨R,i⟩:=s;simp only at he bc ⊢;subst he bc;rw [eB k (by omega)];refine Tot.bp (λaT=>?_) (λdS=>.ao ?_)
 ·have aT:k<d.cz.length:=by omega
  have ga:=k3 aT;obtain ⟨l6,sT⟩:=aS.jH _ (List.getElem_mem aT);simp only [dV aT,Option.bind_some];generalize d.cz[k]=r at *;have nN:=Ko aO l6 sT;obtain ⟨w1,Bg,_⟩:=CH nN;refine .aA (Ξ:=λl:List Int=>l=red r) ?_ λl ak=>?_
  ·refine Tot.upto (λs=>s.2) r.length (λj s=>s.1=red (r.take j)) rfl (by omega) rfl λj s ah he bc=>?_;obtain ⟨L,i⟩:=s;simp only at he bc ⊢;subst he bc;rw [eB j (by omega)];refine Tot.bp (λeF=>?_) (λdS=>.ao ?_)
   ·have eF:j<r.length:=by omega
    have nO:=k3 eF;have hlen:=Kn (r.take j);rw [List.length_take] at hlen;simp only [dV eF,Option.bind_some];generalize r[j]=a at *;refine .aA (Ξ:=λL:List Int=>L=red (r.take (j+1))) ?_ λr aq=>.ao ⟨eF,rfl,aq⟩;rw [nO,PF];refine .aA (Ξ:=λL:List Int=>L=red (r.take j)++(if a.Kind=2 then [a.N] else [])) (Tot.bp (λh=>?_) (λh=>.ao ?_)) λr aq=>.ao aq
    ·rw [if_pos h];exact .aA (Ξ:=λ_=>True) (Tot.ap (by simp [lim]; omega) trivial) λ_ _=>.ao rfl
    grind
   grind
  ·subst ak;rw [w1];refine Tot.aV (.aA (Ξ:=λl:List b4=>l=hN (jY (g_ (red r))) lb r) ?_ λl ak=>?_)
   ·generalize g_ (red r)=D;refine Tot.upto (λs=>s.2) r.length (λj s=>s.1=hN (jY D) lb (r.take j)) rfl (by omega) rfl λj s ah he bc=>?_;obtain ⟨L,i⟩:=s;simp only at he bc ⊢;subst he bc;rw [eB j (by omega)];refine Tot.bp (λeF=>?_) (λdS=>.ao ?_)
    ·have eF:j<r.length:=by omega
     have nO:=k3 eF;have hlen:=tb (jY D) lb (r.take j);have eZ:(r.take j).length=j:=by rw [List.length_take]; omega
     rw [List.length_take] at hlen;simp only [dV eF,Option.bind_some];generalize r[j]=a at *;rw [(Mi a).1];refine .aA (Ξ:=λL:List b4=>L=hN (jY D) lb (r.take (j+1))) ?_ λr aq=>.ao ⟨eF,rfl,aq⟩;rw [nO,FG,eZ];refine .aA (Ξ:=λc:Bool=>c=jY D a) (Tot.bE (λh=>?_) (λh=>.ao ?_)) λc aa=>?_
     ·refine Tot.bE (λaf=>.ao ?_) (λaf=>.ao ?_)
      all_goals grind [jY]
     ·grind [jY]
     subst aa;refine .aA (Ξ:=λL:List b4=>L=hN (jY D) lb (r.take j)++(if jY D a=true then [(⟨j,lb a⟩:b4)] else [])) (Tot.bE (λh=>?_) (λh=>.ao ?_)) λr aq=>.ao aq
     ·rw [if_pos h];exact Tot.aV (.aA (Ξ:=λ_=>True) (Tot.ap (by simp [lim]; omega) trivial) λ_ _=>.ao rfl)
     grind
    grind
   ·subst ak;refine .aA (Ξ:=λ_=>True) (Tot.ap (by simp [lim]; omega) trivial) λ_ _=>.ao ⟨aT,rfl,?_⟩
    grind [lv]
 grind
theorem tD (g:bN) (n:Nat) (d:gT) (aS:sw g n d):Tot (z' d) λr=>r=d.cz.map lv:=by
 have aO:=aS.rV;have aw:=aO.kE;have aF:=aS.gH;have aP:=aS.a;unfold z';refine .aA (Ξ:=λr:List Row=>r=d.cz.map lv) ?_ λr aq=>.ao aq;refine Tot.upto (λs=>s.2) d.cz.length (λk s=>s.1=(d.cz.take k).map lv) rfl (by omega) rfl λk s hk he bc=>?_;obtain ⟨R,i⟩:=s;simp only at he bc ⊢;subst he bc;rw [eB k (by omega)];refine Tot.bp (λaT=>?_) (λdS=>.ao ?_)
 ·have aT:k<d.cz.length:=by omega
  have ga:=k3 aT;obtain ⟨l6,sT⟩:=aS.jH _ (List.getElem_mem aT);simp only [dV aT,Option.bind_some];generalize d.cz[k]=r at *;have nN:=Ko aO l6 sT;obtain ⟨w1,Bg,_⟩:=CH nN;refine .aA (Ξ:=λl:List Int=>l=red r) ?_ λl ak=>?_
  ·refine Tot.upto (λs=>s.2) r.length (λj s=>s.1=red (r.take j)) rfl (by omega) rfl λj s ah he bc=>?_;obtain ⟨L,i⟩:=s;simp only at he bc ⊢;subst he bc;rw [eB j (by omega)];refine Tot.bp (λeF=>?_) (λdS=>.ao ?_)
   ·have eF:j<r.length:=by omega
    have nO:=k3 eF;have hlen:=Kn (r.take j);rw [List.length_take] at hlen;simp only [dV eF,Option.bind_some];generalize r[j]=a at *;refine .aA (Ξ:=λL:List Int=>L=red (r.take (j+1))) ?_ λr aq=>.ao ⟨eF,rfl,aq⟩;rw [nO,PF];refine .aA (Ξ:=λL:List Int=>L=red (r.take j)++(if a.Kind=2 then [a.N] else [])) (Tot.bp (λh=>?_) (λh=>.ao ?_)) λr aq=>.ao aq
    ·rw [if_pos h];exact .aA (Ξ:=λ_=>True) (Tot.ap (by simp [lim]; omega) trivial) λ_ _=>.ao rfl
    grind
   grind
  ·subst ak;rw [Bg];refine Tot.aV (.aA (Ξ:=λl:List b4=>l=hN (jY (g_ (red r))) lb r) ?_ λl ak=>?_)
   ·generalize g_ (red r)=D;refine Tot.upto (λs=>s.2) r.length (λj s=>s.1=hN (jY D) lb (r.take j)) rfl (by omega) rfl λj s ah he bc=>?_;obtain ⟨L,i⟩:=s;simp only at he bc ⊢;subst he bc;rw [eB j (by omega)];refine Tot.bp (λeF=>?_) (λdS=>.ao ?_)
    ·have eF:j<r.length:=by omega
     have nO:=k3 eF;have hlen:=tb (jY D) lb (r.take j);have eZ:(r.take j).length=j:=by rw [List.length_take]; omega
     rw [List.length_take] at hlen;simp only [dV eF,Option.bind_some];generalize r[j]=a at *;rw [(Mi a).2];refine .aA (Ξ:=λL:List b4=>L=hN (jY D) lb (r.take (j+1))) ?_ λr aq=>.ao ⟨eF,rfl,aq⟩;rw [nO,FG,eZ];refine .aA (Ξ:=λc:Bool=>c=jY D a) (Tot.bE (λh=>?_) (λh=>.ao ?_)) λc aa=>?_
     ·refine Tot.bE (λaf=>.ao ?_) (λaf=>.ao ?_)
      all_goals grind [jY]
     ·grind [jY]
     subst aa;refine .aA (Ξ:=λL:List b4=>L=hN (jY D) lb (r.take j)++(if jY D a=true then [(⟨j,lb a⟩:b4)] else [])) (Tot.bE (λh=>?_) (λh=>.ao ?_)) λr aq=>.ao aq
     ·rw [if_pos h];exact Tot.aV (.aA (Ξ:=λ_=>True) (Tot.ap (by simp [lim]; omega) trivial) λ_ _=>.ao rfl)
     grind
    grind
   ·subst ak;refine .aA (Ξ:=λ_=>True) (Tot.ap (by simp [lim]; omega) trivial) λ_ _=>.ao ⟨aT,rfl,?_⟩
    grind [lv]
 grind
theorem wW (d:gT) (a:Nat):(eg d a).length=d.ei.length:=by simp [eg]
theorem Ea {d:gT}{a q:Nat}(h:q<d.ei.length):(eg d a).take (q+1)=(eg d a).take q++[(d.ei[q]).getD a 0]:=by
 rw [k3 (by rw [wW]; exact h)];congr 2;simp [eg]
theorem Mj {g:bN}{n:Nat}{d:gT}(aS:sw g n d) {a:Nat}(aP:a<g.b2.length):∀ v∈eg d a,-1<=v/\v<n:=λv hv=>by
 unfold eg at hv;obtain ⟨r,aq,rfl⟩:=List.mem_map.1 hv;obtain ⟨h1,af⟩:=aS.xV r aq;refine af _ ?_;rw [List.getD_eq_getElem?_getD,List.getElem?_eq_getElem (by omega)];exact List.getElem_mem _
theorem E3 {r:List Int}{a:Nat}(h:a<r.length):idx r (a:Int)=some (r.getD a 0):=by
 rw [dV h,List.getD_eq_getElem?_getD,List.getElem?_eq_getElem h]; rfl
theorem Py (c:List Int):(pos c).length<=c.length:=List.length_filter_le ..
theorem R9 (g:bN) (n:Nat) (d:gT) (aS:sw g n d):Tot (CU d) λr=>r=(List.range g.b2.length).map λa=>lx (eg d a):=by
 have aO:=aS.rV;have aw:=aO.dx;have aF:=aS.gH;have aP:=aS.o;have aQ:0<d.ei.length:=by omega
 obtain ⟨V2,_⟩:=aS.xV _ (List.getElem_mem aQ);have i0:idx d.ei 0=some d.ei[0]:=dV (k:=0) aQ;unfold CU;refine Tot.bp (λh=>absurd h (by omega)) (λ_=>?_);rw [i0];refine Tot.aV (.aA (Ξ:=λr:List Row=>r=(List.range g.b2.length).map λa=>lx (eg d a)) ?_ λr aq=>.ao aq);refine Tot.upto (λs=>s.2) g.b2.length (λk s=>s.1=(List.range k).map λa=>lx (eg d a)) rfl (by omega) rfl λk s hk he bc=>?_;obtain ⟨R,i⟩:=s;simp only at he bc ⊢;subst he bc;rw [eB k (by omega)];refine Tot.bp (λaT=>?_) (λdS=>.ao ?_)
 ·have ib:k<g.b2.length:=by omega
  have nN:=Pz (c:=eg d k) (by rw [wW]; omega) λv hv=>by have:=(Mj aS ib v hv).2; omega
  obtain ⟨w1,Bg,_⟩:=CH nN;have hf:=wW d k;refine .aA (Ξ:=λl:List Int=>l=pos (eg d k)) ?_ λl ak=>?_
  ·refine Tot.upto (λs=>s.2) d.ei.length (λj s=>s.1=pos ((eg d k).take j)) rfl (by omega) rfl λj s ah he bc=>?_;obtain ⟨L,i⟩:=s;simp only at he bc ⊢;subst he bc;rw [eB j (by omega)];refine Tot.bp (λeF=>?_) (λdS=>.ao ?_)
   ·have eF:j<d.ei.length:=by omega
    have nO:=Ea (a:=k) eF;have hlen:=Py ((eg d k).take j);rw [List.length_take] at hlen;obtain ⟨l6,_⟩:=aS.xV _ (List.getElem_mem eF);simp only [dV eF,Option.bind_some,E3 (show k<(d.ei[j]).length by omega)];generalize (d.ei[j]).getD k 0=v at *;refine .aA (Ξ:=λL:List Int=>L=pos ((eg d k).take (j+1))) ?_ λr aq=>.ao ⟨eF,rfl,aq⟩;rw [nO,PA];refine .aA (Ξ:=λL:List Int=>L=pos ((eg d k).take j)++(if 0<=v then [v] else [])) (Tot.bp (λh=>?_) (λh=>.ao ?_)) λr aq=>.ao aq
    ·rw [if_pos h];exact .aA (Ξ:=λ_=>True) (Tot.ap (by simp [lim]; omega) trivial) λ_ _=>.ao rfl
    ·rw [if_neg h,List.append_nil]
   ·have e:(eg d k).take j=eg d k:=List.take_of_length_le (by omega);rw [e]; rfl
  ·subst ak;rw [w1];refine Tot.aV (.aA (Ξ:=λl:List b4=>l=hN (lQ (g_ (pos (eg d k)))) id (eg d k)) ?_ λl ak=>?_)
   ·generalize g_ (pos (eg d k))=D;refine Tot.upto (λs=>s.2) d.ei.length (λj s=>s.1=hN (lQ D) id ((eg d k).take j)) rfl (by omega) rfl λj s ah he bc=>?_;obtain ⟨L,i⟩:=s;simp only at he bc ⊢;subst he bc;rw [eB j (by omega)];refine Tot.bp (λeF=>?_) (λdS=>.ao ?_)
    ·have eF:j<d.ei.length:=by omega
     have nO:=Ea (a:=k) eF;have hlen:=tb (lQ D) id ((eg d k).take j);have eZ:((eg d k).take j).length=j:=by rw [List.length_take]; omega
     rw [eZ] at hlen;obtain ⟨l6,_⟩:=aS.xV _ (List.getElem_mem eF);simp only [dV eF,Option.bind_some,E3 (show k<(d.ei[j]).length by omega)];generalize (d.ei[j]).getD k 0=v at *;refine .aA (Ξ:=λL:List b4=>L=hN (lQ D) id ((eg d k).take (j+1))) ?_ λr aq=>.ao ⟨eF,rfl,aq⟩;rw [nO,FG,eZ];refine .aA (Ξ:=λc:Bool=>c=lQ D v) (Tot.bE (λh=>.ao ?_) (λh=>.ao ?_)) λc aa=>?_
     ·unfold lQ; rw [h]; rfl
     ·unfold lQ; rw [h]; rfl
     subst aa;refine .aA (Ξ:=λL:List b4=>L=hN (lQ D) id ((eg d k).take j)++(if lQ D v=true then [(⟨j,id v⟩:b4)] else [])) (Tot.bE (λh=>?_) (λh=>.ao ?_)) λr aq=>.ao aq
     ·rw [if_pos h];exact .aA (Ξ:=λ_=>True) (Tot.ap (by simp [lim]; omega) trivial) λ_ _=>.ao rfl
     ·rw [if_neg (by rw [h]; decide),List.append_nil]
    ·have e:(eg d k).take j=eg d k:=List.take_of_length_le (by omega);rw [e]; rfl
   ·subst ak;refine .aA (Ξ:=λ_=>True) (Tot.ap (by simp [lim]; omega) trivial) λ_ _=>.ao ⟨ib,rfl,?_⟩;show _=(List.range (k+1)).map λa=>lx (eg d a);rw [List.range_succ,List.map_append]; rfl
 ·have:k=g.b2.length:=by omega
  subst this; rfl
theorem nB (g:bN) (n:Nat) (d:gT) (aS:sw g n d):Tot (Aa d) λr=>r=(List.range g.b2.length).map λa=>lx (eg d a):=by
 have aO:=aS.rV;have aw:=aO.dx;have aF:=aS.gH;have aP:=aS.o;have aQ:0<d.ei.length:=by omega
 obtain ⟨V2,_⟩:=aS.xV _ (List.getElem_mem aQ);have i0:idx d.ei 0=some d.ei[0]:=dV (k:=0) aQ;have g0:decide ((0:Int)<(d.ei.length:Int))=true:=decide_eq_true (by omega);unfold Aa;refine .aA (Ξ:=λr:List Row=>r=(List.range g.b2.length).map λa=>lx (eg d a)) ?_ λr aq=>.ao aq;refine Tot.upto (λs=>s.2) g.b2.length (λk s=>s.1=(List.range k).map λa=>lx (eg d a)) rfl (by omega) rfl λk s hk he bc=>?_;obtain ⟨R,i⟩:=s;simp only at he bc ⊢;subst he bc;rw [eB k (by omega),g0,i0];simp only [cond_true,Option.bind_some];refine Tot.bp (λaT=>?_) (λdS=>.ao ?_)
 ·have ib:k<g.b2.length:=by omega
  have nN:=Pz (c:=eg d k) (by rw [wW]; omega) λv hv=>by have:=(Mj aS ib v hv).2; omega
  obtain ⟨w1,Bg,_⟩:=CH nN;have hf:=wW d k;refine .aA (Ξ:=λl:List Int=>l=pos (eg d k)) ?_ λl ak=>?_
  ·refine Tot.upto (λs=>s.2) d.ei.length (λj s=>s.1=pos ((eg d k).take j)) rfl (by omega) rfl λj s ah he bc=>?_;obtain ⟨L,i⟩:=s;simp only at he bc ⊢;subst he bc;rw [eB j (by omega)];refine Tot.bp (λeF=>?_) (λdS=>.ao ?_)
   ·have eF:j<d.ei.length:=by omega
    have nO:=Ea (a:=k) eF;have hlen:=Py ((eg d k).take j);rw [List.length_take] at hlen;obtain ⟨l6,_⟩:=aS.xV _ (List.getElem_mem eF);simp only [dV eF,Option.bind_some,E3 (show k<(d.ei[j]).length by omega)];generalize (d.ei[j]).getD k 0=v at *;refine .aA (Ξ:=λL:List Int=>L=pos ((eg d k).take (j+1))) ?_ λr aq=>.ao ⟨eF,rfl,aq⟩;rw [nO,PA];refine .aA (Ξ:=λL:List Int=>L=pos ((eg d k).take j)++(if 0<=v then [v] else [])) (Tot.bp (λh=>?_) (λh=>.ao ?_)) λr aq=>.ao aq
    ·rw [if_pos h];exact .aA (Ξ:=λ_=>True) (Tot.ap (by simp [lim]; omega) trivial) λ_ _=>.ao rfl
    ·rw [if_neg h,List.append_nil]
   ·have e:(eg d k).take j=eg d k:=List.take_of_length_le (by omega);rw [e]; rfl
  ·subst ak;rw [Bg];refine Tot.aV (.aA (Ξ:=λl:List b4=>l=hN (lQ (g_ (pos (eg d k)))) id (eg d k)) ?_ λl ak=>?_)
   ·generalize g_ (pos (eg d k))=D;refine Tot.upto (λs=>s.2) d.ei.length (λj s=>s.1=hN (lQ D) id ((eg d k).take j)) rfl (by omega) rfl λj s ah he bc=>?_;obtain ⟨L,i⟩:=s;simp only at he bc ⊢;subst he bc;rw [eB j (by omega)];refine Tot.bp (λeF=>?_) (λdS=>.ao ?_)
    ·have eF:j<d.ei.length:=by omega
     have nO:=Ea (a:=k) eF;have hlen:=tb (lQ D) id ((eg d k).take j);have eZ:((eg d k).take j).length=j:=by rw [List.length_take]; omega
     rw [eZ] at hlen;obtain ⟨l6,_⟩:=aS.xV _ (List.getElem_mem eF);simp only [dV eF,Option.bind_some,E3 (show k<(d.ei[j]).length by omega)];generalize (d.ei[j]).getD k 0=v at *;refine .aA (Ξ:=λL:List b4=>L=hN (lQ D) id ((eg d k).take (j+1))) ?_ λr aq=>.ao ⟨eF,rfl,aq⟩;rw [nO,FG,eZ];refine .aA (Ξ:=λc:Bool=>c=lQ D v) (Tot.bE (λh=>.ao ?_) (λh=>.ao ?_)) λc aa=>?_
     ·unfold lQ; rw [h]; rfl
     ·unfold lQ; rw [h]; rfl
     subst aa;refine .aA (Ξ:=λL:List b4=>L=hN (lQ D) id ((eg d k).take j)++(if lQ D v=true then [(⟨j,id v⟩:b4)] else [])) (Tot.bE (λh=>?_) (λh=>.ao ?_)) λr aq=>.ao aq
     ·rw [if_pos h];exact .aA (Ξ:=λ_=>True) (Tot.ap (by simp [lim]; omega) trivial) λ_ _=>.ao rfl
     ·rw [if_neg (by rw [h]; decide),List.append_nil]
    ·have e:(eg d k).take j=eg d k:=List.take_of_length_le (by omega);rw [e]; rfl
   ·subst ak;refine .aA (Ξ:=λ_=>True) (Tot.ap (by simp [lim]; omega) trivial) λ_ _=>.ao ⟨ib,rfl,?_⟩;show _=(List.range (k+1)).map λa=>lx (eg d a);rw [List.range_succ,List.map_append]; rfl
 ·have:k=g.b2.length:=by omega
  subst this; rfl
theorem X7 {α:Type}(keep:α->Bool) (val:α->Int) (l:List α):(hN keep val l).Pairwise λa b=>a.At<b.At:=by
 unfold hN;rw [List.pairwise_map];refine List.Pairwise.sublist List.filter_sublist ?_;rw [List.pairwise_iff_getElem];intro i j hi ah acx;simp only [List.getElem_zipIdx];omega
theorem R7 (P:List b4) (i:Int) (h:P.length<=1000000):Tot (s_ P i) λr=>(∃ v,(⟨i,v⟩:b4)∈P/\r=(v,true))\/((∀ v,(⟨i,v⟩:b4)∉P)/\r=(0,false)):=by
 unfold s_;refine .aA (Ξ:=hl (λ_=>∀ v,(⟨i,v⟩:b4)∉P) (λr:Int × Bool=>∃ v,(⟨i,v⟩:b4)∈P/\r=(v,true))) ?_ λx J=>?_
 ·refine Tot.upto (λs=>s) P.length (λk _=>∀ v,(⟨i,v⟩:b4)∉P.take k) rfl (by omega) (by simp) λk s hk he bc=>?_;subst he;rw [eB k (by omega)];refine Tot.bp (λaT=>?_) (λ_=>.ao ?_)
  ·have aT:k<P.length:=by omega
   have ga:=k3 aT;have hm:=List.getElem_mem aT;simp only [dV aT,Option.bind_some];generalize P[k]=p at *;refine Tot.bp (λe=>.ao ⟨p.b8,by rw [<- e]; exact hm,rfl⟩) (λe=>.ao ⟨aT,rfl,λv hv=>?_⟩);rw [ga,List.mem_append,List.mem_singleton] at hv;rcases hv with hv | hv
   ·exact bc v hv
   ·exact e (by rw [<- hv])
  ·have e:P.take k=P:=List.take_of_length_le (by omega);rw [e] at bc;exact bc
 ·rcases x with x | x
  ·exact .ao (.inr ⟨J,rfl⟩)
  ·exact .ao (.inl J)
theorem TK {α:Type}{keep:α->Bool}{val:α->Int}{l:List α}{k:Nat}{x:α}(ak:l.length<=1000000) (hk:l[k]?=some x):s_ (hN keep val l) (k:Int)=some (if keep x=true then (val x,true) else (0,false)):=by
 obtain ⟨r,aq,h⟩:=R7 (hN keep val l) k (by have:=tb keep val l; omega);rw [aq];have key:∀ v,(⟨(k:Nat),v⟩:b4)∈hN keep val l↔keep x=true/\v=val x:=λv=>by
  rw [OV];constructor
  ·rintro ⟨j,y,h1,af,aI⟩;simp only [b4.mk.injEq] at aI;have:k=j:=by omega
   subst this;rw [hk] at h1; cases h1;exact ⟨af,aI.2⟩
  ·rintro ⟨h1,rfl⟩;exact ⟨k,x,hk,h1,rfl⟩
 rcases h with ⟨v,h1,rfl⟩ | ⟨h1,rfl⟩
 ·obtain ⟨af,rfl⟩:=(key v).1 h1;rw [if_pos af]
 ·rw [if_neg λh=>h1 (val x) ((key _).2 ⟨h,rfl⟩)]
theorem SB {g:bN}{n:Nat}(aO:gz g) (aF:n<=150) {a:Act}(h:oA g n a) (aQ:a.Kind≠0):x4 (lb a)=some a:=by
 rw [Ht];obtain ⟨c,aa,aS⟩:=Se a;have au:=aO.hX;have:lb a=c:=by unfold lb; rw [aa]; rfl
 rw [this];refine aS.resolve_left λe=>?_;subst e;obtain ⟨K,N⟩:=a;have h1:=h.k;simp only at h1 aQ;have:K=1\/K=2\/K=3\/K=4:=by omega
 rcases this with rfl | rfl | rfl | rfl
 ·have af:=h.nm rfl;simp only at af;have aI:0<=N/\N<=19999:=by omega
  have e:aJ (N+1)=N+1:=by rw [cB]; omega
  simp [mF,aI,e] at aa;omega
 ·have af:=h.oX rfl;have bF:=af.1;have cF:=af.2;simp only at bF cF;have aI:1<=N/\N<=19999:=by omega
  have e:aJ (-N)=-N:=by rw [cB]; omega
  simp [mF,aI,e] at aa;omega
 ·have af:N=0:=h.OY rfl;subst af;have:mF ⟨3,0⟩=some 20001:=by decide
  rw [this] at aa; cases aa
 ·have af:N=0:=h.Xo rfl;subst af;have:mF ⟨4,0⟩=some 20002:=by decide
  rw [this] at aa; cases aa
abbrev fD:=List b4
structure lD (r:fD):Prop where
 mm:∀ p∈r,0<=p.At/\p.At<=999
 nd:(r.map (·.At)).Nodup
def Fit (iE:List Int) (r:fD) (b:Nat):Prop:=∀ p∈r,iE.getD (b+p.At.toNat) 0=0
theorem sY {α:Type}{l:List α}{k:Nat}(h:k<l.length):idx l (k:Int)=some l[k]:=by simp [idx,h]
theorem Su (p:b4) (b:Nat) (iE:List Int) (au:0<=p.At/\p.At<=999) (av:b<=1000000000000) (aa:iE.length<=1000000000000):Tot (Db p b iE) λc=>(c=true↔iE.getD (b+p.At.toNat) 0≠0):=by
 unfold Db;have hw:aJ ((b:Int)+p.At)=((b+p.At.toNat:Nat):Int):=by rw [cB]; omega
 rw [hw];refine .aA (Ξ:=λc=>(c=true↔iE.getD (b+p.At.toNat) 0≠0)) (Tot.bp (λh=>?_) (λh=>.ao ?_)) λc aa=>.ao aa
 ·have ak:b+p.At.toNat<iE.length:=by omega
  rw [sY ak];refine Tot.aV (.ao ?_);rw [List.getD_eq_getElem?_getD,List.getElem?_eq_getElem ak];simp
 ·have ak:¬ b+p.At.toNat<iE.length:=by omega
  rw [List.getD_eq_getElem?_getD,List.getElem?_eq_none (by omega)];simp
theorem Sm (iE:List Int) (r:fD) (b:Nat) (aq:∀ p∈r,0<=p.At/\p.At<=999) (ak:r.length<=100000) (av:b<=1000000000000) (aa:iE.length<=1000000000000):Tot (x9 iE r b) λc=>(c=true↔Fit iE r b):=by
 unfold x9 FB Fz;refine .aA (Ξ:=λx=>x=true↔¬ Fit iE r b) (.aA (Ξ:=λx=>(x=-1/\Fit iE r b)\/(0<=x/\¬ Fit iE r b)) ?_ λx J=>.ao ?_) λx J=>.ao ?_
 ·refine Tot.aA (Tot.scan r (λp=>iE.getD (b+p.At.toNat) 0=0) (λx:Int=>0<=x/\¬ Fit iE r b) (by omega) (λs y aQ h1 hi hm=>?_) (λs aB=>by simp [aB])) λx J=>?_
  ·refine Tot.bp (λ_=>?_) (λh=>absurd h1 h);rw [hi];refine Tot.aV (.aA (Su y b iE (aq y hm) av aa) λc Nx=>Tot.bE (λh=>.ao ⟨aQ,λaW=>(Nx.1 h) (aW y hm)⟩) (λh=>.ao ⟨?_,?_⟩))
   ·rw [cB]; omega
   ·exact Classical.byContradiction λaF=>by rw [Nx.2 aF] at h; cases h
  ·rcases x with _ | x
   ·exact .ao (.inl ⟨rfl,J⟩)
   ·exact .ao (.inr J)
 ·rcases J with ⟨rfl,aW⟩ | ⟨aQ,aW⟩
  ·simp [aW]
  ·simp [aQ,aW]
 ·cases x <;> simp_all
theorem q3 (l:List Int) (h:l.length<=100000000000000000):Tot (oZ l l) λc=>c=true:=by
 unfold oZ;refine Tot.oL (λh=>absurd rfl h) (λ_=>?_);refine Tot.aA (Tot.scan l (λ_=>True) (λ_=>False) h (λs y aQ h1 hi hm=>?_) (λs aB=>by simp [aB])) λx J=>?_
 ·refine Tot.bp (λ_=>?_) (λh=>absurd h1 h);rw [hi];refine Tot.aV (Tot.aV (Tot.oL (λh=>absurd rfl h) (λ_=>.ao ⟨?_,trivial⟩)));rw [cB]; omega
 ·rcases x with _ | x
  ·exact .ao rfl
  ·exact (J:False).elim
theorem A_ (a b:Int):uE a b=some (if a<b then -1 else if b<a then 1 else 0):=by
 unfold uE;have h:∀ x,v_ x=some false:=λx=>by simp [v_]
 rw [h,h];by_cases h1:a<b
 ·simp [h1]
 ·by_cases af:b<a <;> simp [h1,af]
theorem Sl (a b:Int):C4 [a,b]=some (if a=0 then b else a):=by
 unfold C4;have gS:∀ (f:Int->Option (Int ⊕ (Unit ⊕ Int))),f 0=(if a=0 then some (.inl 1) else some (.inr (.inr a)))->f 1=(if b=0 then some (.inl 2) else some (.inr (.inr b)))->f 2=some (.inr (.inl ()))->b1 f 0=some (if a=0 then (if b=0 then .inl () else .inr b) else .inr a):=by
  intro f x y z;show iter f (999999999999999997+1+1+1) _=_;by_cases aP:a=0
  ·by_cases av:b=0 <;> simp only [iter,x,y,z,aP,av,if_true,if_false]
  ·simp only [iter,x,aP,if_false]
 rw [gS _ ?_ ?_ ?_]
 ·by_cases aP:a=0
  ·by_cases av:b=0 <;> simp [aP,av]
  ·simp [aP]
 ·show (bif decide ((0:Int)<2) then _ else _)=_;have e:idx [a,b] 0=some a:=rfl;simp only [e,Option.bind_some];by_cases aP:a=0 <;> simp [aP];rfl
 ·show (bif decide ((1:Int)<2) then _ else _)=_;have e:idx [a,b] 1=some b:=rfl;simp only [e,Option.bind_some];by_cases av:b=0 <;> simp [av];rfl
 ·rfl
def DN (rows:List fD) (a b:Int):Prop:=∃ x y,idx rows a=some x/\idx rows b=some y/\(y.length<x.length\/(x.length=y.length/\a<b))
theorem E4 {α:Type}{l:List α}{i:Int}(aQ:0<=i) (h1:i<l.length):∃ y,idx l i=some y/\y∈l:=by
 have aT:i.toNat<l.length:=by omega
 exact ⟨l[i.toNat],by simp [idx,aQ,aT],List.getElem_mem aT⟩
theorem Sk (rows:List fD) (a b:Int) (aP:0<=a/\a<rows.length) (av:0<=b/\b<rows.length):∃ v,v8 a b rows=some v/\(v<0↔DN rows a b):=by
 obtain ⟨x,J,_⟩:=E4 aP.1 aP.2;obtain ⟨y,ax,_⟩:=E4 av.1 av.2;unfold v8;rw [J,ax];simp only [Option.bind_some,A_,Sl];have fg:DN rows a b↔(y.length<x.length\/(x.length=y.length/\a<b)):=by
  unfold DN;rw [J,ax];constructor
  ·rintro ⟨x',y',cv,b9,h⟩;cases cv; cases b9; exact h
  ·intro h;exact ⟨x,y,rfl,rfl,h⟩
 refine ⟨_,rfl,?_⟩;rw [fg];by_cases h1:(y.length:Int)<x.length
 ·simp only [h1,if_true];rw [if_neg (by decide)];constructor
  ·intro _; exact .inl (by omega)
  ·intro _; decide
 ·by_cases af:(x.length:Int)<y.length
  ·simp only [h1,af,if_true,if_false];rw [if_neg (by decide)];constructor
   ·intro h; exact absurd h (by decide)
   ·rintro (h | ⟨h,_⟩) <;> omega
  ·simp only [h1,af,if_false,if_true];by_cases aI:a<b
   ·simp only [aI,if_true];constructor
    ·intro _; exact .inr ⟨by omega,trivial⟩
    ·intro _; decide
   ·simp only [aI,if_false];constructor
    ·intro h
     split at h <;> omega
    ·rintro (h | ⟨_,h⟩)
     ·omega
     ·exact h.elim
structure tr (c:fy) (r:fD) (i b:Nat) (v cd:List Int):Prop where
 len:v.length=cd.length
 lo:c.b3.length<=cd.length
 Oz:∀ p∈r,b+p.At.toNat<cd.length
 hi:cd.length=c.b3.length\/∃ p∈r,cd.length=b+p.At.toNat+1
 iE:∀ p∈r,cd.getD (b+p.At.toNat) 0=(i:Int)+1
 Bd:∀ k,(∀ p∈r,b+p.At.toNat≠k)->cd.getD k 0=c.b3.getD k 0
 val:∀ p∈r,v.getD (b+p.At.toNat) 0=p.b8
 KU:∀ k,(∀ p∈r,b+p.At.toNat≠k)->v.getD k 0=c.b8.getD k 0
structure Step (r:fD) (i:Nat) (c fS:fy) (b:Nat):Prop where
 fit:Fit c.b3 r b
 least:∀ eD,eD<b->¬ Fit c.b3 r eD
 base:fS.cS=c.cS.set i (b:Int)
 put:tr c r i b fS.b8 fS.b3
theorem Fit.same {iE:List Int}{r dm:fD}(h:∀ p,p∈r↔p∈dm) {b:Nat}:Fit iE r b↔Fit iE dm b :=
 ⟨λf p au=>f p ((h p).2 au),λf p au=>f p ((h p).1 au)⟩
inductive dQ (rows:List fD):List Nat->fy->Prop
 | nil:dQ rows [] ⟨List.replicate rows.length 0,[],[]⟩
 | cons {i b:Nat}{l:List Nat}{c fS:fy}{r:fD}(aq:rows[i]?=some r) (hi:i∉l) (h:dQ rows l c) (aB:Step r i c fS b):dQ rows (i::l) fS
theorem dQ.len {rows:List fD}{l:List Nat}{c:fy}(h:dQ rows l c):c.b8.length=c.b3.length/\c.cS.length=rows.length:=by
 induction h with
 | nil=>simp
 | cons _ _ _ aB aU=>exact ⟨aB.put.len,by rw [aB.base,List.length_set]; exact aU.2⟩
theorem dQ.rest {rows:List fD}{l:List Nat}{c:fy}(h:dQ rows l c):∀ j,j<rows.length->j∉l->c.cS[j]?=some 0:=by
 induction h with
 | nil=>intro j ah _; simp [ah]
 | @cons i b l c fS r aq hi h aB aU =>
  intro j ah aF;rw [aB.base,List.getElem?_set_ne (by rintro rfl; exact aF (by simp))];exact aU j ah λbY=>aF (by simp [bY])
theorem pad (x y:Int) (K:Nat) (di:aJ (x+y)=(K:Int)) (aca:K<=1000000000) (v cd:List Int) (ak:v.length=cd.length) (av:cd.length<=1000000000) :
  Tot (b1 (R:=List Int × List Int) (λ(s:List Int × List Int) =>
(bif decide ((s.2.length:Int)<=aJ (x+y)) then
(c' s.2 [0]).bind λcY =>
(c' s.1 [0]).bind λgn =>
some (.inl (s.1++[0],s.2++[0]))
else
some (.inr (s.1,s.2)))) (v,cd)) λr=>r.1.length=r.2.length/\r.2.length=max cd.length (K+1)/\(∀ k,r.1.getD k 0=v.getD k 0)/\∀ k,r.2.getD k 0=cd.getD k 0:=by
 have app:∀ (l:List Int) k,(l++[0]).getD k 0=l.getD k 0:=by
  intro l k;rw [List.getD_eq_getElem?_getD,List.getD_eq_getElem?_getD];by_cases hk:k<l.length
  ·rw [List.getElem?_append_left hk]
  ·rw [List.getElem?_append_right (by omega),List.getElem?_eq_none (l:=l) (by omega)];by_cases aQ:k - l.length=0
   ·rw [aQ]; rfl
   ·rw [List.getElem?_eq_none (by simp; omega)]
 refine Tot.loop (λs=>s.1.length=s.2.length/\cd.length<=s.2.length/\s.2.length<=max cd.length (K+1)/\(∀ k,s.1.getD k 0=v.getD k 0)/\∀ k,s.2.getD k 0=cd.getD k 0) (λs=>(K+1) - s.2.length) ⟨ak,Nat.le_refl _,Nat.le_max_left _ _,λ_=>rfl,λ_=>rfl⟩ (by show (K+1) - cd.length<1000000000000000000; omega) λs aB=>?_;obtain ⟨h1,af,aI,bF,cF⟩:=aB;rw [di];refine Tot.bp (λhle=>?_) (λacr=>.ao ⟨h1,?_,bF,cF⟩)
 ·refine .aA (Ξ:=λ_=>True) (Tot.ap (by simp [lim]; omega) trivial) λ_ _=>.aA (Ξ:=λ_=>True) (Tot.ap (by simp [lim]; omega) trivial) λ_ _=>.ao ⟨⟨?_,?_,?_,λk=>?_,λk=>?_⟩,?_⟩
  ·show (s.1++[0]).length=(s.2++[0]).length; simp [h1]
  ·show cd.length<=(s.2++[0]).length; simp; omega
  ·show (s.2++[0]).length<=_; simp; omega
  ·exact (app _ _).trans (bF k)
  ·exact (app _ _).trans (cF k)
  ·show (K+1) - (s.2++[0]).length<(K+1) - s.2.length;simp; omega
 ·show s.2.length=_; omega
theorem zh (l:List Int) (K k:Nat) (x:Int) (h:K<l.length):(l.set K x).getD k 0=if k=K then x else l.getD k 0:=by
 rw [List.getD_eq_getElem?_getD,List.getElem?_set];by_cases e:k=K
 ·subst e; simp [h]
 ·simp [e,Ne.symm e,List.getD_eq_getElem?_getD]
theorem tr.more {c:fy}{r:fD}{p:b4}{i b:Nat}{v cd gv Bc:List Int}(h:tr c r i b v cd) (au:∀ q∈r,q.At.toNat≠p.At.toNat) (ak:gv.length=Bc.length) (hlen:Bc.length=max cd.length (b+p.At.toNat+1)) (hv:∀ k,gv.getD k 0=v.getD k 0) (aa:∀ k,Bc.getD k 0=cd.getD k 0) :
  tr c (r++[p]) i b (gv.set (b+p.At.toNat) p.b8) (Bc.set (b+p.At.toNat) ((i:Int)+1)):=by
 have di:b+p.At.toNat<Bc.length:=by omega
 have mem:∀ {Q:b4->Prop},(∀ q∈r,Q q)->Q p->∀ q∈r++[p],Q q:=λh1 af q bg=>by
  rcases List.mem_append.1 bg with bg | bg
  ·exact h1 q bg
  ·rw [List.mem_singleton.1 bg]; exact af
 refine ⟨by simp [ak],?_,mem (λq bg=>?_) ?_,?_,mem (λq bg=>?_) ?_,λk hk=>?_,mem (λq bg=>?_) ?_,λk hk=>?_⟩
 ·rw [List.length_set]; have:=h.lo; omega
 ·rw [List.length_set]; have:=h.Oz q bg; omega
 ·rw [List.length_set]; exact di
 ·rw [List.length_set];by_cases hm:cd.length<=b+p.At.toNat+1
  ·exact .inr ⟨p,by simp,by omega⟩
  ·rcases h.hi with e | ⟨q,bg,e⟩
   ·exact .inl (by omega)
   ·exact .inr ⟨q,by simp [bg],by omega⟩
 ·rw [zh _ _ _ _ di,if_neg (by have:=au q bg; omega),aa]; exact h.iE q bg
 ·rw [zh _ _ _ _ di,if_pos rfl]
 ·rw [zh _ _ _ _ di,if_neg (λe=>hk p (by simp) e.symm),aa]; exact h.Bd k λq bg=>hk q (by simp [bg])
 ·rw [zh _ _ _ _ (by rw [ak]; exact di),if_neg (by have:=au q bg; omega),hv]; exact h.val q bg
 ·rw [zh _ _ _ _ (by rw [ak]; exact di),if_pos rfl]
 ·rw [zh _ _ _ _ (by rw [ak]; exact di),if_neg (λe=>hk p (by simp) e.symm),hv]; exact h.KU k λq bg=>hk q (by simp [bg])
theorem tr.nil (c:fy) (i b:Nat) (ak:c.b8.length=c.b3.length):tr c [] i b c.b8 c.b3 :=
 ⟨ak,Nat.le_refl _,λ_ h=>absurd h (by simp),.inl rfl,λ_ h=>absurd h (by simp),λ_ _=>rfl,λ_ h=>absurd h (by simp),λ_ _=>rfl⟩
theorem Fit.MF {iE:List Int}{r:fD}{b:Nat}(h:iE.length<=b):Fit iE r b:=λp _=>by
 rw [List.getD_eq_getElem?_getD,List.getElem?_eq_none (by omega)]; rfl
theorem P5 {r:fD}{k:Nat}(aq:lD r) (hk:k<r.length):∀ q∈r.take k,q.At.toNat≠(r[k]).At.toNat:=by
 intro q bg e;obtain ⟨j,ah,rfl⟩:=List.mem_iff_getElem.1 bg;rw [List.length_take] at ah;have eZ:j<r.length:=by omega
 rw [List.getElem_take] at e;have h1:=aq.mm _ (List.getElem_mem eZ);have af:=aq.mm _ (List.getElem_mem hk);have fm:=aq.nd;have:=(List.getElem_inj (h₀:=by simpa using eZ) (h₁:=by simpa using hk) fm).1 (by simp only [List.getElem_map]; omega);omega
structure p9 (rows:List fD):Prop where
 n:rows.length<=400
 rows:∀ r∈rows,lD r
structure DY (rows:List fD):Prop where
 n:rows.length<=1000
 r:∀ r∈rows,r.length<=1000
theorem YC (rows:List fD) (fg:DY rows) (i:Nat) (r:fD) (aq:rows[i]?=some r) (lN:lD r) (c:fy) (aa:c.b3.length<=900000) (aQ:c.cS[i]?=some 0) (fits:List Int->fD->Int->Option Bool)
  (aW:∀ b:Nat,b<=1000000->Tot (fits c.b3 r b) λx=>(x=true↔Fit c.b3 r b)) :
  Tot (b1 (R:=List Int) (λ(dd:List Int) =>
(idx rows (i:Int)).bind λfL =>
(idx dd (i:Int)).bind λd_ =>
(fits c.b3 fL d_).bind λgb =>
(bif !gb then
(idx dd (i:Int)).bind λgy =>
some (.inl (dd.set (i:Int).toNat (aJ (gy+1))))
else
some (.inr dd))) c.cS) λB=>∃ b:Nat,B=c.cS.set i (b:Int)/\Fit c.b3 r b/\(∀ eD,eD<b->¬ Fit c.b3 r eD)/\b<=c.b3.length:=by
 have uc:i<c.cS.length:=(List.getElem?_eq_some_iff.1 aQ).1;have ub:idx rows (i:Int)=some r:=by simp [idx,aq]
 have V8:c.cS=c.cS.set i 0:=by
  apply List.ext_getElem?;intro k;rw [List.getElem?_set];by_cases e:i=k
  ·subst e; rw [aQ]; simp [uc]
  ·simp [e]
 have key:Tot (b1 (R:=List Int) (λ(dd:List Int) =>
(idx rows (i:Int)).bind λfL =>
(idx dd (i:Int)).bind λd_ =>
(fits c.b3 fL d_).bind λgb =>
(bif !gb then
(idx dd (i:Int)).bind λgy =>
some (.inl (dd.set (i:Int).toNat (aJ (gy+1))))
else
some (.inr dd))) (c.cS.set i 0)) λB=>∃ b:Nat,B=c.cS.set i (b:Int)/\Fit c.b3 r b/\(∀ eD,eD<b->¬ Fit c.b3 r eD)/\b<=c.b3.length:=by
  refine Tot.loop (λs=>∃ b:Nat,s=c.cS.set i (b:Int)/\(∀ eD,eD<b->¬ Fit c.b3 r eD)/\b<=c.b3.length) (λs=>c.b3.length+1 - (s.getD i 0).toNat) ⟨0,rfl,λeD h=>absurd h (Nat.not_lt_zero _),Nat.zero_le _⟩ (by show c.b3.length+1 - _<1000000000000000000; omega) λs aB=>?_;obtain ⟨b,rfl,ak,av⟩:=aB;have V':idx (c.cS.set i (b:Int)) (i:Int)=some (b:Int):=by
   simp [idx,uc]
  rw [ub,V'];refine Tot.aV (Tot.aV (.aA (aW b (by omega)) λx J=>?_));refine Tot.bE (λh=>Tot.aV (.ao ⟨⟨b+1,?_,λeD l2=>?_,?_⟩,?_⟩)) (λh=>.ao ⟨b,rfl,J.1 (by simpa using h),ak,av⟩)
  ·have hw:aJ ((b:Int)+1)=((b+1:Nat):Int):=by rw [cB]; omega
   rw [hw];show (c.cS.set i (b:Int)).set i _=_;rw [List.set_set]
  ·by_cases e:eD=b
   ·subst e;intro xf;rw [J.2 xf] at h; cases h
   ·exact ak eD (by omega)
  ·have:¬ c.b3.length<=b:=λaR=>by
    rw [J.2 (Fit.MF aR)] at h; cases h
   omega
  ·have hw:aJ ((b:Int)+1)=((b+1:Nat):Int):=by rw [cB]; omega
   rw [hw];show c.b3.length+1 - ((((c.cS.set i (b:Int)).set i ((b+1:Nat):Int)).getD i 0).toNat)<c.b3.length+1 - ((c.cS.set i (b:Int)).getD i 0).toNat;rw [List.set_set];have g:∀ x:Int,(c.cS.set i x).getD i 0=x:=λx=>by simp [List.getD_eq_getElem?_getD,uc]
   rw [g,g];have:¬ c.b3.length<=b:=λaR=>by
    rw [J.2 (Fit.MF aR)] at h; cases h
   omega
 rw [<- V8] at key;exact key
theorem X9 (r:fD) (lN:lD r) (l6:r.length<=1000) (i b:Nat) (hi:i<=100000) (c:fy) (hf:c.b8.length=c.b3.length) (aa:c.b3.length<=900000) (av:b<=c.b3.length)
  (f:List Int × List Int × Int->Option ((List Int × List Int × Int) ⊕ (List Int × List Int)))
  (aW:∀ (v cd:List Int) (k:Nat) (hk:k<r.length),f (v,cd,(k:Int))=(b1 (R:=List Int × List Int) (λ(s:List Int × List Int) =>
(bif decide ((s.2.length:Int)<=aJ ((b:Int)+(r[k]).At)) then
(c' s.2 [0]).bind λcY =>
(c' s.1 [0]).bind λgn =>
some (.inl (s.1++[0],s.2++[0]))
else
some (.inr (s.1,s.2)))) (v,cd)).bind λee =>
(idx ee.2 (aJ ((b:Int)+(r[k]).At))).bind λo_ =>
(idx ee.1 (aJ ((b:Int)+(r[k]).At))).bind λjB =>
some (.inl (ee.1.set (aJ ((b:Int)+(r[k]).At)).toNat (r[k]).b8,ee.2.set (aJ ((b:Int)+(r[k]).At)).toNat (aJ ((i:Int)+1)),aJ ((k:Int)+1))))
  (he:∀ (v cd:List Int) (k:Int),¬ k<r.length->f (v,cd,k)=some (.inr (v,cd))) :
  Tot (b1 f (c.b8,c.b3,0)) λx=>tr c r i b x.1 x.2/\x.2.length<=c.b3.length+1000:=by
 refine Tot.count (λs=>s.2.2) r.length (λs=>∃ k:Nat,k<=r.length/\s.2.2=(k:Int)/\tr c (r.take k) i b s.1 s.2.1) ⟨0,Nat.zero_le _,rfl,tr.nil c i b hf⟩ (by show (r.length:Int) - 0<_; omega) λs aB=>?_;obtain ⟨v,cd,kX⟩:=s;obtain ⟨k,hk,rfl,cn⟩:=aB;simp only at cn ⊢;by_cases aT:k<r.length
 ·rw [aW v cd k aT];have au:=lN.mm _ (List.getElem_mem aT);have di:aJ ((b:Int)+(r[k]).At)=((b+(r[k]).At.toNat:Nat):Int):=by rw [cB]; omega
  have aci:cd.length<=1000000:=by
   rcases cn.hi with e | ⟨q,bg,e⟩
   ·omega
   ·have:=lN.mm q (List.mem_of_mem_take bg);omega
  refine .aA (pad _ _ _ di (by omega) v cd cn.len (by omega)) λx J=>?_;obtain ⟨h1,af,aI,bF⟩:=J;rw [di];have zt:b+(r[k]).At.toNat<x.2.length:=by omega
  have VJ:b+(r[k]).At.toNat<x.1.length:=by omega
  rw [sY zt,sY VJ];have Wq:aJ ((i:Int)+1)=(i:Int)+1:=by rw [cB]; omega
  have qq:aJ ((k:Int)+1)=((k+1:Nat):Int):=by rw [cB]; omega
  rw [Wq,qq];refine Tot.aV (Tot.aV (.ao ⟨⟨k+1,by omega,rfl,?_⟩,?_,?_⟩))
  ·rw [List.take_add_one,List.getElem?_eq_getElem aT];exact cn.more (P5 lN aT) h1 af aI bF
  ·grind
  grind
 ·rw [he v cd k (by omega)];have:k=r.length:=by omega
  subst this;rw [List.take_length] at cn;refine .ao ⟨cn,?_⟩;show cd.length<=c.b3.length+1000;rcases cn.hi with e | ⟨q,bg,e⟩
  ·omega
  ·have:=lN.mm q bg;omega
theorem lD.snoc {r:fD}{p:b4}(h:lD r) (au:0<=p.At/\p.At<=999) (aF:p.At∉r.map (·.At)):lD (r++[p]):=by
 refine ⟨λq bg=>?_,?_⟩
 ·rcases List.mem_append.1 bg with bg | bg
  ·exact h.mm q bg
  ·rw [List.mem_singleton.1 bg]; exact au
 ·rw [List.map_append,List.nodup_append];refine ⟨h.nd,by simp,λa aP b av e=>?_⟩;have av:b∈[p.At]:=av;rw [List.mem_singleton.1 av] at e;exact aF (e ▸ aP)
theorem lD.nil:lD []:=⟨λ_ h=>absurd h (by simp),by simp⟩
theorem lD.bad {r:fD}{k:Nat}(hk:k<r.length) (h:¬ (0<=(r[k]).At/\(r[k]).At<=999)\/(r[k]).At∈(r.take k).map (·.At)):¬ lD r:=by
 intro aq;rcases h with h | h
 ·exact h (aq.mm _ (List.getElem_mem hk))
 ·obtain ⟨q,bg,e⟩:=List.mem_map.1 h;exact P5 aq hk q bg (by have e:q.At=(r[k]).At:=e; rw [e])
theorem Yo {rows:List fD}{r:fD}(aq:r∈rows) (h:¬ lD r):¬ p9 rows:=λbY=>h (bY.rows r aq)
theorem KQ {r:fD}{k:Nat}(h:k<r.length):r.take (k+1)=r.take k++[r[k]]:=by
 rw [List.take_add_one,List.getElem?_eq_getElem h]; rfl
theorem Sj (rows:List fD) (fg:DY rows):Tot (Ak rows) λc=>(c=true↔p9 rows):=by
 unfold Ak;have aF:=fg.n;refine Tot.bp (λh=>.ao ⟨λh=>(by cases h),λbY=>by have:=bY.n; omega⟩) (λabT=>?_);refine Tot.aA (Tot.scan rows lD (λx:Bool=>x=false/\¬ p9 rows) (by omega) (λs r aQ h1 hi hm=>?_) (λs aB=>by simp [aB])) λx J=>?_
 ·refine Tot.bp (λ_=>?_) (λh=>absurd h1 h);rw [hi];have l6:=fg.r r hm;refine Tot.aV (.aA (Ξ:=hl (λ_=>lD r) (λx:Bool=>x=false/\¬ p9 rows)) ?_ λx J=>?_)
  ·refine Tot.count (λs=>s.2) r.length (λs=>∃ k:Nat,k<=r.length/\s.2=(k:Int)/\s.1.length=1000/\lD (r.take k)/\∀ j,j<1000->(s.1.getD j false=true↔(j:Int)∈(r.take k).map (·.At))) ⟨0,Nat.zero_le _,rfl,List.length_replicate ..,lD.nil,λj ah=>by
   show ((List.replicate 1000 false).getD j false=true↔_);rw [List.getD_eq_getElem?_getD,List.getElem?_replicate,if_pos ah];simp⟩ (by show (r.length:Int) - 0<_; omega) λs aB=>?_
   obtain ⟨met,kX⟩:=s;obtain ⟨k,hk,rfl,vq,db,IM⟩:=aB;simp only at vq IM ⊢;refine Tot.bp (λaT=>?_) (λdS=>.ao ?_)
   ·have aT:k<r.length:=by omega
    rw [sY aT];have hw:aJ ((k:Int)+1)=((k+1:Nat):Int):=by rw [cB]; omega
    rw [hw];have ev:0<=(r[k]).At/\(r[k]).At<=999->xw 1000 met (r[k]).At=some (met.getD (r[k]).At.toNat false):=by
     intro h;unfold xw;rw [if_pos (by omega)];have:(r[k]).At.toNat<met.length:=by omega
     simp [idx,h.1,this,List.getD_eq_getElem?_getD]
    refine Tot.aV (.aA (Ξ:=λc=>(c=true↔(¬ (0<=(r[k]).At/\(r[k]).At<=999)\/(r[k]).At∈(r.take k).map (·.At)))) ?_ λc aa=>Tot.bE (λh=>.ao ⟨rfl,Yo hm (lD.bad aT (aa.1 h))⟩) (λh=>?_))
    ·refine Tot.bp (λh=>.ao ⟨λ_=>.inl (by omega),λ_=>rfl⟩) (λh=>Tot.bp (λaR=>.ao ⟨λ_=>.inl (by omega),λ_=>rfl⟩) (λaR=>?_));have au:0<=(r[k]).At/\(r[k]).At<=999:=by omega
     rw [ev au];refine Tot.aV (.ao ?_);rw [IM _ (by omega)];have e:(((r[k]).At.toNat:Nat):Int)=(r[k]).At:=by omega
     rw [e];exact ⟨λh=>.inr h,λh=>h.resolve_left λaF=>aF au⟩
    ·have Vu:(0<=(r[k]).At/\(r[k]).At<=999)/\(r[k]).At∉(r.take k).map (·.At):=by
      refine ⟨Classical.byContradiction λaF=>?_,λaF=>?_⟩
      ·rw [aa.2 (.inl aF)] at h; cases h
      ·rw [aa.2 (.inr aF)] at h; cases h
     obtain ⟨au,aF⟩:=Vu;rw [ev au];refine Tot.aV (.ao ⟨⟨k+1,by omega,rfl,by show (met.set _ _).length=_; simp [vq],?_,λj ah=>?_⟩,?_,?_⟩)
     ·rw [KQ aT]; exact db.snoc au aF
     ·show ((met.set (r[k]).At.toNat true).getD j false=true↔_);rw [KQ aT,List.map_append,List.mem_append,List.getD_eq_getElem?_getD,List.getElem?_set];by_cases e:(r[k]).At.toNat=j
      ·subst e;have ak:(r[k]).At.toNat<met.length:=by omega
       have b9:(((r[k]).At.toNat:Nat):Int)=(r[k]).At:=by omega
       rw [if_pos rfl,if_pos ak,b9];simp
      ·rw [if_neg e,<- List.getD_eq_getElem?_getD,IM j ah];constructor
       ·exact .inl
       ·rintro (h | h)
        ·exact h
        ·have h:(j:Int)∈[(r[k]).At]:=h;have:=List.mem_singleton.1 h;omega
     ·show (k:Int)<((k+1:Nat):Int); omega
     ·show ((k+1:Nat):Int)<=_; omega
   ·have:k=r.length:=by omega
    subst this;rw [List.take_length] at db;exact db
  ·rcases x with _ | x
   ·exact .ao ⟨by rw [cB]; omega,J⟩
   ·exact .ao J
 ·rcases x with _ | x
  ·have J:∀ r∈rows,lD r:=J;exact .ao ⟨λ_=>⟨by omega,J⟩,λ_=>rfl⟩
  ·obtain ⟨rfl,av⟩:x=false/\¬ p9 rows:=J;exact .ao ⟨λh=>(by cases h),λh=>absurd h av⟩
def kz (rows:List fD) (a:Int):Nat:=((idx rows a).map List.length).getD 0
def jx (rows:List fD) (a b:Int):Bool:=decide (kz rows b<kz rows a\/(kz rows a=kz rows b/\a<b))
theorem OS {rows:List fD}{a b:Int}:jx rows a b=true↔(kz rows b<kz rows a\/(kz rows a=kz rows b/\a<b)):=by simp [jx]
theorem JS {rows:List fD}{a b:Int}:jx rows a b=false↔¬ (kz rows b<kz rows a\/(kz rows a=kz rows b/\a<b)):=by simp [jx]
theorem OT (rows:List fD):SWO (jx rows) where
 irrefl x:=by rw [JS]; omega
 trans x y z h1 af:=by rw [OS] at *; omega
 ntrans x y z h1 af:=by rw [JS] at *; omega
theorem JT {rows:List fD}{a b:Int}(h1:jx rows a b=false) (af:jx rows b a=false):a=b:=by
 rw [JS] at *; omega
theorem Mb (rows:List fD) (a b:Int) (aP:0<=a/\a<rows.length) (av:0<=b/\b<rows.length):∃ v,v8 a b rows=some v/\(v<0↔jx rows a b=true):=by
 obtain ⟨v,hv,h⟩:=Sk rows a b aP av;refine ⟨v,hv,h.trans ?_⟩;obtain ⟨x,J,_⟩:=E4 aP.1 aP.2;obtain ⟨y,ax,_⟩:=E4 av.1 av.2;rw [OS];unfold DN kz;rw [J,ax];constructor
 ·rintro ⟨x',y',cv,b9,h⟩;cases cv; cases b9; exact h
 ·intro h;exact ⟨x,y,rfl,rfl,h⟩
theorem Cf {α:Type}{lt lt':α->α->Bool}(x:α):∀ l:List α,(∀ y∈l,lt y x=lt' y x)->ins lt x l=ins lt' x l
 | [],_=>rfl
 | y::l,h=>by
  simp only [ins,h y (by simp)];rw [Cf x l λz aX=>h z (by simp [aX])]
theorem Ch {α:Type}{lt lt':α->α->Bool}:∀ l:List α,(∀ a∈l,∀ b∈l,lt a b=lt' a b)->ic lt l=ic lt' l
 | [],_=>rfl
 | x::l,h=>by
  simp only [ic];rw [Ch l λa aP b av=>h a (by simp [aP]) b (by simp [av])];exact Cf x _ λy ax=>h y (by simp [(sZ lt' l).mem_iff.1 ax]) x (by simp)
structure p6 (rows:List fD) (o:List Nat):Prop where
 mem:∀ i,i∈o↔∃ r,rows[i]?=some r/\r≠[]
 nd:o.Nodup
 Kl:o.Pairwise λ(a b:Nat)=>jx rows (b:Int) (a:Int)=false
theorem p6.uniq {rows:List fD}{o gj:List Nat}(h:p6 rows o) (aR:p6 rows gj):o=gj :=
 List.Perm.eq_of_pairwise (le:=λ(a b:Nat)=>jx rows (b:Int) (a:Int)=false) (λa b _ _ h1 af=>by have:=JT af h1; omega) h.Kl aR.Kl ((List.perm_ext_iff_of_nodup h.nd aR.nd).2 λi=>(h.mem i).trans (aR.mem i).symm)
theorem p6.lt {rows:List fD}{o:List Nat}(h:p6 rows o) {i:Nat}(hi:i∈o):i<rows.length:=by
 obtain ⟨r,aq,_⟩:=(h.mem i).1 hi;exact (List.getElem?_eq_some_iff.1 aq).1
theorem p6.len {rows:List fD}{o:List Nat}(h:p6 rows o):o.length<=rows.length:=by
 have:∀ (l m:List Nat),l.Nodup->(∀ x∈l,x∈m)->l.length<=m.length:=by
  intro l
  induction l with
  | nil=>intro m _ _; exact Nat.zero_le _
  | cons x l aU =>
   intro m aS hm;have J:=hm x (by simp);have n_:=List.nodup_cons.1 aS;have:=aU (m.erase x) n_.2 λy ax=>(List.mem_erase_of_ne (λe=>n_.1 (by rw [<- e]; exact ax))).2 (hm y (by simp [ax]));have ak:=List.length_erase_of_mem J;have au:=List.length_pos_of_mem J;simp only [List.length_cons];omega
 have:=this o (List.range rows.length) h.nd λx J=>by simpa using h.lt J
 simpa using this
theorem YT (rows:List fD) (l:List Int) (ak:∀ a∈l,0<=a/\a<rows.length) (aF:l.length<=100000):pW (λa b=>v8 a b rows) l=some (ic (jx rows) l):=by
 have aT:∀ a∈l,∀ b∈l,kA (λa b=>v8 a b rows) a b=jx rows a b:=by
  intro a aP b av;obtain ⟨v,hv,h⟩:=Mb rows a b (ak a aP) (ak b av);unfold kA;simp only [hv,Option.getD_some];cases hk:jx rows a b with
  | true=>exact decide_eq_true (h.2 hk)
  | false=>exact decide_eq_false λbY=>by rw [h.1 bY] at hk; cases hk
 unfold pW;rw [if_pos]
 ·rw [Ch l aT]
 ·simp only [Bool.and_eq_true,decide_eq_true_eq,List.all_eq_true];refine ⟨⟨λa aP b av=>?_,?_⟩,by omega⟩
  ·obtain ⟨v,hv,_⟩:=Mb rows a b (ak a aP) (ak b av);rw [hv]; rfl
  ·unfold zW;simp only [List.all_eq_true,Bool.and_eq_true,Bool.or_eq_true,Bool.not_eq_true',decide_eq_true_eq];have bj:=OT rows;intro a aP;refine ⟨by rw [aT a aP a aP]; exact bj.irrefl a,λb av=>⟨?_,λc aa=>⟨?_,?_⟩⟩⟩
   ·rw [aT a aP b av,aT b av a aP];cases h1:jx rows a b with
    | true=>exact .inl (.inl rfl)
    | false =>
     cases af:jx rows b a with
     | true=>exact .inl (.inr rfl)
     | false=>exact .inr (JT h1 af)
   ·rw [aT a aP b av,aT b av c aa,aT a aP c aa];cases h1:jx rows a b with
    | false=>exact .inl rfl
    | true =>
     cases af:jx rows b c with
     | false=>exact .inl rfl
     | true=>exact .inr (bj.trans _ _ _ h1 af)
   ·rw [aT a aP b av,aT b av c aa,aT a aP c aa];cases h1:jx rows a b with
    | true=>exact .inl (.inl rfl)
    | false =>
     cases af:jx rows b c with
     | true=>exact .inl (.inr rfl)
     | false=>exact .inr (bj.ntrans _ _ _ h1 af)
theorem Sd (rows:List fD) (fg:DY rows):Tot (Ag rows) λc=>(¬ p9 rows->c=⟨[],[],[]⟩)/\(p9 rows->c.b3.length<=900000/\∃ o,p6 rows o/\dQ rows o.reverse c):=by
 unfold Ag;refine .aA (Sj rows fg) λa8 h1=>Tot.bE (λh=>.ao ⟨λ_=>rfl,λdb=>by rw [h1.2 db] at h; cases h⟩) (λh=>?_);have db:p9 rows:=h1.1 (by simpa using h);refine Tot.use (Φ:=λc=>(¬ p9 rows->c=⟨[],[],[]⟩)/\(p9 rows->c.b3.length<=900000/\∃ o,p6 rows o/\dQ rows o.reverse c)) (Ψ:=λc=>c.b3.length<=900000/\∃ o,p6 rows o/\dQ rows o.reverse c) ?_ λc aa=>⟨λaF=>absurd db aF,λ_=>aa⟩;have aF:=db.n;refine .aA (Ξ:=λl=>l=List.replicate rows.length 0) (Tot.mk (by simp [lim]; omega) (by simp)) λa7 aI=>?_;subst aI;refine .aA (Ξ:=λl=>∃ o:List Nat,l=o.map (λ(j:Nat)=>(j:Int))/\o.Nodup/\o.length<=400/\∀ j,j∈o↔∃ r,rows[j]?=some r/\r≠[]) ?_ λbS cF=>?_
 ·refine Tot.count (λs=>s.2) rows.length (λs=>∃ k:Nat,k<=rows.length/\s.2=(k:Int)/\∃ o:List Nat,s.1=o.map (λ(j:Nat)=>(j:Int))/\o.Nodup/\o.length<=k/\∀ j,j∈o↔j<k/\∃ r,rows[j]?=some r/\r≠[]) ⟨0,Nat.zero_le _,rfl,[],rfl,List.nodup_nil,Nat.le_refl 0,λj=>by simp⟩ (by show (rows.length:Int) - 0<_; omega) λs aB=>?_;obtain ⟨l,kX⟩:=s;obtain ⟨k,hk,rfl,o,rfl,fm,zw,hm⟩:=aB;simp only;have hw:aJ ((k:Int)+1)=((k+1:Nat):Int):=by rw [cB]; omega
  rw [hw];refine Tot.bp (λaT=>?_) (λdS=>.ao ⟨o,rfl,fm,by omega,λj=>?_⟩)
  ·have aT:k<rows.length:=by omega
   rw [sY aT];have r_:rows[k]?=some rows[k]:=List.getElem?_eq_getElem aT;have VE:k∉o:=λh=>by have:=((hm k).1 h).1; omega
   refine .aA (Ξ:=λl=>∃ gj:List Nat,l=gj.map (λ(j:Nat)=>(j:Int))/\gj.Nodup/\gj.length<=k+1/\∀ j,j∈gj↔j<k+1/\∃ r,rows[j]?=some r/\r≠[]) ?_ λl ak=>.ao ⟨⟨k+1,by omega,rfl,ak⟩,?_,?_⟩
   ·refine Tot.aV (.aA (Ξ:=λl=>∃ gj:List Nat,l=gj.map (λ(j:Nat)=>(j:Int))/\gj.Nodup/\gj.length<=k+1/\∀ j,j∈gj↔j<k+1/\∃ r,rows[j]?=some r/\r≠[]) ?_ λl ak=>.ao ak);refine Tot.bp (λau=>?_) (λau=>.ao ⟨o,rfl,fm,by omega,λj=>?_⟩)
    ·refine .aA (Ξ:=λ_=>True) (Tot.ap (by simp [lim]; omega) trivial) λ_ _=>.ao ⟨o++[k],by simp,?_,by simp; omega,λj=>?_⟩
     ·rw [List.nodup_append];exact ⟨fm,by simp,λa aP b av e=>VE (by rw [<- List.mem_singleton.1 av,<- e]; exact aP)⟩
     ·rw [List.mem_append,hm j,List.mem_singleton];constructor
      ·rintro (⟨h1,af⟩ | rfl)
       ·exact ⟨by omega,af⟩
       ·exact ⟨by omega,_,r_,λe=>by rw [e] at au; simp at au⟩
      ·rintro ⟨h1,af⟩;by_cases e:j=k
       ·exact .inr e
       ·exact .inl ⟨by omega,af⟩
    ·rw [hm j];constructor
     ·rintro ⟨h1,af⟩;exact ⟨by omega,af⟩
     ·rintro ⟨h1,r,af,aI⟩;refine ⟨?_,r,af,aI⟩;have:j≠k:=by
       rintro rfl;rw [r_] at af; cases af;have:(rows[j]).length≠0:=λe=>aI (List.eq_nil_of_length_eq_zero e);omega
      omega
   ·show (k:Int)<((k+1:Nat):Int); omega
   ·show ((k+1:Nat):Int)<=_; omega
  ·have:k=rows.length:=by omega
   subst this;rw [hm j];constructor
   ·exact λh=>h.2
   ·rintro ⟨r,aq,h⟩;exact ⟨(List.getElem?_eq_some_iff.1 aq).1,r,aq,h⟩
 obtain ⟨zT,rfl,VQ,acO,zv⟩:=cF;have vo:∀ a∈zT.map (λ(j:Nat)=>(j:Int)),0<=a/\a<rows.length:=by
  intro a aP;obtain ⟨j,ah,rfl⟩:=List.mem_map.1 aP;obtain ⟨r,aq,_⟩:=(zv j).1 ah;have:=(List.getElem?_eq_some_iff.1 aq).1;omega
 rw [YT rows _ vo (by simp; omega)];refine Tot.aV ?_
 -- the order, az places
 obtain ⟨o,a1,hOr⟩:∃ o:List Nat,ic (jx rows) (zT.map λ(j:Nat)=>(j:Int))=o.map (λ(j:Nat)=>(j:Int))/\p6 rows o:=by
  refine ⟨ic (λa b:Nat=>jx rows (a:Int) (b:Int)) zT,?_,?_⟩
  ·exact (E5 (lt:=λa b:Nat=>jx rows (a:Int) (b:Int)) (lt':=jx rows) (f:=λ(j:Nat)=>(j:Int)) (λa b=>rfl) zT).symm
  ·have bj:=OT rows;have au:=sZ (λa b:Nat=>jx rows (a:Int) (b:Int)) zT;refine ⟨λi=>(au.mem_iff).trans (zv i),au.nodup_iff.2 VQ,?_⟩;have aB:=E6 (lt:=λa b:Nat=>jx rows (a:Int) (b:Int)) ⟨λx=>bj.irrefl _,λx y z=>bj.trans _ _ _,λx y z=>bj.ntrans _ _ _⟩ zT;exact aB.imp λh=>by simpa using h
 rw [a1];have zw:=hOr.len;refine .aA (Ξ:=λc=>c.b3.length<=900000/\∃ o,p6 rows o/\dQ rows o.reverse c) ?_ λc aa=>.ao aa;refine Tot.count (λs=>s.2) o.length (λs=>∃ k:Nat,k<=o.length/\s.2=(k:Int)/\s.1.b3.length<=1000 * k/\dQ rows (o.take k).reverse s.1) ⟨0,Nat.zero_le _,rfl,Nat.le_refl 0,.nil⟩ (by show (o.length:Int) - 0<_; omega) λs aB=>?_;obtain ⟨c,kX⟩:=s;obtain ⟨k,hk,rfl,hf,h_⟩:=aB;simp only at hf h_ ⊢;have hw:aJ ((k:Int)+1)=((k+1:Nat):Int):=by rw [cB]; omega
 rw [hw];refine Tot.bp (λaT=>?_) (λdS=>.ao ⟨by show c.b3.length<=900000; omega,o,hOr,?_⟩)
 ·rw [List.length_map] at aT;have aT:k<o.length:=by omega
  have IA:idx (o.map λ(j:Nat)=>(j:Int)) (k:Int)=some ((o[k]:Nat):Int):=by
   rw [sY (by simpa using aT)]; simp
  rw [IA];generalize hi:o[k]=i;have NO:i∈o:=by rw [<- hi]; exact List.getElem_mem aT
  obtain ⟨r,aq,acR⟩:=(hOr.mem i).1 NO;have EC:=hOr.lt NO;have zA:r∈rows:=List.mem_of_getElem? aq;have lN:=db.rows r zA;have l6:=fg.r r zA;have N3:i∉(o.take k).reverse:=by
   rw [List.mem_reverse];intro h;obtain ⟨j,ah,e⟩:=List.mem_iff_getElem.1 h;rw [List.length_take] at ah;rw [List.getElem_take] at e;have:=(List.getElem_inj (i:=j) (j:=k) (h₀:=by omega) (h₁:=aT) hOr.nd).1 (by rw [e,hi]);omega
  have hlen:=h_.len;refine Tot.aV (.aA (YC rows fg i r aq lN c (by omega) (h_.rest i EC N3) x9 λb av=>Sm c.b3 r b lN.mm (by omega) (by omega) (by omega)) λB Uc=>?_);obtain ⟨b,rfl,xf,VG,q_⟩:=Uc;have ub:idx rows (i:Int)=some r:=by simp [idx,aq]
  rw [ub];refine Tot.aV (.aA (X9 r lN l6 i b (by omega) c hlen.1 (by omega) q_ _ (λv cd k hk=>?_) (λv cd k hk=>?_)) λx J=>?_)
  ·have w_:idx (c.cS.set i (b:Int)) (i:Int)=some (b:Int):=by
    have:i<c.cS.length:=by omega
    simp [idx,this]
   have aS:decide ((k:Int)<(r.length:Int))=true:=decide_eq_true (by omega);simp only [aS,cond_true,sY hk,w_,Option.bind_some]
  ·have aS:decide ((k:Int)<(r.length:Int))=false:=decide_eq_false hk;simp only [aS,cond_false]
  ·obtain ⟨cn,ak⟩:=J;refine .ao ⟨⟨k+1,by omega,rfl,?_,?_⟩,?_,?_⟩
   ·show x.2.length<=1000 * (k+1); omega
   ·rw [List.take_add_one,List.getElem?_eq_getElem aT,hi];show dQ rows ((o.take k)++[i]).reverse _;rw [List.reverse_append];exact .cons aq N3 h_ ⟨xf,VG,rfl,cn⟩
   ·show (k:Int)<((k+1:Nat):Int); omega
   ·show ((k+1:Nat):Int)<=_; omega
 ·rw [List.length_map] at dS;have:k=o.length:=by omega
  subst this;rw [List.take_length] at h_;exact h_
def zS (cd:List Int):List Nat:=(List.range cd.length).filter λk=>decide (cd.getD k 0≠0)
def PH (rows:List fD) (i:Nat):Nat:=(rows[i]?.map List.length).getD 0
structure Inv (rows:List fD) (l:List Nat) (c:fy):Prop where
 own:∀ i∈l,∃ (r:fD) (b:Nat),rows[i]?=some r/\c.cS[i]?=some (b:Int)/\∀ p∈r,b+p.At.toNat<c.b3.length/\c.b3.getD (b+p.At.toNat) 0=(i:Int)+1/\c.b8.getD (b+p.At.toNat) 0=p.b8
 KX:∀ k,c.b3.getD k 0≠0->∃ i∈l,∃ (r:fD) (b:Nat),rows[i]?=some r/\c.cS[i]?=some (b:Int)/\∃ p∈r,k=b+p.At.toNat/\c.b3.getD k 0=(i:Int)+1
 zero:∀ k,c.b3.getD k 0=0->c.b8.getD k 0=0
 last:c.b3.length=0\/c.b3.getD (c.b3.length - 1) 0≠0
 least:∀ i∈l,∀ b:Nat,c.cS[i]?=some (b:Int)->∀ eD,eD<b->∃ (r:fD) (p:b4) (sg:Nat),rows[i]?=some r/\p∈r/\sg∈l/\jx rows (sg:Int) (i:Int)=true/\c.b3.getD (eD+p.At.toNat) 0=(sg:Int)+1
 hr:(zS c.b3).length=(l.map (PH rows)).sum
theorem JY {cd:List Int}{k:Nat}:k∈zS cd↔cd.getD k 0≠0:=by
 unfold zS;rw [List.mem_filter,List.mem_range];constructor
 ·intro h; simpa using h.2
 ·intro h;refine ⟨Classical.byContradiction λhk=>h ?_,by simpa using h⟩;rw [List.getD_eq_getElem?_getD,List.getElem?_eq_none (by omega)]; rfl
theorem OZ (cd:List Int):(zS cd).Nodup:=List.nodup_range.sublist List.filter_sublist
theorem dQ.inv {rows:List fD}(db:p9 rows) {l:List Nat}{c:fy}(h:dQ rows l c) (IW:l.Pairwise λ(a b:Nat)=>jx rows (a:Int) (b:Int)=false):Inv rows l c:=by
 induction h with
 | nil=>exact ⟨λ_ h=>absurd h (by simp),λk h=>absurd rfl h,λ_ _=>rfl,.inl rfl,λ_ h=>absurd h (by simp),rfl⟩
 | @cons i b l c fS r aq hi h_ aB aU =>
  have N7:=List.pairwise_cons.1 IW;have I:=aU N7.2;have lN:=db.rows r (List.mem_of_getElem? aq);have cn:=aB.put;have hlen:=h_.len;have uc:i<c.cS.length:=by rw [hlen.2]; exact (List.getElem?_eq_some_iff.1 aq).1
  have w_:fS.cS[i]?=some (b:Int):=by rw [aB.base]; simp [uc]
  have xa:∀ j,j≠i->fS.cS[j]?=c.cS[j]?:=λj ah=>by rw [aB.base,List.getElem?_set_ne (Ne.symm ah)]
  have dq:∀ j∈l,j≠i:=λj ah e=>hi (e ▸ ah);have free:∀ k,c.b3.getD k 0≠0->∀ p∈r,b+p.At.toNat≠k:=λk hk p au e=>hk (e ▸ aB.fit p au);have keep:∀ k,c.b3.getD k 0≠0->fS.b3.getD k 0=c.b3.getD k 0:=λk hk=>cn.Bd k (free k hk);refine ⟨λj ah=>?_,λk hk=>?_,λk hk=>?_,?_,λj ah hn nD eD aT=>?_,?_⟩
  ·rcases List.mem_cons.1 ah with rfl | ah
   ·exact ⟨r,b,aq,w_,λp au=>⟨cn.Oz p au,cn.iE p au,cn.val p au⟩⟩
   ·obtain ⟨dm,eD,h1,af,aI⟩:=I.own j ah;refine ⟨dm,eD,h1,by rw [xa j (dq j ah)]; exact af,λp au=>?_⟩;obtain ⟨g1,g2,g3⟩:=aI p au;have N4:c.b3.getD (eD+p.At.toNat) 0≠0:=by rw [g2]; omega
    exact ⟨Nat.lt_of_lt_of_le g1 cn.lo,by rw [keep _ N4]; exact g2,by rw [cn.KU _ (free _ N4)]; exact g3⟩
  ·by_cases au:∃ p∈r,b+p.At.toNat=k
   ·obtain ⟨p,au,rfl⟩:=au;exact ⟨i,by simp,r,b,aq,w_,p,au,rfl,cn.iE p au⟩
   ·have e:=cn.Bd k λp BW e=>au ⟨p,BW,e⟩;rw [e] at hk ⊢;obtain ⟨j,ah,dm,eD,h1,af,aI⟩:=I.KX k hk;exact ⟨j,by simp [ah],dm,eD,h1,by rw [xa j (dq j ah)]; exact af,aI⟩
  ·by_cases au:∃ p∈r,b+p.At.toNat=k
   ·obtain ⟨p,au,rfl⟩:=au;rw [cn.iE p au] at hk; omega
   ·have aF:∀ p∈r,b+p.At.toNat≠k:=λp BW e=>au ⟨p,BW,e⟩;rw [cn.Bd k aF] at hk;rw [cn.KU k aF];exact I.zero k hk
  ·rcases cn.hi with e | ⟨p,au,e⟩
   ·rcases I.last with aQ | aQ
    ·exact .inl (by omega)
    ·exact .inr (by rw [e,keep _ aQ]; exact aQ)
   ·refine .inr ?_;rw [e];show fS.b3.getD (b+p.At.toNat+1 - 1) 0≠0;rw [Nat.add_sub_cancel,cn.iE p au]; omega
  ·rcases List.mem_cons.1 ah with rfl | ah
   ·rw [w_] at nD;have iO:b=hn:=by injection nD with e; omega
    subst iO;have N2:=aB.least eD aT;obtain ⟨p,au,aX⟩:∃ p∈r,c.b3.getD (eD+p.At.toNat) 0≠0 :=
     Classical.byContradiction λaF=>N2 λp au=>Classical.byContradiction λaX=>aF ⟨p,au,aX⟩
    obtain ⟨sg,Iy,_,_,_,_,_,_,_,e⟩:=I.KX _ aX;refine ⟨r,p,sg,aq,au,by simp [Iy],?_,by rw [keep _ aX]; exact e⟩;have h1:=N7.1 sg Iy;cases af:jx rows (sg:Int) (j:Int) with
    | true=>rfl
    | false=>exact absurd (JT af h1) (by have:=dq sg Iy; omega)
   ·rw [xa j (dq j ah)] at nD;obtain ⟨dm,p,sg,h1,af,aI,bF,cF⟩:=I.least j ah hn nD eD aT;exact ⟨dm,p,sg,h1,af,by simp [aI],bF,by rw [keep _ (by rw [cF]; omega)]; exact cF⟩
  ·have BY:(zS fS.b3).Perm (r.map (λp=>b+p.At.toNat)++zS c.b3):=by
    refine (List.perm_ext_iff_of_nodup (OZ _) ?_).2 λk=>?_
    ·rw [List.nodup_append];refine ⟨?_,OZ _,λx J y ax e=>?_⟩
     ·unfold List.Nodup;rw [List.pairwise_map];have:=lN.nd;unfold List.Nodup at this;rw [List.pairwise_map] at this;refine this.imp_of_mem λ{p q} au bg dq=>?_;have h1:=lN.mm p au;have af:=lN.mm q bg;omega
     ·obtain ⟨p,au,rfl⟩:=List.mem_map.1 J;have h1:=JY.1 ax;rw [<- e] at h1;exact h1 (aB.fit p au)
    ·rw [JY,List.mem_append,JY,List.mem_map];by_cases au:∃ p∈r,b+p.At.toNat=k
     ·obtain ⟨p,au,rfl⟩:=au;rw [cn.iE p au];exact ⟨λ_=>.inl ⟨p,au,rfl⟩,λ_=>by omega⟩
     ·rw [cn.Bd k λp BW e=>au ⟨p,BW,e⟩];exact ⟨.inr,λh=>h.resolve_left au⟩
   rw [BY.length_eq,List.length_append,List.length_map,I.hr,List.map_cons,List.sum_cons];simp [PH,aq]
def kQ (r:fD) (n:Int):Int × Bool:=match r.find? λp=>decide (p.At=n) with
 | some p=>(p.b8,true)
 | none=>(0,false)
theorem get_none {r:fD}{n:Int}(h:∀ p∈r,p.At≠n):kQ r n=(0,false):=by
 unfold kQ;rw [List.find?_eq_none.2 λp au=>by simpa using h p au]
theorem get_some {r:fD}(aq:lD r) {p:b4}(au:p∈r):kQ r p.At=(p.b8,true):=by
 unfold kQ;cases h:r.find? λq=>decide (q.At=p.At) with
 | none=>exact absurd (List.find?_eq_none.1 h p au) (by simp)
 | some q =>
  have h1:q.At=p.At:=by simpa using List.find?_some h
  have af:=List.mem_of_find?_eq_some h;obtain ⟨i,hi,cv⟩:=List.mem_iff_getElem.1 af;obtain ⟨j,ah,b9⟩:=List.mem_iff_getElem.1 au;have:=(List.getElem_inj (h₀:=by simpa using hi) (h₁:=by simpa using ah) aq.nd).1 (by simp only [List.getElem_map]; rw [cv,b9]; exact h1);subst this;rw [cv] at b9;rw [b9]
theorem g19 (r:fD) (n:Int) (ak:r.length<=100000):s_ r n=some (kQ r n):=by
 suffices h:Tot (s_ r n) λx=>x=kQ r n by
  obtain ⟨x,J,e⟩:=h; rw [J,e]
 unfold s_;refine Tot.aA (Ξ:=hl (λ_=>kQ r n=(0,false)) (λx=>x=kQ r n)) ?_ λx J=>?_
 ·refine Tot.count (λs=>s) r.length (λs=>∃ k:Nat,k<=r.length/\s=(k:Int)/\∀ p∈r.take k,p.At≠n) ⟨0,Nat.zero_le _,rfl,λ_ h=>absurd h (by simp)⟩ (by show (r.length:Int) - 0<_; omega) λs aB=>?_;obtain ⟨k,hk,rfl,aF⟩:=aB;refine Tot.bp (λh=>?_) (λh=>.ao ?_)
  ·have aT:k<r.length:=by omega
   rw [sY aT];refine Tot.aV (Tot.bp (λe=>.ao ?_) (λe=>.ao ⟨⟨k+1,by omega,by rw [cB]; omega,λp au=>?_⟩,by show (k:Int)<aJ _; rw [cB]; omega,by show aJ _<=_; rw [cB]; omega⟩))
   ·show ((r[k]).b8,true)=kQ r n;unfold kQ;have aW:r.find? (λp=>decide (p.At=n))=some r[k]:=by
     rw [List.find?_eq_some_iff_getElem];refine ⟨by simpa using e,k,aT,rfl,λj ah=>?_⟩;have:=aF (r[j]'(by omega)) (List.mem_iff_getElem.2 ⟨j,by rw [List.length_take]; omega,by rw [List.getElem_take]⟩);simpa using this
    rw [aW]
   ·rw [KQ aT] at au;rcases List.mem_append.1 au with au | au
    ·exact aF p au
    ·rw [List.mem_singleton.1 au]; exact e
  ·have:k=r.length:=by omega
   subst this;rw [List.take_length] at aF;exact get_none aF
 ·rcases x with x | x
  ·exact .ao (Eq.symm J)
  ·exact .ao J
def q7 (rows:List fD) (a n:Int):Int × Bool:=match idx rows a with
 | some r=>kQ r n
 | none=>(0,false)
theorem TI {rows:List fD}(db:p9 rows) {o:List Nat}(hO:p6 rows o) {c:fy}(h_:dQ rows o.reverse c) (bc:Inv rows o.reverse c) (aa:c.b3.length<=900000) (a n:Int):rm c a n=some (q7 rows a n):=by
 have hlen:=h_.len
 suffices h:Tot (rm c a n) λx=>x=q7 rows a n by
  obtain ⟨x,J,e⟩:=h; rw [J,e]
 have O7:(∀ r,idx rows a=some r->∀ p∈r,p.At≠n)->q7 rows a n=(0,false):=by
  intro h;unfold q7;cases hi:idx rows a with
  | none=>rfl
  | some r=>exact get_none (h r hi)
 have out:(a<0\/(c.cS.length:Int)<=a)->idx rows a=none:=by
  intro h;unfold idx;rcases h with h | h
  ·rw [if_neg (by omega)]
  ·split
   ·exact List.getElem?_eq_none (by omega)
   ·rfl
 -- where the pairs of a row stand
 have at_:∀ r,idx rows a=some r->∀ p∈r,0<=a/\∃ b:Nat,c.cS[a.toNat]?=some (b:Int)/\b+p.At.toNat<c.b3.length/\c.b3.getD (b+p.At.toNat) 0=(a.toNat:Int)+1/\c.b8.getD (b+p.At.toNat) 0=p.b8:=by
  intro r aq p au;have aQ:0<=a:=by
   by_cases aQ:0<=a
   ·exact aQ
   ·rw [idx,if_neg aQ] at aq; cases aq
  have ec:rows[a.toNat]?=some r:=by rw [idx,if_pos aQ] at aq; exact aq
  obtain ⟨dm,b,h1,af,aI⟩:=bc.own a.toNat (List.mem_reverse.2 ((hO.mem _).2 ⟨r,ec,λe=>by rw [e] at au; simp at au⟩));rw [ec] at h1; cases h1;exact ⟨aQ,b,af,aI p au⟩
 have fH:∀ r,idx rows a=some r->∀ p∈r,0<=p.At/\p.At<=999:=by
  intro r aq p au;have:r∈rows:=by
   unfold idx at aq
   split at aq
   ·exact List.mem_of_getElem? aq
   ·cases aq
  exact (db.rows r this).mm p au
 unfold rm;refine .aA (Ξ:=λx:Bool=>(x=true->(a<0\/(c.cS.length:Int)<=a)\/n<0\/(c.b3.length:Int)<=n)/\(x=false->0<=a/\a<c.cS.length/\0<=n/\n<c.b3.length)) ?_ λx J=>Tot.bE (λh=>?_) (λh=>?_)
 ·refine Tot.bp (λh=>.ao ⟨λ_=>.inl (.inl h),λh=>(by cases h)⟩) (λh1=>Tot.bp (λh=>.ao ⟨λ_=>.inl (.inr h),λh=>(by cases h)⟩) (λaf=>Tot.bp (λh=>.ao ⟨λ_=>.inr (.inl h),λh=>(by cases h)⟩) (λaI=>.ao ⟨λh=>.inr (.inr (of_decide_eq_true h)),λh=>?_⟩)));have:=of_decide_eq_false h;omega
 ·refine .ao (Eq.symm (O7 λr aq p au e=>?_));obtain ⟨aQ,b,av,h1,_⟩:=at_ r aq p au;have af:=fH r aq p au;rcases J.1 h with aR | aR | aR
  ·rw [out aR] at aq; cases aq
  ·omega
  ·omega
 ·obtain ⟨aQ,h1,af,aI⟩:=J.2 h;have halt:a.toNat<rows.length:=by omega
  -- the base
  obtain ⟨b,av,gW⟩:∃ b:Nat,c.cS[a.toNat]?=some (b:Int)/\b<=900000:=by
   by_cases hm:a.toNat∈o
   ·obtain ⟨dm,b,g1,g2,g3⟩:=bc.own a.toNat (List.mem_reverse.2 hm);refine ⟨b,g2,?_⟩;obtain ⟨r,cv,b9⟩:=(hO.mem _).1 hm;rw [cv] at g1; cases g1;obtain ⟨p,au⟩:=List.exists_mem_of_ne_nil _ b9;have:=(g3 p au).1;omega
   ·exact ⟨0,h_.rest _ halt (by simpa using hm),by omega⟩
  have w_:idx c.cS a=some (b:Int):=by rw [idx,if_pos aQ]; exact av
  rw [w_];have hw:aJ ((b:Int)+n)=((b+n.toNat:Nat):Int):=by rw [cB]; omega
  have Wp:aJ (a+1)=a+1:=by rw [cB]; have:=db.n; omega
  refine Tot.aV ?_;rw [hw,Wp];refine .aA (Ξ:=λx:Bool=>(x=true->∀ r,idx rows a=some r->∀ p∈r,p.At≠n)/\(x=false->b+n.toNat<c.b3.length/\c.b3.getD (b+n.toNat) 0=a+1)) (Tot.bp (λh=>.ao ⟨λ_ r aq p au e=>?_,λh=>(by cases h)⟩) (λh=>?_)) λx J=>Tot.bE (λh=>.ao (Eq.symm (O7 (J.1 h)))) (λh=>?_)
  ·obtain ⟨_,eD,cj,g1,_⟩:=at_ r aq p au;rw [av] at cj;have:b=eD:=by injection cj with cj; omega
   subst this;subst e;omega
  ·have ak:b+n.toNat<c.b3.length:=by omega
   rw [sY ak];have aO:c.b3.getD (b+n.toNat) 0=c.b3[b+n.toNat]:=by rw [List.getD_eq_getElem?_getD,List.getElem?_eq_getElem ak]; rfl
   rw [<- aO];refine Tot.aV (.ao ⟨λh r aq p au e=>?_,λh=>⟨ak,by simpa using h⟩⟩);obtain ⟨_,eD,cj,_,g2,_⟩:=at_ r aq p au;rw [av] at cj;have:b=eD:=by injection cj with cj; omega
   subst this;subst e;rw [g2] at h;have:¬ ((a.toNat:Int)+1=a+1):=by simpa using h
   omega
  ·obtain ⟨ak,he⟩:=J.2 h;have pB:b+n.toNat<c.b8.length:=by omega
   rw [sY pB];refine Tot.aV (.ao ?_);obtain ⟨i,hi,r,eD,cv,b9,p,au,fG,mU⟩:=bc.KX (b+n.toNat) (by rw [he]; omega);rw [he] at mU;have Vw:i=a.toNat:=by omega
   subst Vw;rw [av] at b9;have:b=eD:=by injection b9 with b9; omega
   subst this;have sT:idx rows a=some r:=by rw [idx,if_pos aQ]; exact cv
   have EM:=fH r sT p au;have sR:p.At=n:=by omega
   obtain ⟨_,eD,cj,_,_,g3⟩:=at_ r sT p au;rw [av] at cj;have:b=eD:=by injection cj with cj; omega
   subst this;unfold q7;rw [sT];show _=kQ r n;have NM:=get_some (db.rows r (List.mem_of_getElem? cv)) au;rw [sR,<- g3,sR,List.getD_eq_getElem?_getD,List.getElem?_eq_getElem pB] at NM;exact NM.symm
structure j8 (x:Sym):Prop where
 lit:x.Lit=true->x.Name.size=1/\0<lG x.Name 0/\lG x.Name 0<=255/\x.bR=0
 num:0<=x.bR/\x.bR<=50000
theorem J8 (x:Sym) (a b:Bool):Par (uB x a b) λr=>r=true->j8 x:=by
 unfold uB;refine Par.bE (λak=>?_) (λak=>?_)
 ·refine .aA (Ξ:=λc=>c=false->x.Name.size=1/\x.bR=0) ?_ λc aa=>Par.bE (λ_=>.ao λh=>by cases h) (λaf=>?_)
  ·refine Par.bE (λ_=>.ao λh=>by cases h) (λ_=>Par.oL (λ_=>.ao λh=>by cases h) (λh1=>.ao λaf=>⟨by omega,?_⟩));simpa using af
  ·obtain ⟨h1,aI⟩:=aa af;refine .aA (Ξ:=λc=>c=lG x.Name 0) (λc aa=>?_) λc aa=>?_
   ·unfold kr at aa
    split at aa
    ·exact (Option.some.inj aa).symm
    ·cases aa
   ·subst aa;refine .aA (Ξ:=λr=>r.2=true->0<lG x.Name 0/\lG x.Name 0<=255) ?_ λr aq=>.ao λh=>⟨λ_=>⟨h1,(aq h).1,(aq h).2,aI⟩,by omega⟩;unfold z_;refine Par.bp (λh=>.ao λ_=>by omega) (λ_=>Par.bp (λh=>.ao λ_=>by omega) (λ_=>Par.bp (λh=>.ao λ_=>by omega) (λ_=>?_)));refine .aA (Ξ:=λc=>c=true->lG x.Name 0=92\/lG x.Name 0=39) (Par.bp (λh=>.ao λ_=>.inl h) (λ_=>.ao λh=>.inr (of_decide_eq_true h))) λc aa=>Par.bE (λh=>.ao λ_=>by rcases aa h with h | h <;> omega) (λ_=>?_);refine .aA (Ξ:=λr:Int × Bool=>r.2=true->0<lG x.Name 0/\lG x.Name 0<=255) (Par.bp (λh=>.ao λaR=>?_) (λ_=>.ao λh=>by cases h)) λr aq=>.ao aq;have:lG x.Name 0<=126:=of_decide_eq_true aR;omega
 ·refine .aA (Ξ:=λc=>c=true->0<=x.bR/\x.bR<=50000) ?_ λc aa=>.ao λh=>⟨λaR=>(by rw [ak] at aR; cases aR),aa h⟩;refine .aA (Ξ:=λ_=>True) (λ_ _=>trivial) λc _=>Par.bE (λ_=>Par.bp (λh=>.ao λ_=>by omega) (λ_=>Par.bE (λ_=>Par.bp (λh=>.ao λaR=>⟨by omega,of_decide_eq_true aR⟩) (λ_=>.ao λh=>by cases h)) (λ_=>.ao λh=>by cases h))) (λ_=>.ao λh=>by cases h)
theorem Pq (x:Sym):Par (uC x) λr=>r=true->j8 x:=by
 unfold uC;refine .aA (Ξ:=λr=>r=true->j8 x) ?_ λr aq=>.ao aq;refine Par.bE (λ_=>Par.bE (λh=>.ao λaR=>?_) (λ_=>.ao λh=>by cases h)) (λ_=>.ao λh=>by cases h);have h1:x.Lit=false:=by simpa using h
 have af:x.bR=0:=of_decide_eq_true aR;exact ⟨λh=>(by rw [h1] at h; cases h),by omega⟩
theorem XM (d:Decl) (aF:d.eN.length<=1000000):Par (xY d) λr=>r=true->∀ x∈d.eN,j8 x:=by
 unfold xY;refine .aA (Ξ:=λ_=>True) (λ_ _=>trivial) λc _=>Par.bE (λ_=>.ao λh=>by cases h) (λ_=>?_);refine .aA (Par.scan d.eN (by omega) (λx=>j8 x) (λr=>r=false) (λs y aQ h1 hi hm=>?_) (λs aB=>by simp [aB])) λx J=>?_
 ·refine Par.bp (λ_=>?_) (λh=>absurd h1 h);rw [hi];have hw:aJ (s+1)=s+1:=by rw [cB]; omega
  rw [hw];exact .aA (Ξ:=λz=>z=y) (.ao rfl) λz aX=>by
   subst aX;exact .aA (J8 _ _ _) λc aa=>Par.bE (λ_=>.ao rfl) (λaf=>.ao ⟨rfl,aa (by simpa using af)⟩)
 ·rcases x with _ | r
  ·exact .ao λ_=>J
  ·exact .ao λh=>by have:r=false:=J; rw [this] at h; cases h
theorem XN (a:Alt) (aF:a.hA.length<=1000000):Par (xZ a) λr=>r=true->(∀ p∈a.hA,j8 p.Sym)/\j8 a.Prec:=by
 unfold xZ;refine .aA (Par.scan a.hA (by omega) (λp=>j8 p.Sym) (λr=>r=false) (λs y aQ h1 hi hm=>?_) (λs aB=>by simp [aB])) λx J=>?_
 ·refine Par.bp (λ_=>?_) (λh=>absurd h1 h);rw [hi];have hw:aJ (s+1)=s+1:=by rw [cB]; omega
  rw [hw];refine .aA (Ξ:=λz=>z=y) (.ao rfl) λz aX=>?_;subst aX;refine .aA (Ξ:=λc=>c=false->j8 z.Sym) ?_ λc aa=>Par.bE (λ_=>.ao rfl) (λaf=>.ao ⟨rfl,aa af⟩);refine Par.bp (λhe=>?_) (λdq=>?_)
  ·refine .aA (J8 _ _ _) λc aa=>Par.bE (λ_=>.ao λh=>by cases h) (λaf=>?_);have db:=aa (by simpa using af);exact λ_ _ _=>db
  ·refine Par.oL (λ_=>?_) (λh=>absurd h dq);refine .aA (Pq _) λc aa=>Par.bE (λ_=>.ao λh=>by cases h) (λaf=>?_);have db:=aa (by simpa using af);exact λ_ _ _=>db
 ·rcases x with _ | r
  ·have J:∀ p∈a.hA,j8 p.Sym:=J;refine .aA (Ξ:=λc=>c=true->j8 a.Prec) ?_ λc aa=>.ao λh=>⟨J,aa h⟩;refine .aA (Pq _) λc aa=>Par.bE (λaf=>.ao λ_=>aa af) (λ_=>.aA (J8 _ _ _) λc aa=>.ao aa)
  ·exact .ao λh=>by have:r=false:=J; rw [this] at h; cases h
structure Lt (s:Source):Prop where
 decls:∀ d∈s.Decls,∀ x∈d.eN,j8 x
 rules:∀ r∈s.dG,∀ a∈r.eM,(∀ p∈a.hA,j8 p.Sym)/\j8 a.Prec
theorem XI (s:Source) (av:rL s):Par (xW s) λr=>r=true->Lt s:=by
 unfold xW;refine .aA (Ξ:=hl (λ_=>True) (λr=>r=false)) ?_ λx J=>?_
 ·refine Par.loop (λ_=>True) trivial λj _=>?_;refine Par.bp (λ_=>.aA (Ξ:=λ_=>True) (λ_ _=>trivial) λ_ _=>Par.bE (λ_=>.ao rfl) (λ_=>.ao trivial)) (λ_=>.ao trivial)
 ·rcases x with _ | r
  ·refine .aA (Par.scan s.Decls (by have:=av.ze; omega) (λd=>∀ x∈d.eN,j8 x) (λr=>r=false) (λi y aQ h1 hi hm=>?_) (λs aB=>by simp [aB])) λx J=>?_
   ·refine Par.bp (λ_=>?_) (λh=>absurd h1 h);rw [hi];have hw:aJ (i+1)=i+1:=by have:=av.ze; rw [cB]; omega
    rw [hw];refine .aA (Ξ:=λz=>z=y) (.ao rfl) λz aX=>?_;subst aX;exact .aA (XM z (by have:=(av.decls z hm).n; omega)) λc aa=>Par.bE (λ_=>.ao rfl) (λaf=>.ao ⟨rfl,aa (by simpa using af)⟩)
   ·rcases x with _ | r
    ·have aS:∀ d∈s.Decls,∀ x∈d.eN,j8 x:=J;refine .aA (Par.scan s.dG (by have:=av.aG; omega) (λr=>∀ a∈r.eM,(∀ p∈a.hA,j8 p.Sym)/\j8 a.Prec) (λr=>r=false) (λi y aQ h1 hi hm=>?_) (λs aB=>by simp [aB])) λx J=>?_
     ·refine Par.bp (λ_=>?_) (λh=>absurd h1 h);rw [hi];have hw:aJ (i+1)=i+1:=by have:=av.aG; rw [cB]; omega
      rw [hw];refine .aA (Ξ:=λz=>z=y) (.ao rfl) λz aX=>?_;subst aX;have l6:=(av.rules z hm);refine .aA (Ξ:=λ_=>True) (λ_ _=>trivial) λc _=>Par.bE (λ_=>.ao rfl) (λ_=>?_);refine .aA (Par.scan z.eM (by have:=l6.n; omega) (λa=>(∀ p∈a.hA,j8 p.Sym)/\j8 a.Prec) (λr=>r=false) (λk y aQ h1 hi hm=>?_) (λs aB=>by simp [aB])) λx J=>?_
      ·refine Par.bp (λ_=>?_) (λh=>absurd h1 h);rw [hi];have hw:aJ (k+1)=k+1:=by have:=l6.n; rw [cB]; omega
       rw [hw];refine .aA (Ξ:=λz=>z=y) (.ao rfl) λz aX=>?_;subst aX;exact .aA (XN z (by have:=(l6.alts z hm).n; omega)) λc aa=>Par.bE (λ_=>.ao rfl) (λaf=>.ao ⟨rfl,aa (by simpa using af)⟩)
      ·rcases x with _ | r
       ·exact .ao ⟨rfl,J⟩
       ·exact .ao J
     ·rcases x with _ | r
      ·exact .ao λ_=>⟨aS,J⟩
      ·exact .ao λh=>by have:r=false:=J; rw [this] at h; cases h
    ·exact .ao λh=>by have:r=false:=J; rw [this] at h; cases h
  ·exact .ao λh=>by have:r=false:=J; rw [this] at h; cases h
structure yZ (T:List bX) (G:List Bool):Prop where
 Eo:G.length=T.length
 lo:3<=T.length
 hi:T.length<=lim
 CA:∀ t∈T,t.Name.size<=dL/\(t.Lit=true->t.Name.size=1)
 le:∀ t∈T,t.bR<=50000
structure tu (T:List bX) (G:List Bool):Prop where
 aS:∀ (i:Nat) (t:bX),i<3->T[i]?=some t->t.bR<=0
 un:∀ (i j:Nat) (s t:bX),T[i]?=some s->T[j]?=some t->0<s.bR->s.bR=t.bR->i=j
 gD:∀ (i:Nat) (t:bX),3<=i->T[i]?=some t->(G[i]?=some true->0<t.bR)/\(G[i]?=some false->t.bR=0)
structure fA (m:fJ):Prop where
 a:yZ m.aH.ba m.ct
 b:m.c0=0->tu m.aH.ba m.ct
 fv:∀ y∈m.cb,y.size<=dL
theorem vE {α:Type}{l:List α}{i:Int}{y:α}(h:idx l i=some y):0<=i/\i.toNat<l.length/\l[i.toNat]?=some y:=by
 unfold idx at h
 split at h
 ·rename_i aQ;exact ⟨aQ,(List.getElem?_eq_some_iff.1 h).1,h⟩
 ·cases h
theorem yZ.set {T:List bX}{G:List Bool}(h:yZ T G) {k:Nat}{t t':bX}(hk:T[k]?=some t) (aF:t'.Name=t.Name) (ak:t'.Lit=t.Lit) (hu:t'.bR<=50000) {Lj:List Bool}(c9:Lj.length=G.length):yZ (T.set k t') Lj:=by
 have hm:=List.mem_of_getElem? hk;have key:∀ {P:bX->Prop},(∀ s∈T,P s)->P t'->∀ s∈T.set k t',P s:=λh1 af s aB=>by
  rcases List.mem_or_eq_of_mem_set aB with h | h
  ·exact h1 s h
  ·rw [h]; exact af
 exact ⟨by rw [c9,List.length_set]; exact h.Eo,by rw [List.length_set]; exact h.lo,by rw [List.length_set]; exact h.hi,key h.CA (by rw [aF,ak]; exact h.CA t hm),key h.le hu⟩
theorem yl {α:Type}{l:List α}{k:Nat}{x:α}(hk:k<l.length) (i:Nat):(l.set k x)[i]?=if i=k then some x else l[i]?:=by
 rw [List.getElem?_set];by_cases e:k=i
 ·subst e; simp [hk]
 ·simp [e,Ne.symm e]
theorem tu.FY {T:List bX}{G:List Bool}(h:tu T G) {k:Nat}{t t':bX}(hk:T[k]?=some t) (hu:t'.bR=t.bR):tu (T.set k t') G:=by
 have aT:=(List.getElem?_eq_some_iff.1 hk).1;have key:∀ (i:Nat) (s:bX),(T.set k t')[i]?=some s->∃ cT,T[i]?=some cT/\cT.bR=s.bR:=by
  intro i s aB;rw [yl aT] at aB;by_cases e:i=k
  ·rw [if_pos e] at aB;cases aB;exact ⟨t,by rw [e]; exact hk,hu.symm⟩
  ·rw [if_neg e] at aB;exact ⟨s,aB,rfl⟩
 refine ⟨λi s hi aB=>?_,λi j s s2 aB ll aQ he=>?_,λi s hi aB=>?_⟩
 ·obtain ⟨cT,h1,af⟩:=key i s aB;rw [<- af]; exact h.aS i cT hi h1
 ·obtain ⟨cT,h1,af⟩:=key i s aB;obtain ⟨Yv,aI,bF⟩:=key j s2 ll;exact h.un i j cT Yv h1 aI (by omega) (by omega)
 ·obtain ⟨cT,h1,af⟩:=key i s aB;rw [<- af]; exact h.gD i cT hi h1
theorem tu.YD {T:List bX}{G:List Bool}(h:tu T G) {k:Nat}{t t':bX}(hk:T[k]?=some t) (aI:3<=k) (aO:k<G.length) (aQ:0<t'.bR) (aF:∀ (i:Nat) (s:bX),T[i]?=some s->s.bR≠t'.bR):tu (T.set k t') (G.set k true):=by
 have aT:=(List.getElem?_eq_some_iff.1 hk).1;refine ⟨λi s hi aB=>?_,λi j s s2 aB ll au he=>?_,λi s hi aB=>?_⟩
 ·rw [yl aT,if_neg (by omega)] at aB;exact h.aS i s hi aB
 ·rw [yl aT] at aB ll;by_cases cv:i=k
  ·rw [if_pos cv] at aB; cases aB;by_cases b9:j=k
   ·omega
   ·rw [if_neg b9] at ll;exact absurd he.symm (aF j s2 ll)
  ·rw [if_neg cv] at aB;by_cases b9:j=k
   ·rw [if_pos b9] at ll; cases ll;exact absurd he (aF i s aB)
   ·rw [if_neg b9] at ll;exact h.un i j s s2 aB ll au he
 ·rw [yl aT] at aB;rw [yl aO];by_cases cv:i=k
  ·rw [if_pos cv] at aB ⊢;cases aB;exact ⟨λ_=>aQ,λh=>by cases h⟩
  ·rw [if_neg cv] at aB ⊢;exact h.gD i s hi aB
theorem s7 (m:fJ) (a:Int) (n:ByteArray):Par (nV m a n) λm'=>rK m m'/\m'.c0≠0:=.of (t105 m a n)
theorem fA.fail {m m':fJ}(h:fA m) (aB:rK m m'/\m'.c0≠0):fA m':=⟨by rw [aB.1.g,aB.1.gD]; exact h.a,λe=>absurd e aB.2,by rw [aB.1.fv]; exact h.fv⟩
theorem XK (m:fJ) (x:Sym) (aI:3<=m.aH.ba.length) (h:m.aH.ba.length<=lim):Par (uz m x) λr=>r=-1\/(1<=r/\r≠2):=by
 have ak:lim=1000000000000\/lim<=1000000000000000:=by unfold lim; omega
 unfold uz;refine .aA (Ξ:=hl (λ_=>True) (λr:Int=>1<=r/\r≠2)) ?_ λr aq=>?_
 ·refine Par.loop (λs=>1<=s/\s<=m.aH.ba.length) ⟨by decide,by omega⟩ λs aB=>?_
  ·refine Par.bp (λaT=>?_) (λ_=>.ao trivial);refine .aA (Ξ:=λc=>c=true->s≠2) ?_ λc aa=>Par.bE (λaR=>.ao ⟨aB.1,aa aR⟩) (λ_=>.ao ⟨by rw [cB]; omega,by rw [cB]; omega⟩);refine .go λy _=>Par.bE (λ_=>.go λz _=>Par.bE (λ_=>.ao λaR=>by simpa using aR) (λ_=>.ao λh=>by cases h)) (λ_=>.ao λh=>by cases h)
 ·rcases r with _ | r
  ·exact .ao (.inl rfl)
  ·exact .ao (.inr aq)
theorem Po (m:fJ) (n:Int) (aI:3<=m.aH.ba.length) (h:m.aH.ba.length<=lim):Par (vU m n) λr=>r<0->∀ (i:Nat) (t:bX),3<=i->m.aH.ba[i]?=some t->t.bR≠n:=by
 have ak:lim=1000000000000\/lim<=1000000000000000:=by unfold lim; omega
 unfold vU;refine .aA (Ξ:=hl (λ_=>∀ (i:Nat) (t:bX),3<=i->m.aH.ba[i]?=some t->t.bR≠n) (λr:Int=>0<=r)) ?_ λr aq=>?_
 ·refine Par.loop (λs=>3<=s/\s<=m.aH.ba.length/\∀ (i:Nat) (t:bX),3<=i->(i:Int)<s->m.aH.ba[i]?=some t->t.bR≠n) ⟨by decide,by omega,λi t h1 af=>by omega⟩ λs aB=>?_;obtain ⟨h1,af,aB⟩:=aB;refine Par.bp (λaT=>?_) (λdS=>.ao λi t hi aw=>aB i t hi ?_ aw)
  ·refine .go λy ax=>?_;obtain ⟨_,_,ax⟩:=vE ax;have hw:aJ (s+1)=s+1:=by rw [cB]; omega
   rw [hw];refine Par.bp (λe=>.ao (show (0:Int)<=s by omega)) (λe=>.ao ⟨by omega,by omega,λi t hi zt aw=>?_⟩);by_cases b9:i=s.toNat
   ·subst b9;rw [ax] at aw; cases aw; exact e
   ·exact aB i t hi (by omega) aw
  ·have:=(List.getElem?_eq_some_iff.1 aw).1;omega
 ·rcases r with _ | r
  ·exact .ao λ_=>aq
  ·exact .ao λh=>by have:(0:Int)<=r:=aq; omega
theorem Dn {α:Type}{l:List α}{x:α}(i:Nat) {y:α}(h:(l++[x])[i]?=some y):(i<l.length/\l[i]?=some y)\/(i=l.length/\y=x):=by
 by_cases hi:i<l.length
 ·rw [List.getElem?_append_left hi] at h;exact .inl ⟨hi,h⟩
 ·rw [List.getElem?_append_right (by omega)] at h;by_cases e:i - l.length=0
  ·rw [e] at h;simp at h;exact .inr ⟨by omega,h.symm⟩
  ·have:([x]:List α)[i - l.length]?=none:=by rw [List.getElem?_eq_none]; simp; omega
   rw [this] at h; cases h
theorem Pn (m:fJ) (x:Sym) (hm:fA m) (J:j8 x) (aB:x.Name.size<=dL):Par (vT m x) λr=>fA r.2/\(r.1=1\/3<=r.1):=by
 unfold vT;have ak:lim<=1000000000000000:=by unfold lim; omega
 refine .aA (XK m x hm.a.lo hm.a.hi) λr aq=>Par.bp (λh=>.ao ⟨hm,?_⟩) (λ_=>?_)
 ·show r=1\/3<=r;omega
 refine .aA (Ξ:=λj:fJ × Int=>j.1.aH=m.aH/\j.1.ct=m.ct/\j.1.cb=m.cb/\fA j.1/\j.2<=50000/\(j.1.c0=0->(x.Lit=true->0<j.2/\∀ (i:Nat) (t:bX),m.aH.ba[i]?=some t->t.bR≠j.2)/\(x.Lit=false->j.2=0))) ?_ λj ah=>?_
 ·refine Par.bE (λoa=>?_) (λoa=>.ao ⟨rfl,rfl,rfl,hm,by show (0:Int)<=_; decide,λ_=>⟨λh=>(by rw [oa] at h; cases h),λ_=>rfl⟩⟩);obtain ⟨_,h1,af,_⟩:=J.lit oa;refine .aA (Ξ:=λc=>c=lG x.Name 0) (λc aa=>?_) λc aa=>?_
  ·unfold kr at aa
   split at aa
   ·exact (Option.some.inj aa).symm
   ·cases aa
  subst aa;have hw:aJ (lG x.Name 0)=lG x.Name 0:=by rw [cB]; omega
  rw [hw];refine .aA (Po m (lG x.Name 0) hm.a.lo hm.a.hi) λo a1=>?_;refine .aA (Ξ:=λj:fJ=>j.aH=m.aH/\j.ct=m.ct/\j.cb=m.cb/\fA j/\(j.c0=0->m.c0=0/\o<0)) (Par.bp (λh=>.aA (s7 m x.At x.Name) λm' aR=>.ao ⟨aR.1.g,aR.1.gD,aR.1.fv,hm.fail aR,λe=>absurd e aR.2⟩) (λh=>.ao ⟨rfl,rfl,rfl,hm,λe=>⟨e,by omega⟩⟩)) λj ah=>.ao ⟨ah.1,ah.2.1,ah.2.2.1,ah.2.2.2.1,by show lG x.Name 0<=_; omega,λe=>⟨λ_=>⟨h1,λi t aw=>?_⟩,λh=>(by rw [oa] at h; cases h)⟩⟩;obtain ⟨cv,b9⟩:=ah.2.2.2.2 e;by_cases aI:3<=i
  ·exact a1 b9 i t aI aw
  ·have:=(hm.b cv).aS i t (by omega) aw;show t.bR≠lG x.Name 0;omega
 ·obtain ⟨aO,r5,vp,dM,hle,he⟩:=ah;have Ex:j.1.c0=0->tu m.aH.ba m.ct:=λe=>by have:=dM.b e; rwa [aO,r5] at this
  refine Par.ap λsQ=>Par.ap λ_=>.ao ?_;rw [aO] at sQ;rw [aO,r5,vp];simp only [List.length_cons,List.length_nil] at sQ;have aI:=hm.a.lo;have Iw:=hm.a.Eo;refine ⟨⟨⟨by simp [Iw],by show 3<=(m.aH.ba++[_]).length; simp; omega,by show (m.aH.ba++[_]).length<=_; simp; omega,λt aw=>?_,λt aw=>?_⟩,λhc=>?_,hm.fv⟩,?_⟩
  ·rcases List.mem_append.1 aw with aw | aw
   ·exact hm.a.CA t aw
   ·rw [List.mem_singleton.1 aw];exact ⟨aB,λh=>(J.lit h).1⟩
  ·rcases List.mem_append.1 aw with aw | aw
   ·exact hm.a.le t aw
   ·rw [List.mem_singleton.1 aw]; exact hle
  ·have Ms:j.1.c0=0:=hc;have av:=Ex Ms;obtain ⟨Ir,BI⟩:=he Ms;refine ⟨λi t hi aw=>?_,λi k s t aB aw aQ heq=>?_,λi t hi aw=>?_⟩
   ·rcases Dn i aw with ⟨h1,af⟩ | ⟨h1,_⟩
    ·exact av.aS i t hi af
    ·omega
   ·rcases Dn i aB with ⟨h1,af⟩ | ⟨h1,af⟩
    ·rcases Dn k aw with ⟨bF,cF⟩ | ⟨bF,cF⟩
     ·exact av.un i k s t af cF aQ heq
     ·subst cF;have heq:s.bR=j.2:=heq;cases oa:x.Lit with
      | true=>exact absurd heq ((Ir oa).2 i s af)
      | false=>have:=BI oa; omega
    ·subst af;rcases Dn k aw with ⟨bF,cF⟩ | ⟨bF,cF⟩
     ·have heq:j.2=t.bR:=heq;have aQ:0<j.2:=aQ;cases oa:x.Lit with
      | true=>exact absurd heq.symm ((Ir oa).2 k t cF)
      | false=>have:=BI oa; omega
     ·omega
   ·have Um:(m.ct++[x.Lit])[i]?=if i=m.aH.ba.length then some x.Lit else m.ct[i]?:=by
     by_cases e:i=m.aH.ba.length
     ·rw [if_pos e,e,<- Iw,List.getElem?_append_right (Nat.le_refl _)]; simp
     ·have:=(List.getElem?_eq_some_iff.1 aw).1;simp at this;rw [if_neg e,List.getElem?_append_left (by omega)]
    show ((m.ct++[x.Lit])[i]?=some true->0<t.bR)/\((m.ct++[x.Lit])[i]?=some false->t.bR=0);rw [Um];rcases Dn i aw with ⟨h1,af⟩ | ⟨h1,af⟩
    ·rw [if_neg (by omega)];exact av.gD i t hi af
    ·rw [if_pos h1];subst af;exact ⟨λh=>(Ir (Option.some.inj h)).1,λh=>BI (Option.some.inj h)⟩
  ·right;show 3<=aJ (((m.aH.ba++[_]).length:Int) - 1);simp only [List.length_append,List.length_cons,List.length_nil];rw [cB]; omega
theorem xx {α:Type}{l:List α}{i:Int}{y:α}(h:idx l i=some y):y∈l:=List.mem_of_getElem? (vE h).2.2
theorem fA.FY {m:fJ}(h:fA m) {k:Nat}{t t':bX}(hk:m.aH.ba[k]?=some t) (aF:t'.Name=t.Name) (ak:t'.Lit=t.Lit) (hu:t'.bR=t.bR):yZ (m.aH.ba.set k t') m.ct/\(m.c0=0->tu (m.aH.ba.set k t') m.ct) :=
 ⟨h.a.set hk aF ak (by rw [hu]; exact h.a.le t (List.mem_of_getElem? hk)) rfl,λe=>(h.b e).FY hk hu⟩
theorem fA.HA {m m':fJ}(h:fA m) (aB:rK m m'/\m'.c0≠0):fA (⟨(⟨m.aH.ba,m'.aH.b2,m'.aH.bh,m'.aH.cA,m'.aH.cK⟩:bN),m'.ct,m'.cL,m'.cb,m'.c0,m'.dn,m'.dk,m'.cq,m'.b_⟩:fJ) :=
 ⟨by show yZ m.aH.ba m'.ct; rw [aB.1.gD]; exact h.a,λe=>absurd e aB.2,by show ∀ y∈m'.cb,_; rw [aB.1.fv]; exact h.fv⟩
theorem XJ (m:fJ) (d:Decl) (x:Sym) (hm:fA m) (J:j8 x) (aB:x.Name.size<=dL):Par (vQ m d x) fA:=by
 unfold vQ;refine Par.bE (λ_=>?_) (λ_=>?_)
 ·refine .aA (Ξ:=λ_=>True) (λ_ _=>trivial) λk _=>.aA (Ξ:=fA) ?_ λm' hm=>.ao hm;refine Par.bp (λ_=>Par.ap λ_=>.ao ⟨hm.a,hm.b,hm.fv⟩) (λ_=>?_);refine .go λy _=>.aA (Ξ:=fA) (Par.bE (λ_=>.aA (s7 m _ _) λm' h=>.ao (hm.fail h)) (λ_=>.ao hm)) λm' hm=>.ao hm
 ·refine .aA (Pn m x hm J aB) λr aq=>?_;obtain ⟨aq,ky⟩:=aq;refine .go λy ax=>?_;refine .aA (Ξ:=fA) ?_ λeP q8=>?_
  ·refine Par.bE (λ_=>?_) (λ_=>.ao aq);refine .aA (Ξ:=fA) (Par.bE (λ_=>.aA (s7 r.2 _ _) λm' h=>.ao (aq.HA h)) (λ_=>.ao aq)) λdc sH=>?_;refine .go λz aX=>?_;obtain ⟨_,_,aX⟩:=vE aX;rw [List.set_set];obtain ⟨h1,af⟩:=sH.FY (t':=(⟨z.Name,z.Lit,z.bR,dc.cq,aJ (d.Kind - 1),z.Tag⟩:bX)) aX rfl rfl rfl;exact .ao ⟨h1,af,sH.fv⟩
  refine .go λy _=>?_;refine .aA (Ξ:=fA) ?_ λe_ vc=>?_
  ·refine Par.bp (λsS=>?_) (λ_=>.ao q8);refine .aA (Ξ:=λc:Bool=>c=false->r.1≠1/\∀ (i:Nat) (t:bX),3<=i->eP.aH.ba[i]?=some t->t.bR≠x.bR) ?_ λc aa=>?_
   ·refine Par.bp (λ_=>.ao λh=>by cases h) (λh1=>.go λgD _=>Par.bE (λ_=>.ao λh=>by cases h) (λ_=>.aA (Po eP x.bR q8.a.lo q8.a.hi) λo a1=>.ao λh=>⟨h1,a1 (by have:=of_decide_eq_false h; omega)⟩))
   refine .aA (Ξ:=λj=>fA j/\(j.c0=0->r.1≠1/\∀ (i:Nat) (t:bX),3<=i->j.aH.ba[i]?=some t->t.bR≠x.bR)) (Par.bE (λ_=>.aA (s7 eP _ _) λm' h=>.ao ⟨q8.HA h,λe=>absurd e h.2⟩) (λh=>.ao ⟨q8,λ_=>aa h⟩)) λdY rW=>?_;obtain ⟨rW,aF⟩:=rW;refine .go λz aX=>.go λgD r5=>.ao ?_;obtain ⟨aQ,aT,aX⟩:=vE aX;obtain ⟨_,VK,r5⟩:=vE r5;have hle:=J.num;refine ⟨rW.a.set (t':=(⟨z.Name,z.Lit,x.bR,z.Level,z.fq,z.Tag⟩:bX)) aX rfl rfl hle.2 (by simp),λe=>?_,rW.fv⟩;obtain ⟨aI,bF⟩:=aF e;have av:=rW.b e;refine av.YD (t':=(⟨z.Name,z.Lit,x.bR,z.Level,z.fq,z.Tag⟩:bX)) aX (by omega) VK sS λi t aw=>?_;by_cases abR:3<=i
   ·grind
   ·have:=av.aS i t (by omega) aw
    grind
  refine .go λy _=>.aA (Ξ:=fA) ?_ λj ah=>.ao ah;refine Par.bE (λ_=>?_) (λ_=>.ao vc);refine .aA (Ξ:=λ_=>True) (λ_ _=>trivial) λc _=>?_;refine .aA (Ξ:=fA) (Par.bE (λ_=>.aA (s7 e_ _ _) λm' h=>.ao (vc.HA h)) (λ_=>.ao vc)) λni Bq=>?_;refine .go λz aX=>?_;obtain ⟨_,_,aX⟩:=vE aX;obtain ⟨h1,af⟩:=Bq.FY (t':=(⟨z.Name,z.Lit,z.bR,z.Level,z.fq,d.Tag⟩:bX)) aX rfl rfl rfl;exact .ao ⟨h1,af,Bq.fv⟩
theorem Pp (m:fJ) (x:Sym) (hm:fA m) (J:j8 x) (aB:x.Name.size<=dL):Par (s9 m x) λr=>fA r.2:=by
 unfold s9;refine Par.bE (λ_=>.aA (Pn m x hm J aB) λr aq=>.ao aq.1) (λ_=>.aA (Ξ:=λ_=>True) (λ_ _=>trivial) λk _=>Par.bE (λ_=>.ao hm) (λ_=>.aA (Ξ:=λ_=>True) (λ_ _=>trivial) λt _=>Par.bE (λ_=>.aA (s7 m _ _) λm' h=>.ao (hm.fail h)) (λ_=>.ao hm)))
theorem XL (m:fJ) (left:ByteArray) (a:Alt) (hm:fA m) (av:wx a) (aP:(∀ p∈a.hA,j8 p.Sym)/\j8 a.Prec):Par (vR m left a) fA:=by
 have aF:=av.n;unfold vR;refine .aA (Ξ:=λ_=>True) (λ_ _=>trivial) λa8 _=>?_;refine .aA (Ξ:=λr:fJ × List Int × ByteArray × Int=>fA r.1) ?_ λa7 aI=>?_
 ·refine Par.loop (λs=>fA s.1/\0<=s.2.2.2.2) ⟨hm,Int.le_refl 0⟩ λs aB=>?_;obtain ⟨m1,rt,bE,at_,i⟩:=s;obtain ⟨aB,aQ⟩:=aB;simp only at aB aQ ⊢;refine Par.bp (λaT=>?_) (λ_=>.ao aB);refine .aA (Ξ:=λj:fJ × List Int × ByteArray × Int=>fA j.1) ?_ λj ah=>.ao ⟨ah,by show 0<=aJ (i+1); rw [cB]; omega⟩;refine .go λy ax=>.aA (Ξ:=λj:fJ × List Int × ByteArray × Int=>fA j.1) ?_ λj ah=>.ao ah;have EX:=(xx ax);refine .aA (Ξ:=λj:fJ × List Int × ByteArray × Int=>fA j.1) ?_ λj ah=>.ao ah;refine Par.bE (λ_=>?_) (λ_=>?_)
  ·exact .aA (Pp m1 y.Sym aB (aP.1 y EX) (av.parts y EX).1) λr aq=>Par.ap λ_=>.ao aq
  ·exact .aA (Ξ:=λ_=>True) (λ_ _=>trivial) λj _=>.ao ⟨aB.a,aB.b,aB.fv⟩
 ·refine .aA (Ξ:=λ_=>True) (λ_ _=>trivial) λhx _=>?_;refine .aA (Ξ:=λj:fJ × Int=>fA j.1) ?_ λj ah=>Par.ap λ_=>Par.ap λ_=>.ao ⟨ah.a,ah.b,ah.fv⟩;refine Par.bE (λ_=>?_) (λ_=>.ao aI);refine .aA (Ξ:=λ_=>True) (λ_ _=>trivial) λc _=>.aA (Ξ:=λj:fJ × Int=>fA j.1) ?_ λj ah=>.ao ah;exact Par.bE (λ_=>.aA (Pp a7.1 a.Prec aI aP.2 av.prec) λr aq=>.ao aq) (λ_=>.aA (s7 a7.1 _ _) λm' h=>.ao (aI.fail h))
structure uX (g:bN):Prop where
 aS:∀ (i:Nat) (t:bX),i<3->g.ba[i]?=some t->t.bR<=0
 pos:∀ (i:Nat) (t:bX),3<=i->g.ba[i]?=some t->0<t.bR/\t.bR<=100000
 un:∀ (i j:Nat) (s t:bX),g.ba[i]?=some s->g.ba[j]?=some t->0<s.bR->s.bR=t.bR->i=j
 CA:∀ t∈g.ba,t.Name.size<=dL/\(t.Lit=true->t.Name.size=1)
 dx:∀ x∈g.b2,x.Name.size<=4 * dL
theorem XR (s:Source) (av:rL s):Par (v' s) λr=>r.2.1=0->uX r.1:=by
 have Vk:=av.ze;have B1:=av.aG;unfold v';refine .aA (XI s av) λc aa=>Par.bE (λ_=>.ao λh=>absurd h (by decide)) (λiq=>?_);have ok:Lt s:=aa (by simpa using iq);refine .aA (Ξ:=λl=>l=List.replicate 3 false) (λa e=>by unfold nk at e; split at e <;> cases e; rfl) λa7 jV=>?_;subst jV
 -- declarations
 refine .aA (Ξ:=λr:fJ × ByteArray=>fA r.1) ?_ λbS cF=>?_
 ·refine Par.loop (λz=>fA z.1/\0<=z.2.2) ⟨⟨⟨rfl,Nat.le_refl 3,by show 3<=lim; unfold lim; omega,λt aw=>?_,λt aw=>?_⟩,λ_=>⟨λi t hi aw=>?_,λi j a b aP av aQ he=>?_,λi t hi aw=>?_⟩,λy ax=>by cases ax⟩,Int.le_refl 0⟩ λz aX=>?_
  ·have aw:t∈[_,_,_]:=aw;simp only [List.mem_cons,List.not_mem_nil,or_false] at aw;rcases aw with rfl | rfl | rfl <;> exact ⟨by decide,λh=>by cases h⟩
  ·have aw:t∈[_,_,_]:=aw;simp only [List.mem_cons,List.not_mem_nil,or_false] at aw;rcases aw with rfl | rfl | rfl <;> decide
  ·have aw:t∈[_,_,_]:=List.mem_of_getElem? aw;simp only [List.mem_cons,List.not_mem_nil,or_false] at aw;rcases aw with rfl | rfl | rfl <;> decide
  ·have aP:a∈[_,_,_]:=List.mem_of_getElem? aP;simp only [List.mem_cons,List.not_mem_nil,or_false] at aP;rcases aP with rfl | rfl | rfl <;> exact absurd aQ (by decide)
  ·have:=(List.getElem?_eq_some_iff.1 aw).1;have:i<3:=this;omega
  ·obtain ⟨m,st,i⟩:=z;obtain ⟨hm,aQ⟩:=aX;simp only at hm aQ ⊢;refine Par.bp (λaT=>?_) (λ_=>.ao hm);refine .go λd aS=>?_;have jU:=xx aS;refine .aA (Ξ:=λ_=>True) (λ_ _=>trivial) λ_ _=>.aA (Ξ:=λ_=>True) (λ_ _=>trivial) λjw _=>?_;refine .aA (Ξ:=λr:fJ × ByteArray=>fA r.1) ?_ λr aq=>.ao ⟨aq,by show 0<=aJ (i+1); rw [cB]; omega⟩;refine Par.loop (λz=>fA z.1/\0<=z.2.2) ⟨⟨hm.a,hm.b,hm.fv⟩,Int.le_refl 0⟩ λz aX=>?_;obtain ⟨m,st,k⟩:=z;obtain ⟨hm,HL⟩:=aX;simp only at hm HL ⊢;have zp:=(av.decls d jU).n;refine Par.bp (λra=>?_) (λ_=>.ao hm);refine .aA (Ξ:=λr:fJ × ByteArray=>fA r.1) ?_ λr aq=>.ao ⟨aq,by show 0<=aJ (k+1); rw [cB]; omega⟩;refine Par.bE (λ_=>.go λx J=>?_) (λ_=>?_)
   ·have zH:=xx J;exact .aA (XJ m d x hm (ok.decls d jU x zH) ((av.decls d jU).syms x zH)) λm' ir=>.ao ir
   ·refine .aA (Ξ:=fA) (Par.bE (λ_=>.go λ_ _=>.go λ_ _=>.aA (s7 m _ _) λm' h=>.ao (hm.fail h)) (λ_=>.ao hm)) λm' ir=>.go λ_ _=>.ao ir
 -- what stands on the left
 refine .aA (Ξ:=fA) ?_ λcW HP=>?_
 ·refine Par.loop (λz=>fA z.1/\0<=z.2) ⟨cF,Int.le_refl 0⟩ λz aX=>?_;obtain ⟨m,i⟩:=z;obtain ⟨hm,aQ⟩:=aX;simp only at hm aQ ⊢;refine Par.bp (λaT=>?_) (λ_=>.ao hm);refine .aA (Ξ:=fA) ?_ λr aq=>.ao ⟨aq,by show 0<=aJ (i+1); rw [cB]; omega⟩;refine .go λr aq=>.aA (Ξ:=λ_=>True) (λ_ _=>trivial) λ_ _=>?_;refine .aA (Ξ:=fA) (Par.bE (λ_=>.aA (s7 m _ _) λm' h=>.ao (hm.fail h)) (λ_=>.ao hm)) λiR po=>?_;refine .aA (Ξ:=λ_=>True) (λ_ _=>trivial) λ_ _=>?_;refine .aA (Ξ:=λl:List ByteArray=>∀ y∈l,y.size<=dL) (Par.bE (λ_=>Par.ap λ_=>.ao λy ax=>?_) (λ_=>.ao po.fv)) λl ak=>.ao ⟨po.a,po.b,ak⟩;rcases List.mem_append.1 ax with ax | ax
  ·exact po.fv y ax
  ·rw [List.mem_singleton.1 ax]; exact (av.rules r (xx aq)).left
 -- types and starts
 refine .aA (Ξ:=fA) ?_ λhj tM=>?_
 ·refine Par.loop (λz=>fA z.1) HP λz hm=>?_;obtain ⟨m,i⟩:=z;simp only at hm ⊢;refine Par.bp (λaT=>?_) (λ_=>.ao hm);refine .aA (Ξ:=fA) ?_ λr aq=>.ao aq;refine Par.loop (λz=>fA z.1) hm λz hm=>?_;obtain ⟨m,k⟩:=z;simp only at hm ⊢;refine .go λd _=>Par.bp (λaT=>?_) (λ_=>.ao hm);refine .aA (Ξ:=fA) ?_ λr aq=>.ao aq;refine .go λ_ _=>.go λ_ _=>.aA (Ξ:=λ_=>True) (λ_ _=>trivial) λ_ _=>?_;exact .aA (Ξ:=fA) (Par.bE (λ_=>.aA (s7 m _ _) λm' h=>.ao (hm.fail h)) (λ_=>.ao hm)) λm' ir=>.ao ir
 refine .aA (Ξ:=λ_=>True) (λ_ _=>trivial) λxE _=>.aA (Ξ:=λ_=>True) (λ_ _=>trivial) λmL _=>?_
 -- the alternatives
 refine .aA (Ξ:=fA) ?_ λbu pq=>?_
 ·refine Par.loop (λz=>fA z.1/\0<=z.2) ⟨⟨tM.a,tM.b,tM.fv⟩,Int.le_refl 0⟩ λz aX=>?_;obtain ⟨m,i⟩:=z;obtain ⟨hm,aQ⟩:=aX;simp only at hm aQ ⊢;refine Par.bp (λaT=>?_) (λ_=>.ao hm);refine .aA (Ξ:=fA) ?_ λr aq=>.ao ⟨aq,by show 0<=aJ (i+1); rw [cB]; omega⟩;refine Par.loop (λz=>fA z.1/\0<=z.2) ⟨hm,Int.le_refl 0⟩ λz aX=>?_;obtain ⟨m,k⟩:=z;obtain ⟨hm,HL⟩:=aX;simp only at hm HL ⊢;refine .go λd aS=>Par.bp (λra=>?_) (λ_=>.ao hm);have jU:=xx aS;have zp:=(av.rules d jU).n;refine .go λd1 NA=>.go λd2 zo=>.go λa aP=>?_;rw [aS] at NA zo;cases NA; cases zo;have Ns:=xx aP;exact .aA (XL m d.Left a hm ((av.rules d jU).alts a Ns) (ok.rules d jU a Ns)) λm' ir=>.ao ⟨ir,by show 0<=aJ (k+1); rw [cB]; omega⟩
 refine Par.oL (λh=>.ao λaR=>absurd aR h) (λhe=>?_);have I2:=pq.b he
 -- nonterminals
 refine .aA (Ξ:=λl:List fC=>1<=l.length/\∀ x∈l,x.Name.size<=4 * dL) ?_ λuR HS=>?_
 ·refine Par.loop (λz=>1<=z.1.length/\∀ x∈z.1,x.Name.size<=4 * dL) ⟨Nat.le_refl 1,λx J=>?_⟩ λz aX=>?_
  ·rw [List.mem_singleton.1 J]; decide
  ·refine Par.bE (λ_=>.go λy ax=>.go λ_ _=>.aA (Ξ:=λ_=>True) (λ_ _=>trivial) λ_ _=>Par.ap λ_=>.ao ⟨by show 1<=(z.1++[_]).length; simp,λx J=>?_⟩) (λ_=>.ao aX);rcases List.mem_append.1 J with J | J
   ·exact aX.2 x J
   ·rw [List.mem_singleton.1 J];have:=pq.fv y (xx ax);show y.size<=4 * dL;omega
 refine .aA (Ξ:=λl:List fC=>l.length<=24->∀ x∈l,x.Name.size<=4 * dL) ?_ λk5 M4=>?_
 ·refine Par.loop (λz=>(z.1.length<=24->∀ x∈z.1,x.Name.size<=4 * dL)/\0<=z.2/\z.2<=z.1.length) ⟨λ_=>HS.2,by show (0:Int)<=1; decide,by have:=HS.1; show (1:Int)<=(uR.length:Int); omega⟩ λz aX=>?_;obtain ⟨l,i⟩:=z;obtain ⟨ak,aQ,hi⟩:=aX;simp only at ak aQ hi ⊢;refine Par.bp (λhle=>.go λy ax=>?_) (λ_=>.ao ak);refine Par.cat (Par.ap λsQ=>.ao ⟨λhlen x J=>?_,by show 0<=aJ (i+1); unfold lim at sQ; simp only [List.length_cons,List.length_nil] at sQ; rw [cB]; omega,by show aJ (i+1)<=(((l++[_]).length:Nat):Int); unfold lim at sQ; simp only [List.length_cons,List.length_nil,List.length_append] at sQ ⊢; rw [cB]; omega⟩);have hlen:(l++[_]).length<=24:=hlen;simp only [List.length_append,List.length_cons,List.length_nil] at hlen;rcases List.mem_append.1 J with J | J
  ·exact ak (by omega) x J
  ·rw [List.mem_singleton.1 J];have fX:=(t110 i aQ (by omega)).eq ax;show (_++y).size<=4 * dL;rw [ByteArray.size_append];show 1+y.size<=4 * dL;simp only [dL]; omega
 -- numbers
 have dM:=pq.a;have sQ:bu.aH.ba.length<=1000000000000000:=by have:=dM.hi; unfold lim at this; omega
 refine .aA (Ξ:=λl:List bX=>∃ (i next:Int),l.length=bu.aH.ba.length/\(l.length:Int)<=i/\(∀ (j:Nat) (t:bX),l[j]?=some t->∃ t0,bu.aH.ba[j]?=some t0/\t.Name=t0.Name/\t.Lit=t0.Lit/\((t.bR=t0.bR/\(¬ (3<=j/\(j:Int)<i)\/bu.ct[j]?=some true))\/(57346<=t.bR/\t.bR<next/\3<=j/\(j:Int)<i)))/\(∀ (j k:Nat) (s t:bX),l[j]?=some s->l[k]?=some t->57346<=s.bR->s.bR=t.bR->j=k)/\57346<=next/\next<=57343+i/\i<=l.length) ?_ λme M5=>?_
 ·refine Par.loop (λz=>z.1.length=bu.aH.ba.length/\(∀ (j:Nat) (t:bX),z.1[j]?=some t->∃ t0,bu.aH.ba[j]?=some t0/\t.Name=t0.Name/\t.Lit=t0.Lit/\((t.bR=t0.bR/\(¬ (3<=j/\(j:Int)<z.2.2)\/bu.ct[j]?=some true))\/(57346<=t.bR/\t.bR<z.2.1/\3<=j/\(j:Int)<z.2.2)))/\(∀ (j k:Nat) (s t:bX),z.1[j]?=some s->z.1[k]?=some t->57346<=s.bR->s.bR=t.bR->j=k)/\57346<=z.2.1/\z.2.1<=57343+z.2.2/\3<=z.2.2/\z.2.2<=z.1.length) ⟨rfl,λj t aw=>⟨t,aw,rfl,rfl,.inl ⟨rfl,.inl (by show ¬ (3<=j/\(j:Int)<3); omega)⟩⟩,λj k s t aB aw aQ he=>?_,by show (57346:Int)<=57346; decide,by show (57346:Int)<=57343+3; decide,Int.le_refl 3,by have:=dM.lo; show (3:Int)<=(bu.aH.ba.length:Nat); omega⟩ λz aX=>?_
  ·have:=dM.le s (List.mem_of_getElem? aB); omega
  obtain ⟨l,next,i⟩:=z;obtain ⟨ak,fg,rZ,kv,xi,Vv,uc⟩:=aX;simp only at ak fg rZ kv xi Vv uc ⊢;have hw:aJ (i+1)=i+1:=by rw [cB]; omega
  have Ws:aJ (next+1)=next+1:=by rw [cB]; omega
  rw [hw,Ws];refine Par.bp (λaT=>?_) (λdS=>.ao ⟨i,next,ak,by omega,fg,rZ,kv,xi,uc⟩);have EC:i.toNat<l.length:=by omega
  refine .aA (Ξ:=λj:List bX × Int=>j.1.length=bu.aH.ba.length/\(∀ (k:Nat) (t:bX),j.1[k]?=some t->∃ t0,bu.aH.ba[k]?=some t0/\t.Name=t0.Name/\t.Lit=t0.Lit/\((t.bR=t0.bR/\(¬ (3<=k/\(k:Int)<i+1)\/bu.ct[k]?=some true))\/(57346<=t.bR/\t.bR<j.2/\3<=k/\(k:Int)<i+1)))/\(∀ (a k:Nat) (s t:bX),j.1[a]?=some s->j.1[k]?=some t->57346<=s.bR->s.bR=t.bR->a=k)/\57346<=j.2/\j.2<=57343+(i+1)) ?_ λj ah=>.ao ⟨ah.1,ah.2.1,ah.2.2.1,ah.2.2.2.1,ah.2.2.2.2,by show 3<=i+1; omega,by show i+1<=(j.1.length:Nat); rw [ah.1,<- ak]; omega⟩;refine .go λgD r5=>.aA (Ξ:=λj:List bX × Int=>j.1.length=bu.aH.ba.length/\(∀ (k:Nat) (t:bX),j.1[k]?=some t->∃ t0,bu.aH.ba[k]?=some t0/\t.Name=t0.Name/\t.Lit=t0.Lit/\((t.bR=t0.bR/\(¬ (3<=k/\(k:Int)<i+1)\/bu.ct[k]?=some true))\/(57346<=t.bR/\t.bR<j.2/\3<=k/\(k:Int)<i+1)))/\(∀ (a k:Nat) (s t:bX),j.1[a]?=some s->j.1[k]?=some t->57346<=s.bR->s.bR=t.bR->a=k)/\57346<=j.2/\j.2<=57343+(i+1)) ?_ λj ah=>.ao ah;obtain ⟨_,_,r5⟩:=vE r5;refine Par.bE (λaO=>.go λy ax=>.ao ?_) (λaO=>.ao ⟨ak,λk t aw=>?_,rZ,kv,by omega⟩)
  ·obtain ⟨_,_,ax⟩:=vE ax;obtain ⟨t0,hc,cv,b9,fG⟩:=fg _ y ax;have acG:y.bR<next:=by
    rcases fG with ⟨fG,_⟩ | fG
    ·have:=dM.le t0 (List.mem_of_getElem? hc); omega
    ·exact fG.2.1
   have l5:∀ (k:Nat) (t:bX),l[k]?=some t->t.bR<next:=λk t aw=>by
    obtain ⟨t1,f0,_,_,f3⟩:=fg k t aw;rcases f3 with ⟨f3,_⟩ | f3
    ·have:=dM.le t1 (List.mem_of_getElem? f0); omega
    ·exact f3.2.1
   refine ⟨by show (l.set _ _).length=_; rw [List.length_set]; exact ak,λk t aw=>?_,λa k s t aB aw aQ he=>?_,by show 57346<=next+1; omega,by show next+1<=_; omega⟩
   ·have aw:(l.set i.toNat _)[k]?=some t:=aw;rw [yl EC] at aw;by_cases e:k=i.toNat
    ·rw [if_pos e] at aw;cases aw;subst e;exact ⟨t0,hc,cv,b9,.inr ⟨kv,by show next<next+1; omega,by omega,by omega⟩⟩
    ·rw [if_neg e] at aw;obtain ⟨t1,f0,f1,f2,f3⟩:=fg k t aw;refine ⟨t1,f0,f1,f2,?_⟩;rcases f3 with ⟨f3,f4⟩ | f3
     ·exact .inl ⟨f3,f4.imp (λh=>by omega) id⟩
     ·exact .inr ⟨f3.1,by show t.bR<next+1; omega,f3.2.2.1,by omega⟩
   ·have aB:(l.set i.toNat _)[a]?=some s:=aB;have aw:(l.set i.toNat _)[k]?=some t:=aw;rw [yl EC] at aB aw;by_cases e:a=i.toNat
    ·rw [if_pos e] at aB;cases aB;by_cases cj:k=i.toNat
     ·omega
     ·rw [if_neg cj] at aw;have h1:=l5 k t aw;have he:next=t.bR:=he;omega
    ·rw [if_neg e] at aB;by_cases cj:k=i.toNat
     ·rw [if_pos cj] at aw;cases aw;have h1:=l5 a s aB;have he:s.bR=next:=he;omega
     ·rw [if_neg cj] at aw;exact rZ a k s t aB aw aQ he
  ·obtain ⟨t1,f0,f1,f2,f3⟩:=fg k t aw;refine ⟨t1,f0,f1,f2,?_⟩;rcases f3 with ⟨f3,f4⟩ | f3
   ·by_cases e:k=i.toNat
    ·refine .inl ⟨f3,.inr ?_⟩;rw [e,r5];simpa using aO
    ·exact .inl ⟨f3,f4.imp (λh=>by omega) id⟩
   ·exact .inr ⟨f3.1,f3.2.1,f3.2.2.1,by omega⟩
 -- limits
 refine .aA (Ξ:=λc=>c=false->me.length<=40/\k5.length<=24) ?_ λu6 HM=>?_
 ·exact Par.bp (λ_=>.ao λh=>by cases h) (λh1=>Par.bp (λ_=>.ao λh=>by cases h) (λaf=>.ao λh=>by omega))
 refine .aA (Ξ:=λc=>c=false->u6=false) ?_ λAG HN=>?_
 ·refine Par.loop (λz=>z.1=false->u6=false) id λz aX=>?_;refine Par.bE (λ_=>?_) (λ_=>.ao aX);exact .aA (Ξ:=λc=>c=false->u6=false) (Par.bE (λ_=>.ao λh=>by cases h) (λh=>.go λ_ _=>.ao λ_=>aX h)) λc aa=>.ao aa
 refine Par.bE (λ_=>.ao λh=>absurd h (by decide)) (λaa=>.ao λ_=>?_);obtain ⟨iv,iw⟩:=HM (HN aa);obtain ⟨i,next,ak,dS,fg,rZ,kv,xi,uc⟩:=M5;refine ⟨λj t ah aw=>?_,λj t ah aw=>?_,λj k s t aB aw aQ BI=>?_,λt aw=>?_,M4 iw⟩
 ·obtain ⟨t0,hc,_,_,fG⟩:=fg j t aw;rcases fG with ⟨fG,_⟩ | fG
  ·rw [fG]; exact I2.aS j t0 ah hc
  ·omega
 ·have eZ:j<me.length:=(List.getElem?_eq_some_iff.1 aw).1;obtain ⟨t0,hc,_,_,fG⟩:=fg j t aw;rcases fG with ⟨fG,mU⟩ | fG
  ·rcases mU with mU | mU
   ·omega
   ·have h1:=(I2.gD j t0 ah hc).1 mU;have af:=dM.le t0 (List.mem_of_getElem? hc);omega
  ·omega
 ·by_cases HR:57346<=s.bR
  ·exact rZ j k s t aB aw HR BI
  ·obtain ⟨e0,hc,_,_,fG⟩:=fg j s aB;obtain ⟨t0,f0,_,_,f3⟩:=fg k t aw;rcases fG with ⟨fG,_⟩ | fG
   ·rcases f3 with ⟨f3,_⟩ | f3
    ·exact I2.un j k e0 t0 hc f0 (by omega) (by omega)
    ·omega
   ·omega
 ·obtain ⟨j,ah,rfl⟩:=List.mem_iff_getElem.1 aw;obtain ⟨t0,hc,cv,b9,_⟩:=fg j _ (List.getElem?_eq_getElem ah);have:=dM.CA t0 (List.mem_of_getElem? hc);rw [cv,b9]; exact this
end Go.Proofs
