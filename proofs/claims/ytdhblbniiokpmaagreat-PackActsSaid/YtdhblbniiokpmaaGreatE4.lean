/-
  Parts of the proof that the last text states. No condition of their own.
-/
import Derived.KernelRfl
import Derived.Test.YtdhblbniiokpmaaGreatE3
namespace Go.Proofs
open Go Go.Own
set_option maxRecDepth 100000
set_option linter.unusedVariables false
theorem YV (m:fJ) (x:Sym) (aO:m.cu.length=m.aG.ba.length) (aI:3<=m.aG.ba.length) (h:m.aG.ba.length<=100000000000) (ak:m.cb.length<=100000000000) (J:lZ x) (aw:x.Lit=true\/∀ y∈m.cb,y≠x.Name) :
  Tot (s3 m x) λr=>Grow m r.2 1/\0<=r.1/\r.1<r.2.aG.ba.length:=by
 unfold s3;have r3:Grow m m 1:=⟨aO,Nat.le_refl _,Nat.le_succ _,Nat.le_succ _,rfl,rfl,rfl,rfl,λ_ h=>h⟩;refine Tot.bF (λ_=>?_) (λoc=>?_)
 ·exact .aB (t136 m x aO h J) λr ⟨ao,aR,h1⟩=>.aq ⟨ao,aR,h1⟩
 ·have aw:∀ y∈m.cb,y≠x.Name:=aw.resolve_left (by rw [oc]; decide);refine .aB (t107 m x.Name (by simp only [dK]; omega)) λk hk=>Tot.br (λaR=>?_) (λ_=>?_)
  ·rcases hk with ⟨rfl,_⟩ | ⟨h1,af,aI⟩
   ·exact absurd aR (by decide)
   ·exact absurd rfl (aw _ (List.mem_of_getElem? aI))
  ·refine .aB (t106 m x (by simp only [dK]; omega)) λt aw=>Tot.br (λ_=>?_) (λaR=>.aq ⟨r3,?_⟩)
   ·refine .aB (t105 m _ _) λm' hm=>.aq ⟨hm.1.grow aO 1,Int.le_refl 0,?_⟩;show (0:Int)<(m'.aG.ba.length:Int);rw [hm.1.g]; omega
   ·show 0<=t/\t<(m.aG.ba.length:Int);rcases aw with aw | aw <;> omega
structure A1 (T:Nat) (N:Int) (p:Prod):Prop where
 left:0<=p.Left/\p.Left<=N
 right:∀ s∈p.eI,q1 T N s
 prec:-1<=p.Prec/\p.Prec<T
theorem A1.mono {T T':Nat}{N iZ:Int}{p:Prod}(h:A1 T N p) (dL:T<=T') (bc:N<=iZ):A1 T' iZ p :=
 ⟨⟨h.left.1,by have:=h.left.2; omega⟩,λs aC=>(h.right s aC).mono dL bc,⟨h.prec.1,by have:=h.prec.2; omega⟩⟩
structure k4 (m:fJ) (T L I Q:Nat):Prop where
 gE:m.cu.length=m.aG.ba.length
 lo:3<=m.aG.ba.length
 hi:m.aG.ba.length<=T
 ty:m.cL.length<=T
 fx:m.cb.length=L
 hA:0<=m.b_/\m.b_<=I
 Aq:m.aG.bh.length<=Q
 hq:∀ p∈m.aG.bh,A1 m.aG.ba.length (L+m.b_) p
 lvl:0<=m.cr
 jw:∀ t∈m.aG.ba,0<=t.Level
theorem k4.mono {m:fJ}{T L I Q T' I' Le:Nat}(h:k4 m T L I Q) (dL:T<=T') (bf:I<=I') (dO:Q<=Le):k4 m T' L I' Le :=
 ⟨h.gE,h.lo,by have:=h.hi; omega,by have:=h.ty; omega,h.fx,⟨h.hA.1,by have:=h.hA.2; omega⟩,by have:=h.Aq; omega,h.hq,h.lvl,h.jw⟩
theorem k4.grow {m m':fJ}{T L I Q k:Nat}(h:k4 m T L I Q) (g:Grow m m' k):k4 m' (T+k) L I Q :=
 ⟨g.gE,by have:=h.lo; have:=g.lo; omega,by have:=h.hi; have:=g.hi; omega,by have:=h.ty; have:=g.ty; omega,by rw [g.fx]; exact h.fx,by rw [g.hA]; exact h.hA,by rw [g.hq]; exact h.Aq,
  by rw [g.hq,g.hA]; exact λp au=>(h.hq p au).mono g.lo (by omega),by rw [g.lvl]; exact h.lvl,g.jw h.lvl h.jw⟩
theorem t108 (m:fJ) (left:ByteArray) (a:Alt) {T L I Q:Nat}(hm:k4 m T L I Q) (dL:T<=10000000000) (h7:L<=10000000000) (bf:I<=10000000000) (dO:Q<=10000000000) (av:wi a) (dd:DH a) :
  Tot (vJ m left a) λm'=>k4 m' (T+1001) L (I+1000) (Q+1001)/\1<=m'.aG.bh.length:=by
 unfold vJ;have aF:=av.n;refine .aB (t107 m left (by rw [hm.fx]; simp only [dK]; omega)) λa8 hW=>?_;have acJ:-1<=a8/\a8<L:=by rw [<- hm.fx]; rcases hW with h | h <;> omega
 refine Tot.aB (Ξ:=λa7=>k4 a7.1 (T+1000) L (I+1000) (Q+1000)/\(∀ s∈a7.2.1,q1 a7.1.aG.ba.length (L+a7.1.b_) s)/\a7.2.1.length<=1000) ?_ λa7 js=>?_
 ·refine Tot.count (λs=>s.2.2.2.2) a.hx.length (λs=>0<=s.2.2.2.2/\s.2.2.2.2<=a.hx.length/\k4 s.1 (T+s.2.2.2.2.toNat) L (I+s.2.2.2.2.toNat) (Q+s.2.2.2.2.toNat)/\(∀ y∈s.2.1,q1 s.1.aG.ba.length (L+s.1.b_) y)/\s.2.1.length<=s.2.2.2.2.toNat) ⟨by show (0:Int)<=0; omega,by show (0:Int)<=_; omega,hm,by simp,Nat.le_refl 0⟩ (by show (a.hx.length:Int) - 0<_; omega) λs aC=>?_;obtain ⟨m1,rt,bF,at_,i⟩:=s;obtain ⟨aR,h1,ah,ao,ak⟩:=aC;simp only at aR h1 ah ao ak ⊢;have hw:aK (i+1)=i+1:=by rw [cI]; omega
  have cA:(i+1).toNat=i.toNat+1:=by omega
  refine Tot.br (λaT=>?_) (λ_=>.aq ⟨ah.mono (by omega) (by omega) (by omega),ao,by show rt.length<=1000; omega⟩);refine Tot.aB (Ξ:=λj=>k4 j.1 (T+(i.toNat+1)) L (I+(i.toNat+1)) (Q+(i.toNat+1))/\(∀ y∈j.2.1,q1 j.1.aG.ba.length (L+j.1.b_) y)/\j.2.1.length<=i.toNat+1) ?_ λj BL=>?_
  ·refine Tot.aB (Tot.hj (Φ:=λy=>y∈a.hx) aR aT λy _ ax=>ax) λy ax=>?_;refine Tot.aB (Ξ:=λj=>k4 j.1 (T+(i.toNat+1)) L (I+(i.toNat+1)) (Q+(i.toNat+1))/\(∀ y∈j.2.1,q1 j.1.aG.ba.length (L+j.1.b_) y)/\j.2.1.length<=i.toNat+1) ?_ λj Is=>.aq Is;refine Tot.aB (Ξ:=λj=>k4 j.1 (T+(i.toNat+1)) L (I+(i.toNat+1)) (Q+(i.toNat+1))/\(∀ y∈j.2.1,q1 j.1.aG.ba.length (L+j.1.b_) y)/\j.2.1.length<=i.toNat+1) ?_ λj Is=>.aq Is;refine Tot.bF (λ_=>?_) (λ_=>?_)
   ·have bY:=ah.hi;refine .aB (t138 m1 y.Sym ah.gE ah.lo (by omega) (by rw [ah.fx]; omega) (dd.parts y ax)) λr ⟨aO,N4⟩=>?_;refine .aB (Ξ:=λ_=>True) (Tot.ap (by simp [lim]; omega) trivial) λ_ _=>.aq ⟨(ah.grow aO).mono (by omega) (by omega) (by omega),λz aY=>?_,by simp; omega⟩;rcases List.mem_append.1 aY with aY | aY
    ·exact (ao z aY).mono aO.lo (by show (L:Int)+m1.b_<=L+r.2.b_; rw [aO.hA]; omega)
    ·rw [List.mem_singleton.1 aY];rw [ah.fx] at N4;exact N4.mono (Nat.le_refl _) (by show (L:Int)<=L+r.2.b_; rw [aO.hA]; have:=ah.hA.1; omega)
   ·refine Tot.aB (Ξ:=λj=>k4 (⟨(⟨m1.aG.ba,m1.aG.b1,j.1,m1.aG.cC,m1.aG.cK⟩:bO),m1.cu,m1.cL,m1.cb,m1.cZ,m1.dp,m1.dm,m1.cr,j.2.1⟩:dv) (T+(i.toNat+1)) L (I+(i.toNat+1)) (Q+(i.toNat+1))/\(∀ y∈j.2.2.1,q1 m1.aG.ba.length (L+j.2.1) y)/\j.2.2.1.length<=i.toNat+1) ?_ λj Vk=>.aq Vk;refine Tot.bF (λ_=>.aq ⟨⟨ah.gE,ah.lo,by have:=ah.hi; show m1.aG.ba.length<=_; omega,by have:=ah.ty; show m1.cL.length<=_; omega,ah.fx,⟨ah.hA.1,by have:=ah.hA.2; show m1.b_<=_; omega⟩,by have:=ah.Aq; show m1.aG.bh.length<=_; omega,ah.hq,ah.lvl,ah.jw⟩,ao,by show rt.length<=_; omega⟩) (λ_=>?_);have vg:=ah.hA;have vh:=ah.fx;have t_:=ah.Aq;have ic:aK (m1.b_+1)=m1.b_+1:=by rw [cI]; omega
    have hr:aK (((m1.cb.length:Int))+(m1.b_+1))=L+(m1.b_+1):=by rw [cI,vh]; omega
    have AF:aK (1000+(m1.cb.length:Int))=1000+L:=by rw [cI,vh]; omega
    have AG:aK (1000+(L:Int)+(m1.b_+1))=1000+(L:Int)+(m1.b_+1):=by rw [cI]; omega
    rw [ic,hr,AF,AG];refine .aB (Ξ:=λ_=>True) (Tot.ap (by simp [lim]; omega) trivial) λ_ _=>.aB (Ξ:=λ_=>True) (Tot.ap (by simp [lim]; omega) trivial) λ_ _=>.aB (Ξ:=λ_=>True) (Tot.ap (by simp [lim]; omega) trivial) λ_ _=>.aq ⟨⟨ah.gE,ah.lo,?_,?_,ah.fx,?_,?_,?_,ah.lvl,ah.jw⟩,?_,?_⟩
    ·have:=ah.hi; show m1.aG.ba.length<=_; omega
    ·have:=ah.ty; show m1.cL.length<=_; omega
    ·show 0<=m1.b_+1/\m1.b_+1<=((I+(i.toNat+1):Nat):Int); omega
    ·show (m1.aG.bh++[_]).length<=_; simp; omega
    ·intro p au;rcases List.mem_append.1 au with au | au
     ·exact (ah.hq p au).mono (Nat.le_refl _) (by show (L:Int)+m1.b_<=L+(m1.b_+1); omega)
     ·rw [List.mem_singleton.1 au];refine ⟨?_,by simp,?_⟩
      ·show 0<=(L:Int)+(m1.b_+1)/\(L:Int)+(m1.b_+1)<=L+(m1.b_+1); omega
      ·have:=ah.lo; show (-1:Int)<=-1/\(-1:Int)<(m1.aG.ba.length:Int); omega
    ·intro z aY;rcases List.mem_append.1 aY with aY | aY
     ·exact (ao z aY).mono (Nat.le_refl _) (by show (L:Int)+m1.b_<=L+(m1.b_+1); omega)
     ·rw [List.mem_singleton.1 aY];exact .inr (by show 1000<=1000+(L:Int)+(m1.b_+1)/\1000+(L:Int)+(m1.b_+1)<=1000+((L:Int)+(m1.b_+1)); omega)
    ·show (rt++[_]).length<=_; simp; omega
  ·rw [hw];refine .aq ⟨⟨?_,?_,?_,BL.2.1,?_⟩,?_,?_⟩
   ·show (0:Int)<=i+1; omega
   ·show i+1<=(a.hx.length:Int); omega
   ·show k4 j.1 (T+(i+1).toNat) L (I+(i+1).toNat) (Q+(i+1).toNat);rw [cA]; exact BL.1
   ·show j.2.1.length<=(i+1).toNat;rw [cA]; exact BL.2.2
   ·show i<i+1; omega
   ·show i+1<=(a.hx.length:Int); omega
 ·obtain ⟨ah,ao,ak⟩:=js;have l6:=ah.lo;have vg:=ah.hA;refine Tot.aB (Ξ:=λp=>-1<=p/\p<(a7.1.aG.ba.length:Int)) ?_ λhq EG=>?_
  ·refine Tot.count (λs=>s.2) a7.2.1.length (λs=>0<=s.2/\s.2<=a7.2.1.length/\-1<=s.1/\s.1<(a7.1.aG.ba.length:Int)) ⟨by show (0:Int)<=0; omega,by show (0:Int)<=_; omega,by show (-1:Int)<=-1; omega,by show (-1:Int)<_; omega⟩ (by show (a7.2.1.length:Int) - 0<_; omega) λs aC=>?_;obtain ⟨aR,h1,af,aI⟩:=aC;have hw:aK (s.2+1)=s.2+1:=by rw [cI]; omega
   rw [hw];refine Tot.br (λaT=>?_) (λ_=>.aq ⟨af,aI⟩);refine Tot.aB (Ξ:=λp=>-1<=p/\p<(a7.1.aG.ba.length:Int)) ?_ λp au=>.aq ⟨⟨?_,?_,au.1,au.2⟩,?_,?_⟩
   ·refine .aB (Tot.hj (Φ:=λy=>idx a7.2.1 s.2=some y/\y∈a7.2.1) aR aT λy h1 af=>⟨h1,af⟩) λy ax=>?_;refine .aB (Ξ:=λp=>-1<=p/\p<(a7.1.aG.ba.length:Int)) ?_ λp au=>.aq au;refine Tot.br (λaT=>?_) (λ_=>.aq ⟨af,aI⟩);rw [ax.1];refine Tot.aV (.aq ?_);rcases ao y ax.2 with h | h
    ·omega
    ·omega
   ·show (0:Int)<=s.2+1; omega
   ·show s.2+1<=(a7.2.1.length:Int); omega
   ·show s.2<s.2+1; omega
   ·show s.2+1<=(a7.2.1.length:Int); omega
  ·refine Tot.aB (Ξ:=λj=>Grow a7.1 j.1 1/\-1<=j.2/\j.2<(j.1.aG.ba.length:Int)) ?_ λj Ex=>?_
   ·have r3:Grow a7.1 a7.1 1:=⟨ah.gE,Nat.le_refl _,Nat.le_succ _,Nat.le_succ _,rfl,rfl,rfl,rfl,λ_ h=>h⟩;refine Tot.bF (λ_=>?_) (λ_=>.aq ⟨r3,EG⟩);refine Tot.aB (Ξ:=λc=>c=true->a.Prec.Lit=true\/∀ y∈a7.1.cb,y≠a.Prec.Name) ?_ λc aa=>?_
    ·refine Tot.bF (λh=>.aq λ_=>.inl h) (λ_=>?_);refine .aB (t107 a7.1 a.Prec.Name (by rw [ah.fx]; simp only [dK]; omega)) λk hk=>.aq λaT=>?_;have aT:=of_decide_eq_true aT;rcases hk with ⟨_,h⟩ | h
     ·exact .inr h
     ·omega
    ·refine Tot.aB (Ξ:=λj=>Grow a7.1 j.1 1/\-1<=j.2/\j.2<(j.1.aG.ba.length:Int)) ?_ λj ah=>.aq ah;have bY:=ah.hi;refine Tot.bF (λh=>?_) (λ_=>?_)
     ·refine .aB (YV a7.1 a.Prec ah.gE ah.lo (by omega) (by rw [ah.fx]; omega) dd.prec (aa h)) λr ao=>.aq ⟨ao.1,?_,ao.2.2⟩;have:=ao.2.1; show -1<=r.1; omega
     ·refine .aB (t105 a7.1 _ _) λm' ir=>.aq ⟨ir.1.grow ah.gE 1,by show (-1:Int)<=-1; omega,?_⟩;show (-1:Int)<(m'.aG.ba.length:Int); omega
   ·have ir:=ah.grow Ex.1;have t_:=ir.Aq;refine .aB (Ξ:=λ_=>True) (Tot.ap (by simp [lim]; omega) trivial) λ_ _=>.aB (Ξ:=λ_=>True) (Tot.ap (by simp [lim]; omega) trivial) λ_ _=>.aq ⟨⟨ir.gE,ir.lo,?_,?_,ir.fx,⟨ir.hA.1,?_⟩,?_,?_,ir.lvl,ir.jw⟩,by simp⟩
    ·have:=ir.hi; show j.1.aG.ba.length<=_; omega
    ·have:=ir.ty; show j.1.cL.length<=_; omega
    ·have:=ir.hA.2; show j.1.b_<=_; omega
    ·show (j.1.aG.bh++[_]).length<=_; simp; omega
    ·intro p au;rcases List.mem_append.1 au with au | au
     ·exact ir.hq p au
     ·rw [List.mem_singleton.1 au];have ach:=ir.hA;refine ⟨?_,λz aY=>?_,Ex.2⟩
      ·show 0<=aK (1+a8)/\aK (1+a8)<=(L:Int)+j.1.b_;rw [cI]; omega
      ·exact (ao z aY).mono Ex.1.lo (by show (L:Int)+a7.1.b_<=L+j.1.b_; rw [Ex.1.hA]; omega)
theorem Kv (l:List Int):(strOfNums l).size=l.length:=strOfNums_size ..
theorem t110 (n:Int) (aR:0<=n) (h1:n<=1000000000000):Tot (CH n) λs=>s.size<=2000000000000:=by
 unfold CH;have hu:IntKind.u64.wrap n=n:=by rw [IntKind.wrap_u64]; omega
 refine Tot.aB (Ξ:=λj=>j=n) (Tot.br (λh=>absurd h (by omega)) (λ_=>.aq hu)) λj ah=>?_;subst ah;refine Tot.aB (Ξ:=λs=>s.size<=1000000000001) ?_ λs aC=>Tot.br (λh=>absurd h (by omega)) (λ_=>.aq (by omega));refine Tot.loop (λs=>0<=s.1/\s.1+s.2.size<=1000000000000+1/\(s.2.size=0->s.1<=1000000000000)) (λs=>s.1.toNat+(if s.2.size=0 then 1 else 0)) ⟨aR,by show j+((0:Nat):Int)<=_; omega,λ_=>h1⟩ (by show j.toNat+(if (0:Nat)=0 then 1 else 0)<1000000000000000000; simp; omega) λs aC=>?_
 obtain ⟨m,t⟩:=s;obtain ⟨g0,g1,g2⟩:=aC;simp only at g0 g1 g2 ⊢;refine Tot.aB (Ξ:=λc=>c=true->0<m\/t.size=0) ?_ λc aa=>Tot.bF (λiq=>?_) (λ_=>.aq ?_)
 ·refine Tot.br (λh=>.aq λ_=>.inl h) (λ_=>.aq λh=>.inr ?_);have:=of_decide_eq_true h;rw [this]; rfl
 ·have aa:=aa iq;refine .aB (Ξ:=λx=>x=m.tmod 10) (Tot.ry (by decide) rfl) λx J=>?_;refine .aB (Ξ:=λy=>y.size=t.size+1) (Tot.cat ?_ ?_) λy ax=>.aB (Ξ:=λz=>z=m / 10) (Tot.rr (by decide) ?_) λz aY=>.aq ?_
  ·rw [Kv]; simp; omega
  ·rw [ByteArray.size_append,Kv]; simp; omega
  ·rw [Int.tdiv_eq_ediv_of_nonneg g0,IntKind.wrap_u64]; omega
  ·subst aY;refine ⟨⟨?_,?_,?_⟩,?_⟩
   ·show 0<=m / 10; omega
   ·show m / 10+(y.size:Int)<=_; rw [ax]; omega
   ·intro h; have h:y.size=0:=h; omega
   ·show (m / 10).toNat+(if y.size=0 then 1 else 0)<m.toNat+(if t.size=0 then 1 else 0);rw [if_neg (by omega)]
    split <;> omega
 ·show t.size<=1000000000001; omega
structure hf (g:bO):Prop where
 kX:3<=g.ba.length/\g.ba.length<=40
 dz:1<=g.b1.length/\g.b1.length<=24
 ia:1<=g.bh.length/\g.bh.length<=60
 hq:∀ p∈g.bh,A1 g.ba.length (g.b1.length - 1) p
 aH:∀ p∈g.bh,p.eI.length<=8
 jw:∀ t∈g.ba,0<=t.Level
structure iJ (m:fJ) (T L:Nat):Prop where
 gE:m.cu.length=m.aG.ba.length
 lo:3<=m.aG.ba.length
 hi:m.aG.ba.length<=3+T
 ty:m.cL.length<=T
 fx:m.cb.length<=L
 hq:m.aG.bh=[]
 hA:m.b_=0
 lvl:0<=m.cr
 jw:∀ t∈m.aG.ba,0<=t.Level
theorem iJ.mono {m:fJ}{T L T' L':Nat}(h:iJ m T L) (dL:T<=T') (h7:L<=L'):iJ m T' L' :=
 ⟨h.gE,h.lo,by have:=h.hi; omega,by have:=h.ty; omega,by have:=h.fx; omega,h.hq,h.hA,h.lvl,h.jw⟩
theorem iJ.grow {m m':fJ}{T L k:Nat}(h:iJ m T L) (g:Grow m m' k):iJ m' (T+k) L :=
 ⟨g.gE,by have:=h.lo; have:=g.lo; omega,by have:=h.hi; have:=g.hi; omega,by have:=h.ty; have:=g.ty; omega,by rw [g.fx]; exact h.fx,g.hq.trans h.hq,g.hA.trans h.hA,by rw [g.lvl]; exact h.lvl,g.jw h.lvl h.jw⟩
theorem iJ.same {m m':fJ}{T L:Nat}(h:iJ m T L) (g:rM m m'):iJ m' T L:=by
 have:=h.grow (g.grow h.gE 0);exact this
theorem SV (s:ByteArray) (m n:Int) (h:0<=m/\m<=n/\n<=s.size):(rR s m n).size<=(n - m).toNat:=by
 grind [rR,ByteArray.size_extract]
theorem t22 (s:ByteArray) (n:Int) (aR:0<=n):Tot (s4 s n) λt=>(t.size:Int)<=n:=by
 unfold s4;refine Tot.br (λh=>?_) (λh=>.aq (by omega))
 grind [Tot.cut,SV]
theorem t23 (x:Sym):Tot (xY x) λy=>y.Name.size<=dK:=by
 unfold xY;refine .aB (t22 _ 25 (by decide)) λt aw=>.aq ?_
 grind
theorem Tot.make {β:Type}{f:List β × Int->Option ((List β × Int) ⊕ List β)}(n:Int) (P:β->Prop) (aF:0<=n/\n<=1000000)
  (aC:∀ (l:List β) (i:Int),0<=i->i<=n->(l.length:Int)=i->(∀ y∈l,P y)->Tot (f (l,i)) (hK (λcT=>i<n/\cT.2=i+1/\∃ y,cT.1=l++[y]/\P y) (λr=>r=l))) :
  Tot (b4 f ([],0)) λl=>(l.length:Int)<=n/\∀ y∈l,P y:=by
 refine Tot.count (λs=>s.2) n (λs=>0<=s.2/\s.2<=n/\(s.1.length:Int)=s.2/\∀ y∈s.1,P y) ⟨Int.le_refl 0,aF.1,rfl,by simp⟩ (by show n - 0<_; omega) λs bf=>?_;obtain ⟨l,i⟩:=s;obtain ⟨aR,h1,af,aI⟩:=bf;refine (aC l i aR h1 af aI).use λx J=>?_
 grind
theorem t9 (s:Source):Tot (C9 s) rN:=by
 unfold C9;refine .aB (t22 s.cC 40 (by decide)) λa8 h1=>.aB (t22 s.cK 40 (by decide)) λx2 af=>?_;refine .aB (Tot.make 8 GA (by decide) λl i aR vg ak cx=>?_) λbq bK=>?_
 ·refine .aB (Ξ:=λc=>c=true->i<s.Decls.length/\i<8) (Tot.br (λh=>.aq λaf=>⟨h,of_decide_eq_true af⟩) (λ_=>.aq λh=>by cases h)) λc aa=>Tot.bF (λiq=>?_) (λ_=>.aq rfl);obtain ⟨hi,Iq⟩:=aa iq;have mX:i.toNat<s.Decls.length:=by omega
  have tV:idx s.Decls i=some s.Decls[i.toNat]:=by simp [idx,aR,mX]
  rw [tV];generalize s.Decls[i.toNat]=d;have hw:aK (i+1)=i+1:=by rw [cI]; omega
  refine Tot.aV (Tot.aV (.aB (t22 d.Tag 25 (by decide)) λcp zg=>Tot.aV ?_));refine .aB (Tot.make 6 (λx=>x.Name.size<=dK) (by decide) λvA k g0 Tz Ej Ty=>?_) λek sC=>?_
  ·refine .aB (Ξ:=λc=>c=true->k<d.eL.length/\k<6) (Tot.aV (Tot.br (λh=>.aq λaf=>⟨h,of_decide_eq_true af⟩) (λ_=>.aq λh=>by cases h))) λc aa=>Tot.bF (λiq=>?_) (λ_=>.aq rfl);obtain ⟨hk,Iu⟩:=aa iq;refine Tot.aV (.aB (Tot.hj (Φ:=λ_=>True) g0 hk λ_ _ _=>trivial) λeB _=>.aB (t23 eB) λfI TD=>.aB (Ξ:=λ_=>True) (Tot.ap (by simp [lim]; omega) trivial) λ_ _=>.aq ⟨Iu,?_,_,rfl,TD⟩)
   grind [cI]
  ·refine .aB (Ξ:=λ_=>True) (Tot.ap (by simp [lim]; omega) trivial) λ_ _=>.aq ⟨Iq,hw,_,rfl,⟨?_,?_,sC.2⟩⟩
   ·grind
   grind
 ·refine .aB (Tot.make 6 Lf (by decide) λl i aR vg ak cx=>?_) λgA rV=>.aq ⟨?_,?_,bK.2,?_,rV.2⟩
  ·refine .aB (Ξ:=λc=>c=true->i<s.dG.length/\i<6) (Tot.br (λh=>.aq λaf=>⟨h,of_decide_eq_true af⟩) (λ_=>.aq λh=>by cases h)) λc aa=>Tot.bF (λiq=>?_) (λ_=>.aq rfl);obtain ⟨hi,Iq⟩:=aa iq;have mX:i.toNat<s.dG.length:=by omega
   have tV:idx s.dG i=some s.dG[i.toNat]:=by simp [idx,aR,mX]
   rw [tV];generalize s.dG[i.toNat]=d;have hw:aK (i+1)=i+1:=by rw [cI]; omega
   refine Tot.aV (.aB (t22 d.Left 25 (by decide)) λcR HH=>Tot.aV ?_);refine .aB (Tot.make 5 wi (by decide) λvA k g0 Tz Ej Ty=>?_) λeo TG=>?_
   ·refine .aB (Ξ:=λc=>c=true->k<d.eK.length/\k<5) (Tot.aV (Tot.br (λh=>.aq λaf=>⟨h,of_decide_eq_true af⟩) (λ_=>.aq λh=>by cases h))) λc aa=>Tot.bF (λiq=>?_) (λ_=>.aq rfl);obtain ⟨hk,Iu⟩:=aa iq;have Vr:k.toNat<d.eK.length:=by omega
    have Vo:idx d.eK k=some d.eK[k.toNat]:=by simp [idx,g0,Vr]
    simp only [Option.bind_some,Vo];generalize d.eK[k.toNat]=a;have qs:aK (k+1)=k+1:=by rw [cI]; omega
    refine .aB (t23 a.Prec) λfM TI=>?_;refine .aB (Tot.make 6 (λp=>p.Sym.Name.size<=dK/\p.Code.size<=dK) (by decide) λgu j hz abA el abz=>?_) λnX TK=>?_
    ·refine .aB (Ξ:=λc=>c=true->j<a.hx.length/\j<6) (Tot.br (λh=>.aq λaf=>⟨h,of_decide_eq_true af⟩) (λ_=>.aq λh=>by cases h)) λc aa=>Tot.bF (λiq=>?_) (λ_=>.aq rfl);obtain ⟨ah,BL⟩:=aa iq;refine .aB (Tot.hj (Φ:=λ_=>True) hz ah λ_ _ _=>trivial) λnY _=>.aB (t23 nY.Sym) λp2 HI=>.aB (t22 nY.Code 60 (by decide)) λnZ MS=>.aB (Ξ:=λ_=>True) (Tot.ap (by simp [lim]; omega) trivial) λ_ _=>.aq ⟨BL,?_,_,rfl,HI,?_⟩
     ·grind [cI]
     grind
    ·refine .aB (Ξ:=λ_=>True) (Tot.ap (by simp [lim]; omega) trivial) λ_ _=>.aq ⟨Iu,qs,_,rfl,⟨?_,TK.2,TI⟩⟩
     grind
   ·refine .aB (Ξ:=λ_=>True) (Tot.ap (by simp [lim]; omega) trivial) λ_ _=>.aq ⟨Iq,hw,_,rfl,⟨?_,?_,TG.2⟩⟩
    ·grind
    grind
  all_goals grind
theorem t24 (a n:Int) (h:0<n) (aF:n<=9223372036854775807):Tot (vP a n) λr=>0<=r/\r<n:=by
 unfold vP;have h1:-n<a.tmod n:=by
  by_cases aP:0<=a
  ·have:=Int.tmod_nonneg n aP;omega
  ·have af:(-a).tmod n<n:=Int.tmod_lt_of_pos _ h;rw [Int.neg_tmod] at af;omega
 have af:a.tmod n<n:=Int.tmod_lt_of_pos a h;refine .aB (Ξ:=λx=>x=a.tmod n) (Tot.rem (by omega) rfl) λx J=>?_;subst J;refine Tot.aB (Ξ:=λr=>0<=r/\r<n) (Tot.br (λaI=>.aq ?_) (λaI=>.aq (by omega))) λr ao=>.aq ao
 grind [cI]
theorem t28 (k:Int) (h:0<=k):Tot (vQ k) λx=>x.Name.size=1/\x.Lit=true/\x.bR=0:=by
 unfold vQ;refine .aB (Ξ:=λx=>x.size=4) (.aq rfl) λa8 h1=>.aB (Ξ:=λr=>r=k.tmod 4) (Tot.rem (by decide) rfl) λx2 af=>.aB (Ξ:=λr=>r=k.tmod 4) (Tot.rem (by decide) rfl) λa7 aI=>?_;subst af aI;have e:k.tmod 4=k % 4:=Int.tmod_eq_emod_of_nonneg h;rw [e];have hw:aK (k % 4+1)=k % 4+1:=by rw [cI]; omega
 rw [hw];refine .aB (Ξ:=λx=>x.size=1) (Tot.cut (by rw [h1]; omega) ?_) λbq bK=>.aq ⟨bK,rfl,rfl⟩
 grind [SX]
theorem t26 (k:Int):Tot (Aa k) λx=>x.size=1:=by
 unfold Aa;exact .aq (by rw [Kv]; rfl)
theorem t27 (k n:Int) (h:0<n) (aF:n<=100):Tot (CP k n) λx=>x.Name.size<=5:=by
 unfold CP;refine .aB (t24 k 14 (by decide) (by decide)) λa8 h1=>Tot.br (λcG=>?_) (λcG=>Tot.bF (λ_=>.aq ?_) (λ_=>?_))
 ·refine .aB (Ξ:=λ_=>True) (Tot.rem (by omega) trivial) λa7 _=>.aB (t26 a7) λbq bK=>.aq ?_
  grind
 ·show (5:Nat)<=5;omega
 ·refine .aB (t28 _ ?_) λx J=>.aq (by omega)
  grind [cI]
structure AQ (n:Nat) (d:Decl):Prop where
 tag:d.Tag.size=0
 n:d.eL.length<=n
 syms:∀ x∈d.eL,x.Name.size<=dK
theorem t25 (l:List Int):Tot (z' l) λr=>r.length<=4/\∀ d∈r,AQ 10 d:=by
 unfold z';refine Tot.aB (Ξ:=λr=>r.length<=4/\∀ d∈r,AQ 10 d) ?_ λr ao=>.aq ao;refine Tot.count (λs=>s.2) 4 (λs=>0<=s.2/\s.2<=4/\s.1.length<=s.2.toNat/\∀ d∈s.1,AQ (1+s.2.toNat) d) ⟨Int.le_refl 0,by decide,Nat.le_refl 0,λd aS=>absurd aS (by simp)⟩ (by decide) λs aC=>?_;obtain ⟨r,i⟩:=s;obtain ⟨aR,bK,ak,aS⟩:=aC;simp only at aR bK ak aS ⊢;have hw:aK (i+1)=i+1:=by rw [cI]; omega
 rw [hw];refine .aB (Ξ:=λc=>c=true->i<l.length/\i<4) (Tot.br (λh=>.aq λaf=>⟨h,of_decide_eq_true af⟩) (λ_=>.aq λh=>by cases h)) λc aa=>Tot.bF (λiq=>?_) (λ_=>.aq ⟨by omega,λd jX=>⟨(aS d jX).tag,by have:=(aS d jX).n; omega,(aS d jX).syms⟩⟩);obtain ⟨hi,acd⟩:=aa iq;refine Tot.aB (Ξ:=λj=>j.length<=i.toNat+1/\∀ d∈j,AQ (1+(i.toNat+1)) d) ?_ λj ah=>.aq ⟨⟨?_,?_,?_,?_⟩,?_,?_⟩
 ·refine .aB (Tot.hj (Φ:=λ_=>True) aR hi λ_ _ _=>trivial) λb6 _=>.aB (t24 b6 8 (by decide) (by decide)) λcw wY=>.aB (Ξ:=λ_=>True) (Tot.rem (by decide) trivial) λbI _=>?_;have oa:∀ d∈r,AQ (1+(i.toNat+1)) d:=λd jX=>⟨(aS d jX).tag,by have:=(aS d jX).n; omega,(aS d jX).syms⟩;refine Tot.bF (λ_=>.aq ⟨by omega,oa⟩) (λ_=>?_);refine .aB (Ξ:=λc=>c=true->0<(r.length:Int)) (Tot.bF (λ_=>.aq λh=>of_decide_eq_true h) (λ_=>.aq λh=>by cases h)) λc aa=>Tot.bF (λtS=>?_) (λ_=>?_)
  ·have sL:=aa tS;have We:aK ((r.length:Int) - 1)=(r.length:Int) - 1:=by rw [cI]; omega
   rw [We];refine .aB (Tot.hj (Φ:=λy=>y∈r) (by omega) (by omega) λ_ _ h=>h) λd jX=>.aB (t28 i aR) λx J=>.aB (Ξ:=λ_=>True) (Tot.ap (by have:=(aS d jX).n; simp [lim]; omega) trivial) λ_ _=>.aq ⟨by simp; omega,λMf zm=>?_⟩;rcases OK zm with h | rfl
   ·grind
   ·refine ⟨(aS d jX).tag,?_,λy ax=>?_⟩
    ·have:=(aS d jX).n
     grind
    ·rcases List.mem_append.1 ax with ax | ax
     ·exact (aS d jX).syms y ax
     grind
  ·refine .aB (Ξ:=λ_=>True) (Tot.rem (by decide) trivial) λdM _=>.aB (t28 i aR) λx J=>.aB (Ξ:=λ_=>True) (Tot.ap (by simp [lim]; omega) trivial) λ_ _=>.aq ⟨by simp; omega,λMf zm=>?_⟩;rcases List.mem_append.1 zm with h | h
   ·grind
   ·rw [List.mem_singleton.1 h];refine ⟨rfl,by show 1<=_; omega,λy ax=>?_⟩
    grind
 all_goals grind
structure ml (n:Nat) (r:fh):Prop where
 left:r.Left.size<=dK
 n:r.eK.length<=n
 alts:∀ a∈r.eK,wi a
theorem ml.mono {n m:Nat}{r:fh}(h:ml n r) (hm:n<=m):ml m r:=⟨h.left,Nat.le_trans h.n hm,h.alts⟩
theorem ml.add {n:Nat}{r:fh}{a:Alt}(h:ml n r) (aP:wi a):ml (n+1) (⟨r.Left,r.eK++[a],r.At⟩:fh):=by
 refine ⟨h.left,by have:=h.n; show (r.eK++[a]).length<=_; simp; omega,λb av=>?_⟩;rcases List.mem_append.1 av with av | av
 ·exact h.alts b av
 grind
theorem Lt {l:List fh}{i n:Nat}{r:fh}(h:∀ x∈l,ml n x) (ao:ml n r):∀ x∈l.set i r,ml n x:=by grind
theorem t10 (x:o6):Tot (xR x) rN:=by
 unfold xR;refine .aB (t24 x.b1 4 (by decide) (by decide)) λa8 h1=>.aB (t25 x.qV) λx2 af=>?_;have Wa:aK (1+a8)=1+a8:=by rw [cI]; omega
 rw [Wa];refine .aB (Ξ:=λl=>l=List.replicate (1+a8).toNat false) (Tot.mk (by simp [lim]; omega) rfl) λa7 aI=>?_;have abE:a7.length=(1+a8).toNat:=by rw [aI]; simp
 refine Tot.aB (Ξ:=λl=>(l.length:Int)=1+a8/\∀ r∈l,ml 0 r) ?_ λbS cG=>?_
 ·refine Tot.count (λs=>s.2) (1+a8) (λs=>0<=s.2/\s.2<=1+a8/\(s.1.length:Int)=s.2/\∀ r∈s.1,ml 0 r) ⟨Int.le_refl 0,by show 0<=1+a8; omega,rfl,λd aS=>absurd aS (by simp)⟩ (by show 1+a8 - 0<_; omega) λs aC=>?_;obtain ⟨l,i⟩:=s;obtain ⟨g0,g1,ak,cx⟩:=aC;simp only at g0 g1 ak cx ⊢;have hw:aK (i+1)=i+1:=by rw [cI]; omega
  rw [hw];refine Tot.br (λaT=>?_) (λ_=>.aq ⟨by omega,cx⟩);refine .aB (t26 i) λb6 rW=>.aB (Ξ:=λ_=>True) (Tot.ap (by simp [lim]; omega) trivial) λ_ _=>.aq ⟨⟨?_,?_,?_,λr ao=>?_⟩,?_,?_⟩
  ·grind
  ·grind
  ·grind
  ·rcases List.mem_append.1 ao with ao | ao
   ·grind
   ·rw [List.mem_singleton.1 ao];exact ⟨by show b6.size<=_; rw [rW]; decide,Nat.le_refl 0,λa aP=>absurd aP (by simp)⟩
  ·grind
  grind
 refine Tot.aB (Ξ:=λr=>(r.1.length:Int)=1+a8/\(r.2.length:Int)=1+a8/\∀ y∈r.1,ml 9 y) ?_ λcp zg=>?_
 ·refine Tot.count (λs=>s.2.2) 9 (λs=>0<=s.2.2/\s.2.2<=9/\(s.1.length:Int)=1+a8/\(s.2.1.length:Int)=1+a8/\∀ y∈s.1,ml s.2.2.toNat y) ⟨Int.le_refl 0,by show (0:Int)<=9; decide,cG.1,by show (a7.length:Int)=_; omega,cG.2⟩ (by show (9:Int) - 0<_; decide) λs aC=>?_;obtain ⟨l,av,i⟩:=s;obtain ⟨g0,g1,ak,Io,cx⟩:=aC;simp only at g0 g1 ak Io cx ⊢;have hw:aK (i+1)=i+1:=by rw [cI]; omega
  rw [hw];refine .aB (Ξ:=λc=>c=true->i<x.dG.length/\i<9) (Tot.br (λh=>.aq λaf=>⟨h,of_decide_eq_true af⟩) (λ_=>.aq λh=>by cases h)) λc aa=>Tot.bF (λiq=>?_) (λ_=>.aq ⟨ak,Io,λy ax=>(cx y ax).mono (by omega)⟩);obtain ⟨hi,ace⟩:=aa iq;have mX:i.toNat<x.dG.length:=by omega
  have tV:idx x.dG i=some x.dG[i.toNat]:=by simp [idx,g0,mX]
  rw [tV];generalize x.dG[i.toNat]=d;have M9:∀ y∈l,ml (i.toNat+1) y:=λy ax=>(cx y ax).mono (by omega);refine Tot.aB (Ξ:=λj=>(j.1.length:Int)=1+a8/\(j.2.length:Int)=1+a8/\∀ y∈j.1,ml (i.toNat+1) y) ?_ λj ah=>.aq ⟨⟨?_,?_,ah.1,ah.2.1,?_⟩,?_,?_⟩
  ·refine Tot.aV (Tot.br (λ_=>.aq ⟨ak,Io,M9⟩) (λdr=>Tot.aV ?_));refine .aB (Tot.hj (Φ:=λ_=>True) (by decide) (by omega) λ_ _ _=>trivial) λdP _=>.aB (t24 dP (1+a8) (by omega) (by omega)) λeB MR=>?_;have n_:∀ c:ByteArray,c.size<=dK->((⟨(⟨⟨#[]⟩,false,0,0⟩:Sym),c,0⟩:Part).Sym.Name.size<=dK/\(⟨(⟨⟨#[]⟩,false,0,0⟩:Sym),c,0⟩:Part).Code.size<=dK):=λc aa=>⟨by show 0<=_; exact Nat.zero_le _,aa⟩;refine Tot.aB (Ξ:=λr=>r.1.length<=10/\∀ p∈r.1,p.Sym.Name.size<=dK/\p.Code.size<=dK) ?_ λfz TE=>?_
   ·refine Tot.count (λs=>s.2.2) 5 (λs=>1<=s.2.2/\s.2.2<=5/\(s.1.length:Int)<=2 * (s.2.2 - 1)/\∀ p∈s.1,p.Sym.Name.size<=dK/\p.Code.size<=dK) ⟨Int.le_refl 1,by decide,by decide,λp au=>absurd au (by simp)⟩ (by decide) λs aC=>?_;obtain ⟨ps,pl,k⟩:=s;obtain ⟨k0,zH,W0,Oz⟩:=aC;simp only at k0 zH W0 Oz ⊢;have qs:aK (k+1)=k+1:=by rw [cI]; omega
    rw [qs];refine .aB (Ξ:=λc=>c=true->k<d.length/\k<5) (Tot.aV (Tot.br (λh=>.aq λaf=>⟨h,of_decide_eq_true af⟩) (λ_=>.aq λh=>by cases h))) λc aa=>Tot.bF (λiq=>?_) (λ_=>.aq ⟨by show ps.length<=10; omega,Oz⟩);obtain ⟨hk,ack⟩:=aa iq;refine Tot.aB (Ξ:=λj=>(j.1.length:Int)<=2 * k/\∀ p∈j.1,p.Sym.Name.size<=dK/\p.Code.size<=dK) ?_ λj ah=>.aq ⟨⟨?_,?_,?_,ah.2⟩,?_,?_⟩
    ·refine Tot.aV (.aB (Tot.hj (Φ:=λ_=>True) (by omega) hk λ_ _ _=>trivial) λkZ _=>.aB (t27 kZ (1+a8) (by omega) (by omega)) λcR HH=>?_);refine .aB (Ξ:=λ_=>True) (Tot.bF (λ_=>Tot.bF (λ_=>.aq trivial) (λ_=>.aq trivial)) (λ_=>.aq trivial)) λ_ _=>.aB (Ξ:=λ_=>True) (Tot.ap (by simp [lim]; omega) trivial) λ_ _=>?_;have bg:∀ p∈ps++[(⟨cR,⟨#[]⟩,0⟩:Part)],p.Sym.Name.size<=dK/\p.Code.size<=dK:=λp au=>by
      grind
     refine .aB (Ξ:=λ_=>True) ?_ λy7 _=>?_
     ·refine Tot.br (λh=>Tot.bF (λ_=>.aB (Tot.hj (Φ:=λ_=>True) g0 h λ_ _ _=>trivial) λ_ _=>.aB (Ξ:=λ_=>True) (Tot.rem (by decide) trivial) λ_ _=>.aq trivial) (λ_=>.aq trivial)) (λ_=>.aq trivial)
     ·refine Tot.aB (Ξ:=λl=>(l.length:Int)<=2 * k/\∀ p∈l,p.Sym.Name.size<=dK/\p.Code.size<=dK) ?_ λj ah=>.aq ah;refine Tot.bF (λ_=>?_) (λ_=>.aq ⟨by simp; omega,bg⟩);refine .aB (Ξ:=λ_=>True) (Tot.ap (by simp [lim]; omega) trivial) λ_ _=>.aq ⟨by simp; omega,λp au=>?_⟩;rcases List.mem_append.1 au with au | au
      ·grind
      ·rw [List.mem_singleton.1 au];exact n_ _ (by decide)
    all_goals grind
   ·refine .aB (Ξ:=λ_=>True) (Tot.br (λh=>.aB (Tot.hj (Φ:=λ_=>True) g0 h λ_ _ _=>trivial) λ_ _=>.aB (Ξ:=λ_=>True) (Tot.rem (by decide) trivial) λ_ _=>.aq trivial) (λ_=>.aq trivial)) λZE _=>?_;refine Tot.aB (Ξ:=λl=>l.length<=20/\∀ p∈l,p.Sym.Name.size<=dK/\p.Code.size<=dK) ?_ λoS TL=>?_
    ·refine Tot.bF (λ_=>?_) (λ_=>.aq ⟨by omega,TE.2⟩);refine .aB (Ξ:=λ_=>True) (Tot.ap (by simp [lim]; omega) trivial) λ_ _=>.aq ⟨by simp; omega,λp au=>?_⟩;rcases List.mem_append.1 au with au | au
     ·grind
     ·rw [List.mem_singleton.1 au];exact n_ _ (by decide)
    ·refine Tot.aB (Ξ:=λl=>(l.length:Int)=1+a8) ?_ λL1 TN=>?_
     ·refine .aB (Tot.hj (Φ:=λ_=>True) MR.1 (by omega) λ_ _ _=>trivial) λ_ _=>Tot.bF (λ_=>.aq (by simp; omega)) (λ_=>.aq (by simp; omega))
     ·refine .aB (Tot.hj (Φ:=λy=>y∈l) MR.1 (by omega) λ_ _ h=>h) λkA TO=>?_;have pF:=cx kA TO;refine .aB (Ξ:=λ_=>True) (Tot.ap (by have:=pF.n; simp [lim]; omega) trivial) λ_ _=>.aq ⟨by show ((l.set _ _).length:Int)=_; simp; omega,TN,Lt M9 (pF.add ⟨by show oS.length<=_; omega,TL.2,Nat.zero_le _⟩)⟩
  all_goals grind
 refine Tot.aB (Ξ:=λl=>(l.length:Int)=1+a8/\∀ y∈l,ml 20 y) ?_ λnZ MS=>.aq ⟨Nat.zero_le _,?_,λd aS=>?_,?_,λr ao=>?_⟩
 ·refine Tot.count (λs=>s.2) (1+a8) (λs=>0<=s.2/\s.2<=1+a8/\(s.1.length:Int)=1+a8/\∀ y∈s.1,ml (9+s.2.toNat) y) ⟨Int.le_refl 0,by show 0<=1+a8; omega,zg.1,zg.2.2⟩ (by show 1+a8 - 0<_; omega) λs aC=>?_;obtain ⟨l,i⟩:=s;obtain ⟨g0,g1,ak,cx⟩:=aC;simp only at g0 g1 ak cx ⊢;have hw:aK (i+1)=i+1:=by rw [cI]; omega
  rw [hw];refine Tot.br (λaT=>?_) (λ_=>.aq ⟨ak,λy ax=>(cx y ax).mono (by omega)⟩);refine Tot.aB (Ξ:=λl=>(l.length:Int)=1+a8/\∀ y∈l,ml (9+i.toNat+1) y) ?_ λj ah=>.aq ⟨⟨?_,?_,ah.1,?_⟩,?_,?_⟩
  ·refine .aB (Ξ:=λ_=>True) ?_ λZF _=>?_
   ·refine .aB (Tot.hj (Φ:=λ_=>True) g0 (by omega) λ_ _ _=>trivial) λwg _=>Tot.bF (λ_=>.aq trivial) (λ_=>.aB (Tot.hj (Φ:=λ_=>True) g0 (by omega) λ_ _ _=>trivial) λ_ _=>Tot.bF (λ_=>.aq trivial) (λ_=>.aq trivial))
   ·refine Tot.aB (Ξ:=λl=>(l.length:Int)=1+a8/\∀ y∈l,ml (9+i.toNat+1) y) ?_ λj ah=>.aq ah;refine Tot.bF (λ_=>?_) (λ_=>.aq ⟨ak,λy ax=>(cx y ax).mono (by omega)⟩);refine .aB (Tot.hj (Φ:=λy=>y∈l) g0 (by omega) λ_ _ h=>h) λkB Ek=>.aB (t28 i g0) λkC abO=>?_;have J:=cx kB Ek;refine .aB (Ξ:=λ_=>True) (Tot.ap (by have:=J.n; simp [lim]; omega) trivial) λ_ _=>.aq ⟨by simp; omega,Lt (λy ax=>(cx y ax).mono (by omega)) (J.add ⟨by show 1<=_; omega,λp au=>?_,Nat.zero_le _⟩)⟩;have au:p∈[(⟨kC,⟨#[]⟩,0⟩:Part)]:=au;rw [List.mem_singleton.1 au];exact ⟨by show kC.Name.size<=1000000000000; omega,Nat.zero_le _⟩
  all_goals grind
 ·grind
 ·have:=af.2 d aS;exact ⟨by rw [this.tag]; exact Nat.zero_le _,by have:=this.n; omega,this.syms⟩
 ·grind
 ·have:=MS.2 r ao;exact ⟨this.left,by have:=this.n; omega,this.alts⟩
end Go.Proofs
namespace Go.Own
open Go Go.Sort
variable {α:Type} [DecidableEq α]
structure Ord (lt:α->α->Bool):Prop where
 swo:SWO lt
 ji:∀ x y,lt x y=false->lt y x=false->x=y
def fS (lt:α->α->Bool) (l:List α):Prop:=l.Pairwise λa b=>lt a b=true
omit [DecidableEq α] in
theorem fS.nd {lt:α->α->Bool}(h:Ord lt) {l:List α}(ak:fS lt l):l.Nodup:=ak.imp λ{a b} BA e=>by
 subst e;rw [h.swo.irrefl] at BA; cases BA
omit [DecidableEq α] in
theorem fS.uniq {lt:α->α->Bool}(h:Ord lt) {l m:List α}(ak:fS lt l) (hm:fS lt m) (he:∀ x,x∈l↔x∈m):l=m :=
 List.Perm.eq_of_pairwise (le:=λa b=>lt a b=true) (λa b _ _ h1 af=>by have:=h.swo.trans _ _ _ h1 af; rw [h.swo.irrefl] at this; cases this) ak hm ((List.perm_ext_iff_of_nodup (ak.nd h) (hm.nd h)).2 he)
omit [DecidableEq α] in
theorem zO {l m:List α}(aS:l.Nodup) (hm:∀ x∈l,x∈m):l.length<=m.length:=by
 classical
 induction l generalizing m with
 | nil=>exact Nat.zero_le _
 | cons x l aU =>
  have J:=hm x (by simp);have oa:=List.nodup_cons.1 aS;have:=aU (m:=m.erase x) oa.2 λy ax=>(List.mem_erase_of_ne (λe=>oa.1 (by rw [<- e]; exact ax))).2 (hm y (by simp [ax]));have ak:=List.length_erase_of_mem J;have au:=List.length_pos_of_mem J;simp only [List.length_cons];omega
theorem YH {lt:α->α->Bool}(h:Ord lt) {fU:α->α->Option Int}{l:List α}(aa:∀ a∈l,∀ b∈l,∃ v,fU a b=some v/\(v<0↔lt a b=true)) (aF:l.length<4611686018427387904):pV fU l=some (h' (kv fU) l)/\∀ a∈l,∀ b∈l,kv fU a b=lt a b:=by
 have aT:∀ a∈l,∀ b∈l,kv fU a b=lt a b:=by
  intro a aP b av;obtain ⟨v,hv,h⟩:=aa a aP b av;unfold kv;simp only [hv,Option.getD_some];cases hk:lt a b with
  | true=>exact decide_eq_true (h.2 hk)
  | false=>exact decide_eq_false λbY=>by rw [h.1 bY] at hk; cases hk
 refine ⟨?_,aT⟩;unfold pV;rw [if_pos];simp only [Bool.and_eq_true,decide_eq_true_eq,List.all_eq_true];refine ⟨⟨λa aP b av=>?_,?_⟩,aF⟩
 ·obtain ⟨v,hv,_⟩:=aa a aP b av;rw [hv]; rfl
 ·unfold zU;simp only [List.all_eq_true,Bool.and_eq_true,Bool.or_eq_true,Bool.not_eq_true',decide_eq_true_eq];intro a aP;refine ⟨by rw [aT a aP a aP]; exact h.swo.irrefl a,λb av=>⟨?_,λc aa=>⟨?_,?_⟩⟩⟩
  ·rw [aT a aP b av,aT b av a aP];cases h1:lt a b with
   | true=>exact .inl (.inl rfl)
   | false =>
    cases af:lt b a with
    | true=>exact .inl (.inr rfl)
    | false=>exact .inr (h.ji _ _ h1 af)
  ·rw [aT a aP b av,aT b av c aa,aT a aP c aa];cases h1:lt a b with
   | false=>exact .inl rfl
   | true =>
    cases af:lt b c with
    | false=>exact .inl rfl
    | true=>exact .inr (h.swo.trans _ _ _ h1 af)
  ·rw [aT a aP b av,aT b av c aa,aT a aP c aa];cases h1:lt a b with
   | true=>exact .inl (.inl rfl)
   | false =>
    cases af:lt b c with
    | true=>exact .inl (.inr rfl)
    | false=>exact .inr (h.swo.ntrans _ _ _ h1 af)
omit [DecidableEq α] in
theorem Ce {lt lt':α->α->Bool}(x:α):∀ l:List α,(∀ y∈l,lt y x=lt' y x)->ins lt x l=ins lt' x l
 | [],_=>rfl
 | y::l,h=>by
  simp only [ins,h y (by simp)];rw [Ce x l λz aY=>h z (by simp [aY])]
omit [DecidableEq α] in
theorem Cg {lt lt':α->α->Bool}:∀ l:List α,(∀ a∈l,∀ b∈l,lt a b=lt' a b)->h' lt l=h' lt' l
 | [],_=>rfl
 | x::l,h=>by
  simp only [h'];rw [Cg l λa aP b av=>h a (by simp [aP]) b (by simp [av])];exact Ce x _ λy ax=>h y (by simp [(sS lt' l).mem_iff.1 ax]) x (by simp)
theorem YG {lt:α->α->Bool}(h:Ord lt) {fU:α->α->Option Int}{l:List α}(aa:∀ a∈l,∀ b∈l,∃ v,fU a b=some v/\(v<0↔lt a b=true)) (aF:l.length<4611686018427387904):pV fU l=some (h' lt l):=by
 obtain ⟨h1,af⟩:=YH h aa aF;rw [h1,Cg l af]
end Go.Own
namespace Go.Proofs
open Go Go.Own Go.Sort
set_option maxRecDepth 100000
set_option linter.unusedVariables false
def gX (a b:Item):Bool:=decide (a.Prod<b.Prod\/(a.Prod=b.Prod/\a.fc<b.fc))
theorem JG {a b:Item}:gX a b=true↔(a.Prod<b.Prod\/(a.Prod=b.Prod/\a.fc<b.fc)):=by simp [gX]
theorem Cu {a b:Item}:gX a b=false↔¬ (a.Prod<b.Prod\/(a.Prod=b.Prod/\a.fc<b.fc)):=by simp [gX]
theorem vG:Ord gX where
 swo:=⟨λx=>by rw [Cu]; omega,λx y z h1 af=>by rw [JG] at *; omega,λx y z h1 af=>by rw [Cu] at *; omega⟩
 ji x y h1 af:=by
  rw [Cu] at h1 af;obtain ⟨a8,x2⟩:=x;obtain ⟨bx,y2⟩:=y;simp only at h1 af;have:a8=bx:=by omega
  have:x2=y2:=by omega
  subst_vars; rfl
def jf (g:bO) (x:Item):Prop:=∃ q,idx g.bh x.Prod=some q/\0<=x.fc/\x.fc<=q.eI.length
def hR (g:bO) (x:Item):Int:=match idx g.bh x.Prod with
 | some q=>(idx q.eI x.fc).getD (-1)
 | none=>-1
theorem nb {α:Type}{l:List α}{i:Int}{y:α}(h:idx l i=some y):0<=i/\i<l.length/\y∈l:=by
 unfold idx at h
 split at h
 ·rename_i aR;obtain ⟨h1,af⟩:=List.getElem?_eq_some_iff.1 h;exact ⟨aR,by omega,List.mem_of_getElem? h⟩
 ·cases h
theorem Jj {α:Type}{l:List α}{i:Int}(h:i<0\/(l.length:Int)<=i):idx l i=none:=by
 unfold idx;split
 ·exact List.getElem?_eq_none (by omega)
 ·rfl
theorem oi {α:Type}{l:List α}{i:Int}(aR:0<=i) (h1:i<l.length):∃ y,idx l i=some y/\y∈l:=by
 have aT:i.toNat<l.length:=by omega
 exact ⟨l[i.toNat],by simp [idx,aR,aT],List.getElem_mem aT⟩
theorem eu {α:Type}{l:List α}{k:Nat}(h:k<l.length):idx l (k:Int)=some l[k]:=by simp [idx,h]
theorem Mi (g:bO) (x:Item):∃ c,zX g x=some c/\(c=true↔jf g x):=by
 unfold zX;by_cases aR:0<=x.Prod
 ·by_cases h1:x.Prod<g.bh.length
  ·obtain ⟨q,bg,_⟩:=oi aR h1;by_cases af:0<=x.fc
   ·refine ⟨decide (x.fc<=(q.eI.length:Int)),by simp [aR,h1,af,bg],?_⟩;rw [decide_eq_true_eq];exact ⟨λh=>⟨q,bg,af,h⟩,λ⟨fR,zv,_,h⟩=>by rw [bg] at zv; cases zv; exact h⟩
   ·exact ⟨false,by simp [aR,h1,af],λh=>(by cases h),λ⟨_,_,h,_⟩=>absurd h af⟩
  ·exact ⟨false,by simp [aR,h1],λh=>(by cases h),λ⟨_,h,_⟩=>absurd (nb h).2.1 h1⟩
 ·exact ⟨false,by simp [aR],λh=>(by cases h),λ⟨_,h,_⟩=>absurd (nb h).1 aR⟩
theorem Hl (g:bO) (x:Item):x8 g x=some (hR g x):=by
 unfold x8 hR;obtain ⟨c,aa,hi⟩:=Mi g x;rw [aa];simp only [Option.bind_some];cases c with
 | false =>
  have aF:¬ jf g x:=λh=>by have:=hi.2 h; cases this
  simp only [Bool.not_false,cond_true,Option.bind_some];cases bg:idx g.bh x.Prod with
  | none=>rfl
  | some q =>
   have:idx q.eI x.fc=none:=Jj (by
    by_cases aR:0<=x.fc
    ·right;by_cases h1:x.fc<=q.eI.length
     ·exact absurd ⟨q,bg,aR,h1⟩ aF
     ·omega
    ·left; omega)
   simp [this]
 | true =>
  obtain ⟨q,bg,aR,h1⟩:=hi.1 rfl;simp only [Bool.not_true,cond_false,bg,Option.bind_some];by_cases he:x.fc=q.eI.length
  ·rw [Jj (.inr (by omega))];simp [he]
  ·obtain ⟨s,aC,_⟩:=oi (l:=q.eI) (i:=x.fc) aR (by omega);simp [he,aC]
theorem OX {g:bO}(aO:hf g) {x:Item}(h:0<=hR g x):jf g x/\q1 g.ba.length (g.b1.length - 1) (hR g x)/\∃ q,idx g.bh x.Prod=some q/\idx q.eI x.fc=some (hR g x):=by
 cases bg:idx g.bh x.Prod with
 | none =>
  have:hR g x=-1:=by unfold hR; rw [bg]
  rw [this] at h; exact absurd h (by decide)
 | some q =>
  cases aC:idx q.eI x.fc with
  | none =>
   have:hR g x=-1:=by unfold hR; rw [bg]; simp [aC]
   rw [this] at h; exact absurd h (by decide)
  | some s =>
   have e:hR g x=s:=by unfold hR; rw [bg]; simp [aC]
   rw [e];obtain ⟨aR,h1,hm⟩:=nb aC;exact ⟨⟨q,bg,aR,by omega⟩,(aO.hq q (nb bg).2.2).right s hm,q,rfl,aC⟩
inductive n1 (g:bO) (l:List Item):Item->Prop
 | base {x:Item}(h:x∈l) (hi:jf g x):n1 g l x
 | step {x:Item}{q:Prod}{p:Nat}(h:n1 g l x) (au:g.bh[p]?=some q) (aF:hR g x=1000+q.Left) (aR:1000<=hR g x):n1 g l ⟨p,0⟩
theorem Ov {g:bO}{p:Nat}{q:Prod}(au:g.bh[p]?=some q):jf g ⟨p,0⟩:=⟨q,by simp [idx,au],Int.le_refl _,by show (0:Int)<=_; omega⟩
theorem n1.jf {g:bO}{l:List Item}{x:Item}(h:n1 g l x):jf g x:=by
 cases h with
 | base _ hi=>exact hi
 | step _ au _ _=>exact Ov au
theorem Xe {g:bO}(aO:hf g) (x:Item):-1<=hR g x/\hR g x<=1023:=by
 by_cases h:0<=hR g x
 ·obtain ⟨_,aC,_⟩:=OX aO h;have:=aO.dz;have:=aO.kX;rcases aC with aC | aC <;> omega
 ·refine ⟨?_,by omega⟩;revert h;unfold hR;cases bg:idx g.bh x.Prod with
  | none=>intro _; exact Int.le_refl _
  | some q =>
   cases aC:idx q.eI x.fc with
   | none=>intro _; simp [aC]
   | some s =>
    intro h;have hm:=(aO.hq q (nb bg).2.2).right s (nb aC).2.2;simp only [aC,Option.getD_some] at h ⊢;rcases hm with hm | hm <;> omega
def hn (m:List Bool):Nat:=(m.filter λb=>b).length
theorem wN:∀ (m:List Bool) (i:Nat),i<m.length->m.getD i false=false->hn (m.set i true)=hn m+1
 | [],i,h,_=>by simp at h
 | b::m,0,_,h=>by
  have:b=false:=by simpa using h
  subst this;simp [hn]
 | b::m,i+1,h,aR=>by
  have:=wN m i (by simpa using h) (by simpa using aR);unfold hn at this ⊢;simp only [List.set_cons_succ,List.filter_cons];cases b <;> simp [this]
theorem Sp (m:List Bool):hn m<=m.length:=List.length_filter_le _ _
theorem lV {α:Type}{r:List α}{k:Nat}(h:k<r.length):r.take (k+1)=r.take k++[r[k]]:=by
 simp_all
theorem F' (k:Nat) (h:k<=1000000000000):aK ((k:Int)+1)=((k+1:Nat):Int):=by
 grind [cI]
def allI (g:bO):List Item:=(List.range g.bh.length).flatMap λp=>(List.range 9).map λd=>(⟨(p:Nat),(d:Nat)⟩:Item)
theorem Rm (g:bO):(allI g).length=g.bh.length * 9:=by
 have:∀ l:List Nat,(l.map λ_=>9).sum=l.length * 9:=λl=>by
  induction l with
  | nil=>rfl
  | cons a l aU=>simp only [List.map_cons,List.sum_cons,aU,List.length_cons]; omega
 simp [allI,List.length_flatMap,this]
theorem W5 {g:bO}(aO:hf g) {x:Item}(h:jf g x):x∈allI g:=by
 obtain ⟨q,bg,aR,h1⟩:=h;obtain ⟨af,aI,bK⟩:=nb bg;have:=aO.aH q bK;refine List.mem_flatMap.2 ⟨x.Prod.toNat,by simp; omega,List.mem_map.2 ⟨x.fc.toNat,by simp; omega,?_⟩⟩;obtain ⟨a,b⟩:=x;simp only at aR af ⊢;congr 1 <;> omega
theorem tr {g:bO}(aO:hf g) {l:List Item}(ak:fS gX l) (hi:∀ x∈l,jf g x):l.length<=540:=by
 have:=zO (ak.nd vG) λx J=>W5 aO (hi x J);rw [Rm] at this;have:=aO.ia;omega
theorem Rz {l:List Item}(ak:fS gX l) {i j:Nat}(hi:i<l.length) (ah:j<l.length) (h:i<j):gX l[i] l[j]=true:=List.pairwise_iff_getElem.1 ak i j hi ah h
theorem G0 (l:List Item) (x:Item) (ak:fS gX l) (aF:l.length<=100000):Tot (xT l x) λr=>fS gX r/\(∀ y,y∈r↔y∈l\/y=x):=by
 unfold xT;refine .aB (Ξ:=λz:Int=>∃ k:Nat,z=(k:Int)/\k<=l.length/\(∀ (i:Nat) (h:i<l.length),k<=i->gX x l[i]=true)/\∀ (h:0<k),gX x (l[k - 1]?.getD default)=false) ?_ λz aY=>?_
 ·refine Tot.count (λs=>-s) 1 (λs=>∃ k:Nat,s=(k:Int)/\k<=l.length/\∀ (i:Nat) (h:i<l.length),k<=i->gX x l[i]=true) ⟨l.length,rfl,Nat.le_refl _,λi h hk=>by omega⟩ (by show 1 - -(l.length:Int)<_; omega) λs aC=>?_;obtain ⟨k,rfl,hk,ub⟩:=aC;refine .aB (Ξ:=λc:Bool=>(c=true->0<k/\gX x (l[k - 1]?.getD default)=true)/\(c=false->∀ (h:0<k),gX x (l[k - 1]?.getD default)=false)) ?_ λc aa=>Tot.bF (λh=>?_) (λh=>.aq ⟨k,rfl,hk,ub,aa.2 h⟩)
  ·refine Tot.br (λh=>?_) (λh=>.aq ⟨λaQ=>(by cases aQ),λ_ aQ=>by omega⟩);have hb:k - 1<l.length:=by omega
   have hw:aK ((k:Int) - 1)=((k - 1:Nat):Int):=by rw [cI]; omega
   rw [hw,eu hb,List.getElem?_eq_getElem hb];simp only [Option.bind_some,Option.getD_some];generalize l[k - 1]=y;refine Tot.br (λh1=>.aq ⟨λ_=>⟨by omega,JG.2 (.inl h1)⟩,λaQ=>(by cases aQ)⟩) (λh1=>Tot.br (λaf=>.aq ⟨λaI=>⟨by omega,JG.2 (.inr ⟨af.symm,of_decide_eq_true aI⟩)⟩,λaI _=>?_⟩) (λaf=>.aq ⟨λaQ=>(by cases aQ),λ_ _=>?_⟩))
   ·have:=of_decide_eq_false aI;rw [Cu]; omega
   ·rw [Cu]; omega
  ·obtain ⟨aR,h1⟩:=aa.1 h;refine .aq ⟨⟨k - 1,by rw [cI]; omega,by omega,λi hi Vp=>?_⟩,by show -(k:Int) < -aK _; rw [cI]; omega,by show -aK _<=1; rw [cI]; omega⟩;by_cases e:i=k - 1
   ·subst e;rw [List.getElem?_eq_getElem hi] at h1;exact h1
   ·exact ub i hi (by omega)
 ·obtain ⟨k,rfl,hk,ub,l6⟩:=aY;refine .aB (Ξ:=λc:Bool=>(c=true↔(0<k/\l[k - 1]?.getD default=x))) ?_ λc aa=>Tot.bF (λh=>?_) (λh=>?_)
  ·refine Tot.br (λh=>?_) (λh=>.aq ⟨λaQ=>(by cases aQ),λaQ=>by omega⟩);have hb:k - 1<l.length:=by omega
   have hw:aK ((k:Int) - 1)=((k - 1:Nat):Int):=by rw [cI]; omega
   rw [hw,eu hb,List.getElem?_eq_getElem hb];simp only [Option.bind_some,Option.getD_some];generalize l[k - 1]=y;refine .aq ?_;obtain ⟨bx,y2⟩:=y;obtain ⟨a8,x2⟩:=x;simp only [Bool.and_true,Bool.and_eq_true,decide_eq_true_eq,Item.mk.injEq];exact ⟨λaQ=>⟨by omega,aQ⟩,λaQ=>aQ.2⟩
  ·obtain ⟨aR,h1⟩:=aa.1 h;have hb:k - 1<l.length:=by omega
   rw [List.getElem?_eq_getElem hb] at h1;have J:x∈l:=by rw [<- h1]; exact List.getElem_mem hb
   exact .aq ⟨ak,λy=>⟨.inl,λh=>h.elim id λe=>e ▸ J⟩⟩
  ·have dr:∀ (i:Nat) (hi:i<l.length),i<k->gX l[i] x=true:=by
    intro i hi Ir;have hb:k - 1<l.length:=by omega
    have l6:=l6 (by omega);have aF:l[k - 1]?.getD default≠x:=λe=>by rw [aa.2 ⟨by omega,e⟩] at h; cases h
    rw [List.getElem?_eq_getElem hb] at l6 aF;simp only [Option.getD_some] at l6 aF;have fX:gX l[k - 1] x=true:=by
     cases bY:gX l[k - 1] x with
     | true=>rfl
     | false=>exact absurd (vG.ji _ _ bY l6) aF
    by_cases e:i=k - 1
    ·subst e; exact fX
    ·exact vG.swo.trans _ _ _ (Rz ak hi hb (by omega)) fX
   refine .aB (Ξ:=λz=>z=l.take k) (Tot.sub ⟨by omega,by omega,by omega⟩ (by simp)) λz aY=>?_;subst aY;refine .aB (Ξ:=λ_=>True) (Tot.ap (by simp [lim]; omega) trivial) λ_ _=>.aB (Ξ:=λ_=>True) (Tot.ap (by simp [lim]; omega) trivial) λ_ _=>?_;refine .aB (Ξ:=λz=>z=l.drop k) (Tot.sub ⟨by omega,by omega,by omega⟩ ?_) λz aY=>?_
   ·rw [List.take_of_length_le]
    ·congr 1
    ·rw [List.length_drop]; omega
   subst aY;refine .aB (Ξ:=λ_=>True) (Tot.ap (by simp [lim]; omega) trivial) λ_ _=>.aq ?_;rw [List.nil_append];constructor
   ·have h1:∀ a∈l.take k,gX a x=true:=by
     intro a aP;obtain ⟨i,hi,rfl⟩:=List.mem_iff_getElem.1 aP;rw [List.length_take] at hi;rw [List.getElem_take];exact dr i (by omega) (by omega)
    have af:∀ a∈l.drop k,gX x a=true:=by
     intro a aP;obtain ⟨i,hi,rfl⟩:=List.mem_iff_getElem.1 aP;rw [List.length_drop] at hi;rw [List.getElem_drop];exact ub (k+i) (by omega) (by omega)
    unfold fS;rw [List.append_assoc,List.pairwise_append];refine ⟨List.Pairwise.sublist (List.take_sublist k l) ak,?_,λa aP b av=>?_⟩
    ·rw [List.singleton_append,List.pairwise_cons];exact ⟨af,List.Pairwise.sublist (List.drop_sublist k l) ak⟩
    ·rcases List.mem_append.1 av with av | av
     ·rw [List.mem_singleton.1 av]; exact h1 a aP
     ·exact vG.swo.trans _ _ _ (h1 a aP) (af b av)
   ·intro y;rw [List.append_assoc,List.mem_append,List.mem_append,List.mem_singleton];have hm:y∈l↔y∈l.take k\/y∈l.drop k:=by
     rw [<- List.mem_append,List.take_append_drop]
    rw [hm];constructor
    ·rintro (h | h | h)
     ·exact .inl (.inl h)
     ·exact .inr h
     ·exact .inl (.inr h)
    ·rintro ((h | h) | h)
     ·exact .inl h
     ·exact .inr (.inr h)
     ·exact .inr (.inl h)
theorem RU (g:bO) (aO:hf g) (l:List Item) (ak:l.length<=1000000):Tot (CI g l) λr=>fS gX r/\∀ x,x∈r↔x∈l/\jf g x:=by
 unfold CI;refine .aB (Ξ:=λr=>fS gX r/\∀ x,x∈r↔x∈l/\jf g x) ?_ λr ao=>.aq ao;refine Tot.count (λs=>s.2) l.length (λs=>∃ k:Nat,k<=l.length/\s.2=(k:Int)/\fS gX s.1/\∀ x,x∈s.1↔x∈l.take k/\jf g x) ⟨0,Nat.zero_le _,rfl,List.Pairwise.nil,λx=>by simp⟩ (by show (l.length:Int) - 0<_; omega) λs aC=>?_;obtain ⟨out,kT⟩:=s;obtain ⟨k,hk,rfl,aP,hm⟩:=aC;simp only at aP hm ⊢;rw [F' k (by omega)];refine Tot.br (λaT=>?_) (λdU=>.aq ?_)
 ·have aT:k<l.length:=by omega
  rw [eu aT];refine .aB (Ξ:=λo:List Item=>fS gX o/\∀ x,x∈o↔x∈l.take (k+1)/\jf g x) ?_ λo a1=>.aq ⟨⟨k+1,by omega,rfl,a1⟩,by show (k:Int)<((k+1:Nat):Int); omega,by show ((k+1:Nat):Int)<=_; omega⟩;obtain ⟨c,aa,hi⟩:=Mi g l[k];rw [lV aT];refine Tot.aV ?_;rw [aa];refine Tot.aV (.aB (Ξ:=λo:List Item=>fS gX o/\∀ x,x∈o↔x∈l.take k++[l[k]]/\jf g x) (Tot.bF (λh=>?_) (λh=>.aq ⟨aP,λx=>?_⟩)) λo a1=>.aq a1)
  ·have zu:=tr aO aP λx J=>((hm x).1 J).2;refine Tot.aV (.aB (G0 out _ aP (by omega)) λo a1=>.aq ⟨a1.1,λx=>?_⟩);rw [a1.2 x,List.mem_append,List.mem_singleton,hm x];constructor
   ·rintro (⟨h1,af⟩ | rfl)
    ·exact ⟨.inl h1,af⟩
    ·exact ⟨.inr rfl,hi.1 h⟩
   ·rintro ⟨h1 | rfl,af⟩
    ·exact .inl ⟨h1,af⟩
    ·exact .inr rfl
  ·rw [List.mem_append,List.mem_singleton,hm x];constructor
   ·rintro ⟨h1,af⟩;exact ⟨.inl h1,af⟩
   ·rintro ⟨h1 | rfl,af⟩
    ·exact ⟨h1,af⟩
    ·rw [hi.2 af] at h; cases h
 ·have:k=l.length:=by omega
  subst this;rw [List.take_length] at hm;exact ⟨aP,hm⟩
def wk (g:bO) (out:List Item) (x:Item):Prop:=1000<=hR g x->∀ (p:Nat) (q:Prod),g.bh[p]?=some q->q.Left=hR g x - 1000->(⟨p,0⟩:Item)∈out
theorem Hc (g:bO) (aO:hf g) (l:List Item) (ak:l.length<=1000000):Tot (x7 g l) λr=>fS gX r/\∀ x,x∈r↔n1 g l x:=by
 have t_:=aO.ia;unfold x7;refine .aB (RU g aO l ak) λa8 h1=>.aB (Ξ:=λr=>fS gX r/\∀ x,x∈r↔n1 g l x) ?_ λr ao=>.aq ao;obtain ⟨Uw,zt⟩:=h1;refine Tot.loop (λs=>fS gX s.1/\(∀ x∈s.1,n1 g l x)/\(∀ x∈l,jf g x->x∈s.1)/\(s.2=(s.1.length:Int)->∀ x∈s.1,wk g s.1 x)) (λs=>2 * (1000 - s.1.length)+(if s.2=(s.1.length:Int) then 0 else 1)) ⟨Uw,λx J=>.base ((zt x).1 J).1 ((zt x).1 J).2,λx J hi=>(zt x).2 ⟨J,hi⟩,λh=>by have h:(-1:Int)=_:=h; omega⟩ (by
  show 2 * (1000 - a8.length)+(if (-1:Int)=_ then 0 else 1)<1000000000000000000
  split <;> omega) λs aC=>?_
 obtain ⟨out,n⟩:=s;obtain ⟨aP,gH,u9,ha⟩:=aC;simp only at aP gH u9 ha ⊢;have zu:=tr aO aP λx J=>(gH x J).jf;refine Tot.qe (λdr=>?_) (λhe=>.aq ⟨aP,λx=>⟨gH x,λJ=>?_⟩⟩)
 ·refine .aB (Ξ:=λj:List Item × Int=>j.2=(out.length:Int)/\fS gX j.1/\(∀ x∈j.1,n1 g l x)/\(∀ x∈out,x∈j.1)/\(j.1.length=out.length->∀ x∈j.1,wk g j.1 x)) ?_ λj ah=>?_
  ·refine .aB (Ξ:=λr:List Item=>fS gX r/\(∀ x∈r,n1 g l x)/\(∀ x∈out,x∈r)/\(r.length=out.length->∀ x∈r,wk g r x)) ?_ λr ao=>.aq ⟨rfl,ao⟩;refine .aB (Ξ:=λr:List Item=>fS gX r/\(∀ x∈r,n1 g l x)/\(∀ x∈out,x∈r)/\(r.length=out.length->∀ x∈r,wk g r x)) ?_ λr ao=>.aq ao;refine Tot.count (λs=>s.2) out.length (λs=>∃ k:Nat,k<=out.length/\s.2=(k:Int)/\s.1=out/\∀ (j:Nat) (h:j<out.length),j<k->wk g out out[j]) ⟨0,Nat.zero_le _,rfl,rfl,λj _ ah=>absurd ah (Nat.not_lt_zero _)⟩ (by show (out.length:Int) - 0<_; omega) λs aC=>?_;obtain ⟨cur,kT⟩:=s;obtain ⟨k,hk,rfl,rfl,Nu⟩:=aC;simp only;rw [F' k (by omega)];refine Tot.br (λaT=>?_) (λdU=>.aq ⟨aP,gH,λ_ h=>h,λ_ x J=>?_⟩)
   ·have aT:k<cur.length:=by omega
    rw [eu aT];have zE:=gH _ (List.getElem_mem aT);have EN:∀ P:Item->Prop,P cur[k]->∀ (j:Nat) (h:j<cur.length),j=k->P cur[j]:=λP cx j h e=>by subst e; exact cx
    generalize J:cur[k]=x at *;have acx:=Xe aO x;have hw:aK (hR g x - 1000)=hR g x - 1000:=by rw [cI]; omega
    simp only [Option.bind_some,Hl g x,hw];refine (.aB (Ξ:=λr:List Item=>fS gX r/\(∀ x∈r,n1 g l x)/\(∀ x∈cur,x∈r)/\wk g r x) ?_ λr ao=>?_)
    ·refine Tot.count (λs=>s.2) g.bh.length (λs=>∃ i:Nat,i<=g.bh.length/\s.2=(i:Int)/\fS gX s.1/\(∀ x∈s.1,n1 g l x)/\(∀ x∈cur,x∈s.1)/\∀ (p:Nat) (q:Prod),p<i->g.bh[p]?=some q->q.Left=hR g x - 1000->(⟨p,0⟩:Item)∈s.1) ⟨0,Nat.zero_le _,rfl,aP,gH,λ_ h=>h,λp q au=>absurd au (Nat.not_lt_zero _)⟩ (by show (g.bh.length:Int) - 0<_; omega) λs aC=>?_;obtain ⟨o,sd⟩:=s;obtain ⟨i,hi,rfl,r6,BU,ED,vj⟩:=aC;simp only at r6 BU ED vj ⊢;rw [F' i (by omega)];refine .aB (Ξ:=λc:Bool=>(c=true->i<g.bh.length/\1000<=hR g x)/\(c=false->g.bh.length<=i\/hR g x<1000)) (Tot.br (λh=>.aq ⟨λaQ=>⟨by omega,of_decide_eq_true aQ⟩,λaQ=>.inr (by have:=of_decide_eq_false aQ; omega)⟩) (λh=>.aq ⟨λaQ=>(by cases aQ),λ_=>.inl (by omega)⟩)) λc aa=>Tot.bF (λh=>?_) (λh=>.aq ⟨r6,BU,ED,λaR p q au=>?_⟩)
     ·obtain ⟨IB,aR⟩:=aa.1 h;have NW:g.bh[i]?=some g.bh[i]:=List.getElem?_eq_getElem IB;rw [eu IB];refine .aB (Ξ:=λo:List Item=>fS gX o/\(∀ x∈o,n1 g l x)/\(∀ x∈cur,x∈o)/\∀ (p:Nat) (q:Prod),p<i+1->g.bh[p]?=some q->q.Left=hR g x - 1000->(⟨p,0⟩:Item)∈o) ?_ λo a1=>.aq ⟨⟨i+1,by omega,rfl,a1⟩,by show (i:Int)<((i+1:Nat):Int); omega,by show ((i+1:Nat):Int)<=_; omega⟩;refine Tot.aV (.aB (Ξ:=λo:List Item=>fS gX o/\(∀ x∈o,n1 g l x)/\(∀ x∈cur,x∈o)/\∀ (p:Nat) (q:Prod),p<i+1->g.bh[p]?=some q->q.Left=hR g x - 1000->(⟨p,0⟩:Item)∈o) (Tot.br (λh=>?_) (λh=>.aq ⟨r6,BU,ED,λp q au BZ bg=>?_⟩)) λo a1=>.aq a1)
      ·have acu:=tr aO r6 λx J=>(BU x J).jf;refine .aB (G0 o ⟨(i:Nat),0⟩ r6 (by omega)) λr ao=>.aq ⟨ao.1,λy ax=>?_,λy ax=>(ao.2 y).2 (.inl (ED y ax)),λp q au BZ bg=>?_⟩
       ·rcases (ao.2 y).1 ax with ax | rfl
        ·exact BU y ax
        ·exact .step zE NW (by omega) aR
       ·by_cases cA:p=i
        ·subst cA; exact (ao.2 _).2 (.inr rfl)
        ·exact (ao.2 _).2 (.inl (vj p q (by omega) BZ bg))
      ·by_cases cA:p=i
       ·subst cA;rw [NW] at BZ; cases BZ;exact absurd bg h
       ·exact vj p q (by omega) BZ bg
     ·rcases aa.2 h with h1 | h1
      ·exact vj p q (by have:=(List.getElem?_eq_some_iff.1 au).1; omega) au
      ·omega
    ·obtain ⟨sM,VL,l8,VR⟩:=ao;have hle:cur.length<=r.length:=zO (aP.nd vG) l8;refine Tot.qe (λIH=>.aq ⟨sM,VL,l8,λe=>absurd (by omega) IH⟩) (λheq=>?_);have l7:r.length=cur.length:=by omega
     have VS:r=cur:=by
      have nH:∀ y,y∈cur↔y∈r:=by
       intro y;refine ⟨l8 y,λax=>Classical.byContradiction λaF=>?_⟩;have:=zO (l:=y::cur) (m:=r) (List.nodup_cons.2 ⟨aF,aP.nd vG⟩) λz aY=>by
        rcases List.mem_cons.1 aY with rfl | aY
        ·exact ax
        ·exact l8 z aY
       simp at this;omega
      exact (fS.uniq vG aP sM nH).symm
     subst VS;refine .aq ⟨⟨k+1,by omega,rfl,rfl,λj ah gV=>?_⟩,by show (k:Int)<((k+1:Nat):Int); omega,by show ((k+1:Nat):Int)<=_; omega⟩;by_cases cA:j=k
     ·exact EN (wk g r) VR j ah cA
     ·exact Nu j ah (by omega)
   ·obtain ⟨j,ah,rfl⟩:=List.mem_iff_getElem.1 J;exact Nu j ah (by omega)
  ·obtain ⟨h1,af,aI,bK,cG⟩:=ah;have hle:out.length<=j.1.length:=zO (aP.nd vG) bK;have eZ:=tr aO af λx J=>(aI x J).jf;refine .aq ⟨⟨af,aI,λx J hi=>bK x (u9 x J hi),λe=>cG (by show j.1.length=_; have e:j.2=(j.1.length:Int):=e; omega)⟩,?_⟩;show 2 * (1000 - j.1.length)+(if j.2=(j.1.length:Int) then 0 else 1)<2 * (1000 - out.length)+(if n=(out.length:Int) then 0 else 1)
   rw [if_neg dr];split
   ·omega
   ·have:j.1.length≠out.length:=λe=>by omega
    omega
 ·have aa:=ha he
  induction J with
  | base h hi=>exact u9 _ h hi
  | @step x q p h au aF aR aU=>exact aa x aU aR p q au (by omega)
def DR (g:bO) (l:List Item) (a:Int) (y:Item):Prop:=∃ x,n1 g l x/\hR g x=a/\0<=a/\y=⟨x.Prod,x.fc+1⟩
theorem Ou {g:bO}(aO:hf g) {x:Item}(h:0<=hR g x):jf g ⟨x.Prod,x.fc+1⟩:=by
 obtain ⟨_,_,q,bg,aC⟩:=OX aO h;obtain ⟨aR,h1,_⟩:=nb aC;exact ⟨q,bg,by show 0<=x.fc+1; omega,by show x.fc+1<=_; omega⟩
theorem WW {g:bO}(aO:hf g) {x:Item}(h:jf g x):0<=x.fc/\x.fc<=8:=by
 obtain ⟨q,bg,aR,h1⟩:=h;have:=aO.aH q (nb bg).2.2;omega
theorem DR.jf {g:bO}(aO:hf g) {l:List Item}{a:Int}{y:Item}(h:DR g l a y):jf g y:=by
 obtain ⟨x,_,h1,af,rfl⟩:=h;exact Ou aO (by omega)
theorem Sc (g:bO) (aO:hf g) (l:List Item) (a:Int) (ak:l.length<=1000000):Tot (C3 g l a) λr=>fS gX r/\∀ y,y∈r↔DR g l a y:=by
 unfold C3;refine .aB (Hc g aO l ak) λc aa=>.aB (Ξ:=λr=>fS gX r/\∀ y,y∈r↔DR g l a y) ?_ λr ao=>.aq ao;have ha:=tr aO aa.1 λx J=>((aa.2 x).1 J).jf;refine Tot.count (λs=>s.2) c.length (λs=>∃ k:Nat,k<=c.length/\s.2=(k:Int)/\fS gX s.1/\∀ y,y∈s.1↔∃ x∈c.take k,hR g x=a/\0<=a/\y=⟨x.Prod,x.fc+1⟩) ⟨0,Nat.zero_le _,rfl,List.Pairwise.nil,λy=>by simp⟩ (by show (c.length:Int) - 0<_; omega) λs aC=>?_;obtain ⟨o,kT⟩:=s;obtain ⟨k,hk,rfl,r6,BV⟩:=aC;simp only at r6 BV ⊢;rw [F' k (by omega)];refine Tot.br (λaT=>?_) (λdU=>.aq ⟨r6,λy=>?_⟩)
 ·have aT:k<c.length:=by omega
  have WC:=((aa.2 _).1 (List.getElem_mem aT)).jf;have gj:c.take (k+1)=c.take k++[c[k]]:=lV aT;rw [eu aT];generalize c[k]=x at *;have aS:=WW aO WC;have hw:aK (x.fc+1)=x.fc+1:=by rw [cI]; omega
  refine .aB (Ξ:=λo:List Item=>fS gX o/\∀ y,y∈o↔∃ x∈c.take (k+1),hR g x=a/\0<=a/\y=⟨x.Prod,x.fc+1⟩) ?_ λo a1=>.aq ⟨⟨k+1,by omega,rfl,a1⟩,by show (k:Int)<((k+1:Nat):Int); omega,by show ((k+1:Nat):Int)<=_; omega⟩;have nH:∀ y,(∃ z∈c.take (k+1),hR g z=a/\0<=a/\y=(⟨z.Prod,z.fc+1⟩:Item))↔(y∈o\/(hR g x=a/\0<=a/\y=⟨x.Prod,x.fc+1⟩)):=by
   intro y;rw [BV y,gj];constructor
   ·rintro ⟨z,aY,h⟩;rcases List.mem_append.1 aY with aY | aY
    ·exact .inl ⟨z,aY,h⟩
    ·rw [List.mem_singleton.1 aY] at h; exact .inr h
   ·rintro (⟨z,aY,h⟩ | h)
    ·exact ⟨z,by simp [aY],h⟩
    ·exact ⟨x,by simp,h⟩
  simp only [Option.bind_some,Hl g x,hw];refine (.aB (Ξ:=λb:Bool=>b=decide (0<=hR g x/\hR g x=a)) (Tot.br (λh=>.aq (by simp [h])) (λh=>.aq (by simp [h]))) λb av=>?_);subst av;refine .aB (Ξ:=λo:List Item=>fS gX o/\∀ y,y∈o↔∃ x∈c.take (k+1),hR g x=a/\0<=a/\y=⟨x.Prod,x.fc+1⟩) (Tot.br (λh=>?_) (λh=>.aq ⟨r6,λy=>?_⟩)) λo a1=>.aq a1
  ·have zu:=tr aO r6 λy ax=>by
    obtain ⟨z,_,h1,af,rfl⟩:=(BV y).1 ax;exact Ou aO (by omega)
   refine (.aB (G0 o _ r6 (by omega)) λr ao=>.aq ⟨ao.1,λy=>?_⟩);rw [ao.2 y,nH y];constructor
   ·rintro (h1 | h1)
    ·exact .inl h1
    ·exact .inr ⟨h.2,by omega,h1⟩
   ·rintro (h1 | h1)
    ·exact .inl h1
    ·exact .inr h1.2.2
  ·rw [nH y];exact ⟨.inl,λaQ=>aQ.elim id λaQ=>absurd ⟨by omega,aQ.1⟩ h⟩
 ·have:k=c.length:=by omega
  subst this;rw [List.take_length] at BV;rw [BV y];constructor
  ·rintro ⟨x,J,h⟩;exact ⟨x,(aa.2 x).1 J,h⟩
  ·rintro ⟨x,J,h⟩;exact ⟨x,(aa.2 x).2 J,h⟩
def iR (a b:Int):Bool:=decide (a<b)
theorem OJ {a b:Int}:iR a b=true↔a<b:=by simp [iR]
theorem JL {a b:Int}:iR a b=false↔¬ a<b:=by simp [iR]
theorem Fp:Ord iR where
 swo:=⟨λx=>by rw [JL]; omega,λx y z h1 af=>by rw [OJ] at *; omega,λx y z h1 af=>by rw [JL] at *; omega⟩
 ji:=λx y h1 af=>by rw [JL] at *; omega
theorem LG {l:List Int}(ak:fS iR l) {i j:Nat}(hi:i<l.length) (ah:j<l.length) (h:i<j):iR l[i] l[j]=true:=List.pairwise_iff_getElem.1 ak i j hi ah h
theorem D8 (l:List Int) (x:Int) (ak:fS iR l) (aF:l.length<=100000):Tot (pS l x) λr=>fS iR r/\r.length<=l.length+1/\(∀ y,y∈r↔y∈l\/y=x):=by
 unfold pS;refine .aB (Ξ:=λz:Int=>∃ k:Nat,z=(k:Int)/\k<=l.length/\(∀ (i:Nat) (h:i<l.length),k<=i->iR x l[i]=true)/\∀ (h:0<k),iR x (l[k - 1]?.getD default)=false) ?_ λz aY=>?_
 ·refine Tot.count (λs=>-s) 1 (λs=>∃ k:Nat,s=(k:Int)/\k<=l.length/\∀ (i:Nat) (h:i<l.length),k<=i->iR x l[i]=true) ⟨l.length,rfl,Nat.le_refl _,λi h hk=>by omega⟩ (by show 1 - -(l.length:Int)<_; omega) λs aC=>?_;obtain ⟨k,rfl,hk,ub⟩:=aC;refine .aB (Ξ:=λc:Bool=>(c=true->0<k/\iR x (l[k - 1]?.getD default)=true)/\(c=false->∀ (h:0<k),iR x (l[k - 1]?.getD default)=false)) ?_ λc aa=>Tot.bF (λh=>?_) (λh=>.aq ⟨k,rfl,hk,ub,aa.2 h⟩)
  ·refine Tot.br (λh=>?_) (λh=>.aq ⟨λaQ=>(by cases aQ),λ_ aQ=>by omega⟩);have hb:k - 1<l.length:=by omega
   have hw:aK ((k:Int) - 1)=((k - 1:Nat):Int):=by rw [cI]; omega
   rw [hw,eu hb,List.getElem?_eq_getElem hb];simp only [Option.bind_some,Option.getD_some];exact .aq ⟨λaQ=>⟨by omega,aQ⟩,λaQ _=>aQ⟩
  ·obtain ⟨aR,h1⟩:=aa.1 h;refine .aq ⟨⟨k - 1,by rw [cI]; omega,by omega,λi hi Vp=>?_⟩,by show -(k:Int) < -aK _; rw [cI]; omega,by show -aK _<=1; rw [cI]; omega⟩
   grind
 ·obtain ⟨k,rfl,hk,ub,l6⟩:=aY;refine .aB (Ξ:=λc:Bool=>(c=true↔(0<k/\l[k - 1]?.getD default=x))) ?_ λc aa=>Tot.bF (λh=>?_) (λh=>?_)
  ·refine Tot.br (λh=>?_) (λh=>.aq ⟨λaQ=>(by cases aQ),λaQ=>by omega⟩);have hb:k - 1<l.length:=by omega
   have hw:aK ((k:Int) - 1)=((k - 1:Nat):Int):=by rw [cI]; omega
   rw [hw,eu hb,List.getElem?_eq_getElem hb];simp only [Option.bind_some,Option.getD_some];generalize l[k - 1]=y;refine .aq ?_
   grind
  ·obtain ⟨aR,h1⟩:=aa.1 h;have hb:k - 1<l.length:=by omega
   rw [List.getElem?_eq_getElem hb] at h1;have J:x∈l:=by rw [<- h1]; exact List.getElem_mem hb
   exact .aq ⟨ak,by omega,λy=>⟨.inl,λh=>h.elim id λe=>e ▸ J⟩⟩
  ·have dr:∀ (i:Nat) (hi:i<l.length),i<k->iR l[i] x=true:=by
    intro i hi Ir;have hb:k - 1<l.length:=by omega
    have l6:=l6 (by omega);have aF:l[k - 1]?.getD default≠x:=λe=>by rw [aa.2 ⟨by omega,e⟩] at h; cases h
    rw [List.getElem?_eq_getElem hb] at l6 aF;simp only [Option.getD_some] at l6 aF;have fX:iR l[k - 1] x=true:=by
     grind [iR]
    by_cases e:i=k - 1
    ·grind
    ·exact Fp.swo.trans _ _ _ (LG ak hi hb (by omega)) fX
   refine .aB (Ξ:=λz=>z=l.take k) (Tot.sub ⟨by omega,by omega,by omega⟩ (by simp)) λz aY=>?_;subst aY;refine .aB (Ξ:=λ_=>True) (Tot.ap (by simp [lim]; omega) trivial) λ_ _=>.aB (Ξ:=λ_=>True) (Tot.ap (by simp [lim]; omega) trivial) λ_ _=>?_;refine .aB (Ξ:=λz=>z=l.drop k) (Tot.sub ⟨by omega,by omega,by omega⟩ ?_) λz aY=>?_
   ·grind [List.take_of_length_le]
   subst aY;refine .aB (Ξ:=λ_=>True) (Tot.ap (by simp [lim]; omega) trivial) λ_ _=>.aq ?_;rw [List.nil_append];refine ⟨?_,?_,?_⟩
   ·have h1:∀ a∈l.take k,iR a x=true:=by
     grind [List.mem_iff_getElem]
    have af:∀ a∈l.drop k,iR x a=true:=by
     grind [List.mem_iff_getElem]
    unfold fS;rw [List.append_assoc,List.pairwise_append];refine ⟨List.Pairwise.sublist (List.take_sublist k l) ak,?_,λa aP b av=>?_⟩
    ·rw [List.singleton_append,List.pairwise_cons];exact ⟨af,List.Pairwise.sublist (List.drop_sublist k l) ak⟩
    ·rcases List.mem_append.1 av with av | av
     ·grind
     ·exact Fp.swo.trans _ _ _ (h1 a aP) (af b av)
   ·grind
   grind [List.take_append_drop]
theorem PT {α:Type}{l:List α}{k:Nat}{x:α}(hk:k<l.length) (i:Nat):(l.set k x)[i]?=if i=k then some x else l[i]?:=by
 rw [List.getElem?_set];by_cases e:k=i
 ·subst e; simp [hk]
 ·simp [e,Ne.symm e]
theorem Tc (x y:Item):(decide (x.Prod=y.Prod)&&(decide (x.fc=y.fc)&&true))=decide (x=y):=by
 obtain ⟨a8,x2⟩:=x;obtain ⟨bx,y2⟩:=y;simp
theorem RV (a b:List Item) (h:a.length<=1000000):Tot (CJ a b) λc=>(c=true↔a=b):=by
 unfold CJ;refine Tot.qe (λdr=>.aq ⟨λh=>(by cases h),λe=>absurd (by rw [e]) dr⟩) (λhe=>?_);have ak:a.length=b.length:=by omega
 refine Tot.aB (Ξ:=hK (λ_=>a=b) (λx:Bool=>x=false/\a≠b)) ?_ λx J=>?_
 ·refine Tot.count (λs=>s) a.length (λs=>∃ k:Nat,k<=a.length/\s=(k:Int)/\∀ (j:Nat) (h:j<a.length),j<k->a[j]=b[j]) ⟨0,Nat.zero_le _,rfl,λj _ ah=>absurd ah (Nat.not_lt_zero _)⟩ (by show (a.length:Int) - 0<_; omega) λs aC=>?_;obtain ⟨k,hk,rfl,k8⟩:=aC;rw [eQ k (by omega)];refine Tot.br (λaT=>?_) (λdU=>.aq ?_)
  ·have aT:k<a.length:=by omega
   have zs:k<b.length:=by omega
   rw [eu aT,eu zs];simp only [Option.bind_some,Tc];refine Tot.qe (λdr=>.aq ⟨rfl,λe=>dr (by subst e; rfl)⟩) (λheq=>.aq ⟨⟨k+1,by omega,rfl,λj ah gV=>?_⟩,by show (k:Int)<((k+1:Nat):Int); omega,by show ((k+1:Nat):Int)<=_; omega⟩);by_cases e:j=k
   ·subst e; exact heq
   ·exact k8 j ah (by omega)
  ·exact List.ext_getElem ak λi h1 af=>k8 i h1 (by omega)
 ·rcases x with _ | x
  ·exact .aq ⟨λ_=>J,λ_=>rfl⟩
  ·obtain ⟨rfl,dr⟩:x=false/\a≠b:=J;exact .aq ⟨λh=>(by cases h),λh=>absurd h dr⟩
def syms (g:bO):List Int:=(List.range g.ba.length).map (λk:Nat=>(k:Int))++(List.range g.b1.length).map (λk:Nat=>1000+(k:Int))
theorem L1 (g:bO) (a1:hf g):Tot (C2 g) λl=>l=syms g:=by
 have dL:=a1.kX;have bc:=a1.dz;unfold C2;refine .aB (Ξ:=λl:List Int=>l=(List.range g.ba.length).map (λk:Nat=>(k:Int))) ?_ λl ak=>?_
 ·refine Tot.upto (λs=>s.2) g.ba.length (λk s=>s.1=(List.range k).map (λk:Nat=>(k:Int))) rfl (by omega) rfl λk s hk he bf=>?_;obtain ⟨l,i⟩:=s;simp only at he bf ⊢;subst he bf;rw [eQ k (by omega)];refine Tot.br (λaT=>?_) (λdU=>.aq ?_)
  ·refine .aB (Ξ:=λ_=>True) (Tot.ap (by simp [lim]; omega) trivial) λ_ _=>.aq ⟨by omega,rfl,?_⟩;show _=(List.range (k+1)).map _;rw [List.range_succ,List.map_append]; rfl
  ·have:k=g.ba.length:=by omega
   subst this; rfl
 ·subst ak;refine .aB (Ξ:=λl:List Int=>l=syms g) ?_ λr ao=>.aq ao;refine Tot.upto (λs=>s.2) g.b1.length (λk s=>s.1=(List.range g.ba.length).map (λk:Nat=>(k:Int))++(List.range k).map (λk:Nat=>1000+(k:Int))) rfl (by omega) (by simp) λk s hk he bf=>?_;obtain ⟨l,i⟩:=s;simp only at he bf ⊢;subst he bf;rw [eQ k (by omega)];refine Tot.br (λaT=>?_) (λdU=>.aq ?_)
  ·refine .aB (Ξ:=λ_=>True) (Tot.ap (by simp [lim]; omega) trivial) λ_ _=>.aq ⟨by omega,rfl,?_⟩;have hw:aK (1000+(k:Int))=1000+(k:Int):=by rw [cI]; omega
   show _=_++(List.range (k+1)).map _;rw [hw,List.range_succ,List.map_append,List.append_assoc]; rfl
  ·have:k=g.b1.length:=by omega
   subst this; rfl
theorem YN (g:bO):(syms g).length=g.ba.length+g.b1.length:=by simp [syms]
theorem W7 {g:bO}{s:Int}:s∈syms g↔(0<=s/\s<g.ba.length)\/(1000<=s/\s<1000+g.b1.length):=by
 unfold syms;rw [List.mem_append,List.mem_map,List.mem_map];constructor
 ·rintro (⟨k,hk,rfl⟩ | ⟨k,hk,rfl⟩)
  ·rw [List.mem_range] at hk; exact .inl (by omega)
  ·rw [List.mem_range] at hk; exact .inr (by omega)
 ·rintro (h | h)
  ·exact .inl ⟨s.toNat,by rw [List.mem_range]; omega,by omega⟩
  ·exact .inr ⟨(s - 1000).toNat,by rw [List.mem_range]; omega,by omega⟩
theorem YO {g:bO}(a1:hf g):(syms g).Nodup:=by
 have aw:=a1.kX;unfold syms;rw [List.nodup_append];refine ⟨List.pairwise_map.2 ((List.nodup_range (n:=g.ba.length)).imp λ{a b} h e=>h (by omega)),List.pairwise_map.2 ((List.nodup_range (n:=g.b1.length)).imp λ{a b} h e=>h (by omega)),λa aP b av=>?_⟩;obtain ⟨i,hi,rfl⟩:=List.mem_map.1 aP;obtain ⟨j,ah,rfl⟩:=List.mem_map.1 av;rw [List.mem_range] at hi;omega
structure yL (g:bO) (K:List Item):Prop where
 a:fS gX K
 i:∀ x∈K,jf g x
theorem yL.len {g:bO}(a1:hf g) {K:List Item}(h:yL g K):K.length<=540:=tr a1 h.a h.i
theorem LZ (l:List Int) (x:Int) (h:l.length<=1000000):Tot (x5 l x) λc=>(c=true↔x∈l):=by
 unfold x5;refine .aB (Ξ:=hK (λ_=>x∉l) (λr:Bool=>r=true/\x∈l)) ?_ λr ao=>?_
 ·refine Tot.upto (λs=>s) l.length (λk s=>x∉l.take k) rfl (by omega) (by simp) λk s hk he bf=>?_;subst he;rw [eQ k (by omega)];refine Tot.br (λaT=>?_) (λdU=>.aq ?_)
  ·have aT:k<l.length:=by omega
   rw [eu aT];simp only [Option.bind_some];refine Tot.br (λe=>.aq ⟨rfl,by rw [<- e]; exact List.getElem_mem aT⟩) (λe=>.aq ⟨aT,rfl,?_⟩);rw [lV aT,List.mem_append,List.mem_singleton];exact λh=>h.elim bf λh=>e h.symm
  ·rw [List.take_of_length_le (by omega)] at bf;exact bf
 ·rcases r with r | r
  ·exact .aq ⟨λh=>(by cases h),λh=>absurd h ao⟩
  ·obtain ⟨rfl,h⟩:=ao;exact .aq ⟨λ_=>h,λ_=>rfl⟩
theorem Sd (m:List State) (k:List Item) (aR:m.length<=1000) (h1:∀ st∈m,st.Kernel.length<=1000000):Tot (C4 m k) λr=>-1<=r/\r<m.length:=by
 unfold C4;refine .aB (Ξ:=hK (λ_=>True) (λr:Int=>0<=r/\r<m.length)) ?_ λx J=>?_
 ·refine Tot.upto (λs=>s) m.length (λ_ _=>True) rfl (by omega) trivial λj s ah he _=>?_;subst he;rw [eQ j (by omega)];refine Tot.br (λaT=>?_) (λdU=>.aq trivial);have aT:j<m.length:=by omega
  rw [eu aT];refine Tot.aV (.aB (RV _ k (h1 _ (List.getElem_mem aT))) λc aa=>Tot.bF (λh=>.aq ⟨by omega,by omega⟩) (λh=>.aq ⟨aT,rfl,trivial⟩))
 ·rcases x with x | x
  ·exact .aq ⟨by omega,by omega⟩
  ·have J:0<=x/\x<m.length:=J;exact .aq ⟨by omega,by omega⟩
structure yP (g:bO) (n:Nat) (v:Move):Prop where
 s:v.Sym∈syms g
 t0:0<=v.jF
 t1:v.jF<n
structure mj (g:bO) (m:List State) (q j:Nat):Prop where
 gY:0<m.length
 nS:m.length<=150
 qB:∀ st∈m,yL g st.Kernel
 ms:∀ (i:Nat) (st:State),m[i]?=some st->(st.eX.map (·.Sym)).Sublist (if i<q then syms g else if i=q then (syms g).take j else [])
 aX:∀ st∈m,∀ v∈st.eX,yP g m.length v
structure mK (g:bO) (m:List State):Prop where
 gY:0<m.length
 nS:m.length<=150
 qB:∀ st∈m,yL g st.Kernel
 xI:∀ st∈m,st.eX.length<=64
 nd:∀ st∈m,(st.eX.map (·.Sym)).Nodup
 aX:∀ st∈m,∀ v∈st.eX,yP g m.length v
theorem yP.up {g:bO}{n cE:Nat}{v:Move}(h:yP g n v) (aF:n<=cE):yP g cE v:=⟨h.s,h.t0,by have:=h.t1; omega⟩
theorem mj.put {g:bO}{m:List State}{q j:Nat}(h:mj g m q j) {st:State}(bg:m[q]?=some st) {v:Move}(hv:yP g m.length v) (ah:(syms g)[j]?=some v.Sym):mj g (m.set q ⟨st.Kernel,st.eX++[v]⟩) q (j+1):=by
 have mZ:=(List.getElem?_eq_some_iff.1 bg).1;have hm:=List.mem_of_getElem? bg;refine ⟨by rw [List.length_set]; exact h.gY,by rw [List.length_set]; exact h.nS,λs aC=>?_,λi s aC=>?_,λs aC w hw=>?_⟩
 ·rcases List.mem_or_eq_of_mem_set aC with aQ | aQ
  ·exact h.qB s aQ
  ·rw [aQ]; exact h.qB st hm
 ·rw [PT mZ] at aC;by_cases e:i=q
  ·subst e;rw [if_pos rfl] at aC; cases aC;have:=h.ms i st bg;rw [if_neg (by omega),if_pos rfl] at this ⊢;rw [List.map_append,List.take_add_one,ah];exact this.append (List.Sublist.refl _)
  ·rw [if_neg e] at aC;have:=h.ms i s aC;rw [if_neg e] at this ⊢;exact this
 ·rw [List.length_set];rcases List.mem_or_eq_of_mem_set aC with aQ | aQ
  ·exact h.aX s aQ w hw
  ·rw [aQ] at hw;rcases List.mem_append.1 hw with hw | hw
   ·exact h.aX st hm w hw
   ·rw [List.mem_singleton.1 hw]; exact hv
theorem mj.more {g:bO}{m:List State}{q j:Nat}(h:mj g m q j) (ak:m.length<150) {K:List Item}(hk:yL g K):mj g (m++[⟨K,[]⟩]) q j:=by
 refine ⟨by simp,by simp; omega,λs aC=>?_,λi s aC=>?_,λs aC w hw=>?_⟩
 ·rcases List.mem_append.1 aC with aC | aC
  ·exact h.qB s aC
  ·rw [List.mem_singleton.1 aC]; exact hk
 ·by_cases e:i<m.length
  ·rw [List.getElem?_append_left e] at aC; exact h.ms i s aC
  ·rw [List.getElem?_append_right (by omega)] at aC;have:s=⟨K,[]⟩:=by
    have:=List.mem_of_getElem? aC;simpa using this
   rw [this]; exact List.nil_sublist _
 ·rcases List.mem_append.1 aC with aC | aC
  ·exact (h.aX s aC w hw).up (by simp)
  ·rw [List.mem_singleton.1 aC] at hw; cases hw
theorem mj.mono {g:bO}{m:List State}{q j vz:Nat}(h:mj g m q j) (ah:j<=vz):mj g m q vz:=by
 refine ⟨h.gY,h.nS,h.qB,λi s aC=>?_,h.aX⟩;have:=h.ms i s aC;split
 ·rename_i e; rw [if_pos e] at this; exact this
 ·rename_i e; rw [if_neg e] at this;split
  ·rename_i cj; rw [if_pos cj] at this;exact this.trans (List.take_sublist_take_left ah)
  ·rename_i cj; rw [if_neg cj] at this; exact this
theorem mj.next {g:bO}{m:List State}{q j:Nat}(h:mj g m q j):mj g m (q+1) 0:=by
 refine ⟨h.gY,h.nS,h.qB,λi s aC=>?_,h.aX⟩;have:=h.ms i s aC;by_cases e:i<q+1
 ·rw [if_pos e]
  split at this
  ·exact this
  ·split at this
   ·exact this.trans (List.take_sublist _ _)
   ·exact this.trans (List.nil_sublist _)
 ·rw [if_neg (by omega),if_neg (by omega)] at this;rw [if_neg e];exact this.trans (List.nil_sublist _)
theorem R6 (g:bO) (a1:hf g):Tot (Ai g) λr=>(r.2=0/\mK g r.1)\/r.2=4:=by
 have dL:=a1.kX;have bc:=a1.dz;have cx:=a1.ia;unfold Ai;refine Tot.aB (L1 g a1) λa8 h1=>?_;subst h1;have h7:=YN g;refine Tot.aB (Ξ:=hK (λm=>mj g m m.length 0) (λr:List State × Int=>r.2=4)) ?_ λx J=>?_
 ·refine Tot.loop (λs=>∃ q:Nat,s.2=(q:Int)/\q<=s.1.length/\mj g s.1 q 0) (λs=>151 - s.2.toNat) ⟨0,rfl,Nat.zero_le _,⟨by simp,by simp,λs aC=>?_,λi s aC=>?_,λs aC v hv=>?_⟩⟩ (by show 151 - 0<1000000000000000000; omega) λs b0=>?_
  ·rw [List.mem_singleton.1 aC];refine ⟨List.pairwise_singleton ..,λx J=>?_⟩;rw [List.mem_singleton.1 J];obtain ⟨q,bg⟩:∃ q,g.bh[0]?=some q:=⟨g.bh[0]'(by omega),List.getElem?_eq_getElem _⟩;exact Ov (p:=0) bg
  ·have:=List.mem_of_getElem? aC;rw [List.mem_singleton.1 this]; exact List.nil_sublist _
  ·rw [List.mem_singleton.1 aC] at hv; cases hv
  obtain ⟨q,he,bg,Bw⟩:=b0;obtain ⟨m,i⟩:=s;simp only at he bg Bw ⊢;subst he;have xd:=Bw.nS;rw [eQ q (by omega)];refine Tot.br (λaT=>?_) (λdU=>.aq ?_)
  ·have aT:q<m.length:=by omega
   rw [eu aT];have dj:=Bw.qB _ (List.getElem_mem aT);refine Tot.aV (Tot.aB (Hc g a1 _ (by have:=dj.len a1; omega)) λc aa=>?_);have ha:=tr a1 aa.1 λx J=>((aa.2 x).1 J).jf;refine Tot.aB (Ξ:=λl:List Int=>l.length<=1000) ?_ λRj ab1=>?_
   ·refine Tot.upto (λs=>s.2) c.length (λk s=>fS iR s.1/\s.1.length<=k) rfl (by omega) ⟨.nil,Nat.le_refl 0⟩ λk s hk he bf=>?_;obtain ⟨l,i⟩:=s;obtain ⟨g1,g2⟩:=bf;simp only at he g1 g2 ⊢;subst he;rw [eQ k (by omega)];refine Tot.br (λaT=>?_) (λdU=>.aq (show l.length<=1000 by omega));have aT:k<c.length:=by omega
    rw [eu aT];refine .aB (Ξ:=λl:List Int=>fS iR l/\l.length<=k+1) ?_ λo a1=>.aq ⟨aT,rfl,a1⟩;refine Tot.aV ?_;rw [Hl g _];refine Tot.aV (.aB (Ξ:=λl:List Int=>fS iR l/\l.length<=k+1) ?_ λo a1=>.aq a1);refine Tot.br (λau=>.aB (D8 l _ g1 (by omega)) λr ao=>.aq ⟨ao.1,by have:=ao.2.1; omega⟩) (λau=>.aq ⟨g1,by omega⟩)
   ·refine Tot.aB (Ξ:=hK (λm=>mj g m q (syms g).length/\q<m.length) (λr:List State × Int=>r.2=4)) ?_ λx J=>?_
    ·refine Tot.upto (λs=>s.2) (syms g).length (λk s=>mj g s.1 q k/\q<s.1.length) rfl (by omega) ⟨Bw,aT⟩ λk s hk he bf=>?_;obtain ⟨m,i⟩:=s;obtain ⟨tI,mZ⟩:=bf;simp only at he tI mZ ⊢;subst he;rw [eQ k (by omega)];have vi:=tI.nS;refine Tot.br (λaT=>?_) (λdU=>.aq ?_)
     ·have aT:k<(syms g).length:=by omega
      have nL:=List.getElem_mem aT;have pA:(syms g)[k]?=some (syms g)[k]:=List.getElem?_eq_getElem aT;rw [eu aT];generalize (syms g)[k]=s at *;refine Tot.aV (Tot.aB (LZ Rj s (by omega)) λcd _=>?_);refine Tot.bF (λ_=>.aq ⟨aT,rfl,tI.mono (by omega),mZ⟩) (λ_=>?_);have ob:m[q]?=some m[q]:=List.getElem?_eq_getElem mZ;have dj:=tI.qB _ (List.getElem_mem mZ);rw [eu mZ];generalize m[q]=st at *;refine Tot.aV (Tot.aV (Tot.aB (Sc g a1 st.Kernel s (by have:=dj.len a1; omega)) λDM zi=>?_));have h_:yL g DM:=⟨zi.1,λy ax=>((zi.2 y).1 ax).jf a1⟩;refine Tot.aB (Sd m DM (by omega) λt aw=>by have:=(tI.qB t aw).len a1; omega) λz aY=>?_;have VZ:=(tI.ms q st ob).length_le;rw [if_neg (by omega),if_pos rfl,List.length_map,List.length_take] at VZ;refine Tot.br (λacy=>Tot.br (λ_=>.aq rfl) (λNS=>?_)) (λsL=>?_)
      ·refine .aB (Ξ:=λ_=>True) (Tot.ap (by simp [lim]; omega) trivial) λ_ _=>?_;have Ug:=tI.more (by omega) h_;have NB:(m++[(⟨DM,[]⟩:State)])[q]?=some st:=by rw [List.getElem?_append_left mZ]; exact ob
       have BK:idx (m++[(⟨DM,[]⟩:State)]) (q:Int)=some st:=by simp only [idx,if_pos (show (0:Int)<=(q:Int) by omega),Int.toNat_natCast]; exact NB
       rw [BK];refine Tot.aV (Tot.aV ?_);refine .aB (Ξ:=λ_=>True) (Tot.ap (by simp [lim]; omega) trivial) λ_ _=>.aq ⟨aT,rfl,?_⟩;refine ⟨?_,by show q<(List.set _ _ _).length; rw [List.length_set]; simp; omega⟩;show mj g (List.set _ (q:Int).toNat _) q (k+1);rw [Int.toNat_natCast];exact Ug.put NB ⟨nL,by show (0:Int)<=(m.length:Int); omega,by show (m.length:Int)<_; simp; omega⟩ pA
      ·refine Tot.aV (Tot.aV ?_);refine .aB (Ξ:=λ_=>True) (Tot.ap (by simp [lim]; omega) trivial) λ_ _=>.aq ⟨aT,rfl,?_⟩;refine ⟨?_,by show q<(List.set _ _ _).length; rw [List.length_set]; exact mZ⟩;show mj g (List.set _ (q:Int).toNat _) q (k+1);rw [Int.toNat_natCast];exact tI.put ob ⟨nL,by show 0<=z; omega,aY.2⟩ pA
     ·have:k=(syms g).length:=by omega
      subst this;exact ⟨tI,mZ⟩
    ·rcases x with x | x
     ·obtain ⟨h1,af⟩:=J;refine .aq ⟨⟨q+1,rfl,af,h1.next⟩,?_⟩;show 151 - ((q+1:Nat):Int).toNat<151 - (q:Int).toNat;omega
     ·exact .aq J
  ·have:q=m.length:=by omega
   subst this;exact Bw
 ·rcases x with x | x
  ·have J:mj g x x.length 0:=J;have key:∀ st∈x,(st.eX.map (·.Sym)).Sublist (syms g):=λst b0=>by
    obtain ⟨i,hi⟩:=List.getElem?_of_mem b0;have:=J.ms i st hi;rw [if_pos (List.getElem?_eq_some_iff.1 hi).1] at this;exact this
   refine .aq (.inl ⟨rfl,J.gY,J.nS,J.qB,λst b0=>?_,λst b0=>(key st b0).nodup (YO a1),J.aX⟩);have:=(key st b0).length_le;rw [List.length_map] at this; omega
  ·exact .aq (.inr J)
theorem WL {α:Type}{m:List α}{q:Nat}{x:α}(h:m[q]?=some x):idx m (q:Int)=some x:=by simp [idx,h]
def GoTo (m:List State) (a s r:Int):Prop:=(r=-1/\∀ st,idx m a=some st->∀ v∈st.eX,v.Sym≠s)\/∃ st v,idx m a=some st/\v∈st.eX/\v.Sym=s/\r=v.jF
theorem D7 (m:List State) (a s:Int) (hm:∀ st∈m,st.eX.length<=64):Tot (rp m a s) (GoTo m a s):=by
 unfold rp;by_cases aR:0<=a/\a<(m.length:Int)
 ·obtain ⟨st,b0,nH⟩:=oi aR.1 aR.2;have ak:=hm st nH;have d1:decide (0<=a)=true:=decide_eq_true aR.1;have d2:decide (a<(m.length:Int))=true:=decide_eq_true aR.2;rw [d1,d2];simp only [cond_true,b0,Option.bind_some];refine .aB (Ξ:=hK (λ_=>∀ v∈st.eX,v.Sym≠s) (λr:Int=>∃ v,v∈st.eX/\v.Sym=s/\r=v.jF)) ?_ λx J=>?_
  ·refine Tot.upto (λs=>s) st.eX.length (λk _=>∀ v∈st.eX.take k,v.Sym≠s) rfl (by omega) (by simp) λk i hk he bf=>?_;subst he;rw [eQ k (by omega)];refine Tot.br (λaT=>?_) (λdU=>.aq (by
    show ∀ v∈st.eX,v.Sym≠s;rw [List.take_of_length_le (by omega)] at bf; exact bf))
   have aT:k<st.eX.length:=by omega
   rw [eu aT];simp only [Option.bind_some];refine Tot.br (λe=>.aq ⟨_,List.getElem_mem aT,e,rfl⟩) (λe=>.aq ⟨aT,rfl,λv hv=>?_⟩);rw [lV aT,List.mem_append,List.mem_singleton] at hv;rcases hv with hv | rfl
   ·exact bf v hv
   ·exact e
  ·rcases x with x | x
   ·exact .aq (.inl ⟨rfl,λP' aQ=>by rw [b0] at aQ; cases aQ; exact J⟩)
   ·obtain ⟨v,h1,af,aI⟩:=J;exact .aq (.inr ⟨st,v,b0,h1,af,aI⟩)
 ·refine .aB (Ξ:=hK (λ_=>True) (λ_:Int=>False)) (Tot.loop (λ_=>True) (λ_=>0) trivial (by show 0<1000000000000000000; omega) λi _=>?_) λx J=>?_
  ·refine .aB (Ξ:=λc=>c=false) ?_ λc aa=>by subst aa; exact .aq trivial
   refine Tot.br (λh1=>Tot.br (λaf=>absurd ⟨h1,af⟩ aR) (λ_=>.aq rfl)) (λ_=>.aq rfl)
  ·rcases x with x | x
   ·refine .aq (.inl ⟨rfl,λst aQ=>absurd ⟨(nb aQ).1,(nb aQ).2.1⟩ aR⟩)
   ·exact J.elim
theorem GoTo.aL {g:bO}{m:List State}(hm:mK g m) {a s r:Int}(h:GoTo m a s r):-1<=r/\r<m.length:=by
 rcases h with ⟨rfl,_⟩ | ⟨st,v,h1,af,_,rfl⟩
 ·have:=hm.gY; exact ⟨by omega,by omega⟩
 ·have:=hm.aX st (nb h1).2.2 v af;exact ⟨by have:=this.t0; omega,this.t1⟩
theorem GoTo.yes {g:bO}{m:List State}(hm:mK g m) {a s r:Int}(h:GoTo m a s r) {st:State}{v:Move}(aC:idx m a=some st) (hv:v∈st.eX) (e:v.Sym=s):0<=r/\r<m.length:=by
 rcases h with ⟨rfl,h⟩ | ⟨st,v,h1,af,_,rfl⟩
 ·exact absurd e (h st aC v hv)
 ·have:=hm.aX st (nb h1).2.2 v af;exact ⟨this.t0,this.t1⟩
theorem L3 {g:bO}{m:List State}(hm:mK g m) (a:Int) (l:List Int) (aP:-1<=a/\a<m.length) (ak:l.length<=1000):Tot (An m a l) λr=>-1<=r/\r<m.length:=by
 unfold An;refine .aB (Ξ:=λr:Int=>-1<=r/\r<m.length) ?_ λr ao=>.aq ao;refine Tot.upto (λs=>s.2) l.length (λ_ s=>-1<=s.1/\s.1<m.length) rfl (by omega) aP λk s hk he bf=>?_;obtain ⟨r,i⟩:=s;simp only at he bf ⊢;subst he;rw [eQ k (by omega)];refine .aB (Ξ:=λc=>c=true->k<l.length) (Tot.br (λh=>.aq λ_=>by omega) (λ_=>.aq λh=>by cases h)) λc aa=>Tot.bF (λh=>?_) (λ_=>.aq bf);have aT:=aa h;rw [eu aT];exact Tot.aV (.aB (D7 m r _ hm.xI) λz aY=>.aq ⟨aT,rfl,aY.aL hm⟩)
def uV (m:List State) (t:Trans):Prop:=∃ st v,idx m t.State=some st/\v∈st.eX/\v.Sym=t.fE/\1000<=t.fE
structure wo (m:List State) (l:List Trans):Prop where
 n:l.length<=9600
 ok:∀ t∈l,uV m t
 fm:∀ (q:Nat) (st:State) (v:Move),m[q]?=some st->v∈st.eX->1000<=v.Sym->(⟨q,v.Sym⟩:Trans)∈l
theorem Sh {g:bO}{m:List State}(hm:mK g m):Tot (qG m) (wo m):=by
 have aF:=hm.nS;unfold qG;refine .aB (Ξ:=wo m) ?_ λr ao=>.aq ao;refine Tot.upto (λs=>s.2) m.length (λk s=>s.1.length<=64 * k/\(∀ t∈s.1,uV m t)/\∀ (q:Nat) (st:State) (v:Move),q<k->m[q]?=some st->v∈st.eX->1000<=v.Sym->(⟨q,v.Sym⟩:Trans)∈s.1) rfl (by omega) ⟨Nat.le_refl 0,λt h=>(by cases h),λq _ _ h=>absurd h (Nat.not_lt_zero _)⟩ λk s hk he bf=>?_;obtain ⟨l,i⟩:=s;obtain ⟨h1,af,aI⟩:=bf;simp only at he h1 af aI ⊢;subst he;rw [eQ k (by omega)];refine Tot.br (λaT=>?_) (λdU=>.aq ⟨?_,af,λq st v bg=>aI q st v ?_ bg⟩)
 ·have aT:k<m.length:=by omega
  have ob:m[k]?=some m[k]:=List.getElem?_eq_getElem aT;have nH:=List.getElem_mem aT;rw [eu aT];generalize m[k]=st at *;have vi:=hm.xI st nH;simp only [Option.bind_some];refine .aB (Ξ:=λvA:List Trans=>vA.length<=64 * (k+1)/\(∀ t∈vA,uV m t)/\(∀ t∈l,t∈vA)/\∀ v∈st.eX,1000<=v.Sym->(⟨k,v.Sym⟩:Trans)∈vA) ?_ λvA hV=>.aq ⟨aT,rfl,hV.1,hV.2.1,λq P' v bg bK cG eh=>?_⟩
  ·refine Tot.upto (λs=>s.2) st.eX.length (λj s=>s.1.length<=64 * k+j/\(∀ t∈s.1,uV m t)/\(∀ t∈l,t∈s.1)/\∀ v∈st.eX.take j,1000<=v.Sym->(⟨k,v.Sym⟩:Trans)∈s.1) rfl (by omega) ⟨h1,af,λ_ h=>h,λv hv=>by simp at hv⟩ λj s ah he bf=>?_;obtain ⟨o,i⟩:=s;obtain ⟨g1,g2,g3,g4⟩:=bf;simp only at he g1 g2 g3 g4 ⊢;subst he;rw [eQ j (by omega)];refine Tot.br (λaT=>?_) (λdU=>.aq ⟨by show o.length<=_; omega,g2,g3,by
    rw [List.take_of_length_le (by omega)] at g4; exact g4⟩)
   have aT:j<st.eX.length:=by omega
   have gj:=lV aT;have EM:=List.getElem_mem aT;rw [eu aT];generalize st.eX[j]=v at *;simp only [Option.bind_some];refine .aB (Ξ:=λo:List Trans=>o.length<=64 * k+(j+1)/\(∀ t∈o,uV m t)/\(∀ t∈l,t∈o)/\∀ v∈st.eX.take (j+1),1000<=v.Sym->(⟨k,v.Sym⟩:Trans)∈o) ?_ λo a1=>.aq ⟨aT,rfl,a1⟩;refine .aB (Ξ:=λo:List Trans=>o.length<=64 * k+(j+1)/\(∀ t∈o,uV m t)/\(∀ t∈l,t∈o)/\∀ v∈st.eX.take (j+1),1000<=v.Sym->(⟨k,v.Sym⟩:Trans)∈o) (Tot.br (λh=>?_) (λh=>.aq ⟨by omega,g2,g3,λw hw aC=>?_⟩)) λo a1=>.aq a1
   ·refine .aB (Ξ:=λ_=>True) (Tot.ap (by simp [lim]; omega) trivial) λ_ _=>.aq ⟨by simp; omega,λt aw=>?_,λt aw=>List.mem_append_left _ (g3 t aw),λw hw aC=>?_⟩
    ·rcases List.mem_append.1 aw with aw | aw
     ·exact g2 t aw
     ·rw [List.mem_singleton.1 aw];exact ⟨st,v,WL ob,EM,rfl,h⟩
    ·rw [gj,List.mem_append,List.mem_singleton] at hw;rcases hw with hw | rfl
     ·exact List.mem_append_left _ (g4 w hw aC)
     ·simp
   ·rw [gj,List.mem_append,List.mem_singleton] at hw;rcases hw with hw | rfl
    ·exact g4 w hw aC
    ·exact absurd aC h
  ·by_cases e:q=k
   ·subst e;rw [ob] at bK; cases bK;exact hV.2.2.2 v cG eh
   ·exact hV.2.2.1 _ (aI q P' v (by omega) bK cG eh)
 ·show l.length<=9600;omega
 ·have:=(List.getElem?_eq_some_iff.1 bg).1;omega
theorem A_ (l:List Trans) (a n:Int) (ak:l.length<=9600):Tot (zZ l a n) λr=>-1<=r/\r<l.length/\((⟨a,n⟩:Trans)∈l->0<=r):=by
 unfold zZ;refine .aB (Ξ:=hK (λ_=>(⟨a,n⟩:Trans)∉l) (λr:Int=>0<=r/\r<l.length)) ?_ λx J=>?_
 ·refine Tot.upto (λs=>s) l.length (λk _=>(⟨a,n⟩:Trans)∉l.take k) rfl (by omega) (by simp) λk i hk he bf=>?_;subst he;rw [eQ k (by omega)];refine Tot.br (λaT=>?_) (λdU=>.aq (by
   show (⟨a,n⟩:Trans)∉l;rw [List.take_of_length_le (by omega)] at bf; exact bf))
  have aT:k<l.length:=by omega
  have gj:=lV aT;rw [eu aT];generalize l[k]=y at *;simp only [Option.bind_some];refine .aB (Ξ:=λc:Bool=>c=false->y≠⟨a,n⟩) (Tot.br (λh=>.aq λaQ e=>?_) (λh=>.aq λ_ e=>h (by rw [e]))) λc aa=>Tot.bF (λh=>.aq ⟨by show (0:Int)<=k; omega,by show (k:Int)<_; omega⟩) (λh=>.aq ⟨aT,rfl,?_⟩)
  ·have:=of_decide_eq_false aQ;exact this (by rw [e])
  ·rw [gj,List.mem_append,List.mem_singleton];exact λaQ=>aQ.elim bf λe=>aa h e.symm
 ·rcases x with x | x
  ·refine .aq ⟨by omega,by omega,λh=>absurd h J⟩
  ·have J:0<=x/\x<l.length:=J;exact .aq ⟨by omega,J.2,λ_=>J.1⟩
theorem RW (l:List Item) (ak:l.length<=1000000):Tot (CK l) λ_=>True:=by
 unfold CK;refine .aB (Ξ:=λ_=>True) ?_ λx J=>by
  rcases x with x | x
  ·exact .aq trivial
  ·exact .aq trivial
 refine Tot.upto (λs=>s) l.length (λ_ _=>True) rfl (by omega) trivial λk i hk he _=>?_;subst he;rw [eQ k (by omega)];refine Tot.br (λaT=>?_) (λ_=>.aq trivial);have aT:k<l.length:=by omega
 rw [eu aT];simp only [Option.bind_some];refine .aB (Ξ:=λ_=>True) (Tot.br (λ_=>.aq trivial) (λ_=>.aq trivial)) λc _=>Tot.bF (λ_=>.aq trivial) (λ_=>.aq ⟨aT,rfl,trivial⟩)
theorem LW (B:List Bool) (l:List Int) (ak:l.length<=1000) (h:∀ s∈l,s<1000\/(1000<=s/\s - 1000<B.length)) (fj:B.length<=1000):Tot (z1 B l) λ_=>True:=by
 unfold z1;refine .aB (Ξ:=λ_=>True) ?_ λx J=>by
  rcases x with x | x
  ·exact .aq trivial
  ·exact .aq trivial
 refine Tot.upto (λs=>s) l.length (λ_ _=>True) rfl (by omega) trivial λk i hk he _=>?_;subst he;rw [eQ k (by omega)];refine Tot.br (λaT=>?_) (λ_=>.aq trivial);have aT:k<l.length:=by omega
 have ax:=h _ (List.getElem_mem aT);rw [eu aT];generalize l[k]=y at *;simp only [Option.bind_some];refine .aB (Ξ:=λ_=>True) (Tot.br (λ_=>.aq trivial) (λh1=>?_)) λc _=>Tot.bF (λ_=>.aq trivial) (λ_=>.aq ⟨aT,rfl,trivial⟩);have hw:aK (y - 1000)=y - 1000:=by rw [cI]; omega
 rw [hw];obtain ⟨b,av,_⟩:=oi (l:=B) (i:=y - 1000) (by omega) (by omega);rw [av];exact .aq trivial
theorem Pv {g:bO}(aO:hf g) {q:Prod}(bg:q∈g.bh) {B:List Bool}(fj:B.length=g.b1.length):∀ s∈q.eI,s<1000\/(1000<=s/\s - 1000<B.length):=λs aC=>by
 have aw:=aO.kX;have aF:=aO.dz;rcases (aO.hq q bg).right s aC with h | h <;> omega
theorem LV (g:bO) (aO:hf g):Tot (zY g) λB=>B.length=g.b1.length:=by
 have aw:=aO.kX;have aF:=aO.dz;have au:=aO.ia;unfold zY;refine .aB (Ξ:=λB=>B=List.replicate g.b1.length false) (Tot.mk (by simp [lim]; omega) (by simp)) λZz TZ=>?_;subst TZ;refine .aB (Ξ:=λB:List Bool=>B.length=g.b1.length) ?_ λB fj=>.aq fj;refine Tot.loop (λs=>s.1.length=g.b1.length) (λs=>2 * (g.b1.length - hn s.1)+s.2.toNat) (by simp) (by
  show 2 * (g.b1.length - hn _)+1<1000000000000000000; omega) λs aC=>?_
 obtain ⟨B,f⟩:=s;simp only at aC ⊢;refine Tot.bF (λaW=>?_) (λ_=>.aq aC);subst aW;refine .aB (Ξ:=λr:List Bool × Bool=>r.1.length=g.b1.length/\hn B<=hn r.1/\(r.2=true->hn B<hn r.1)) ?_ λr ao=>?_
 ·refine Tot.upto (λs=>s.2.2) g.bh.length (λ_ s=>s.1.length=g.b1.length/\hn B<=hn s.1/\(s.2.1=true->hn B<hn s.1)) rfl (by omega) ⟨aC,Nat.le_refl _,λh=>by cases h⟩ λk s hk he bf=>?_;obtain ⟨C,f,i⟩:=s;obtain ⟨h1,af,aI⟩:=bf;simp only at he h1 af aI ⊢;subst he;rw [eQ k (by omega)];refine Tot.br (λaT=>?_) (λdU=>.aq ⟨h1,af,aI⟩);have aT:k<g.bh.length:=by omega
  have mZ:=List.getElem_mem aT;rw [eu aT];generalize g.bh[k]=q at *;have bg:=aO.hq q mZ;have NY:=bg.left;obtain ⟨b,av,_⟩:=oi (l:=C) (i:=q.Left) NY.1 (by omega);simp only [Option.bind_some,av];refine .aB (Ξ:=λr:List Bool × Bool=>r.1.length=g.b1.length/\hn B<=hn r.1/\(r.2=true->hn B<hn r.1)) ?_ λr ao=>.aq ⟨aT,rfl,ao⟩;refine .aB (Ξ:=λc:Bool=>c=true->b=false) ?_ λc aa=>?_
  ·cases b with
   | true=>exact .aq λh=>by cases h
   | false =>
    refine .aB (LW C q.eI (by have:=aO.aH q mZ; omega) (Pv aO mZ h1) (by omega)) λ_ _=>.aq λ_=>rfl
  ·refine .aB (Ξ:=λr:List Bool × Bool=>r.1.length=g.b1.length/\hn B<=hn r.1/\(r.2=true->hn B<hn r.1)) (Tot.bF (λh=>.aq ?_) (λh=>.aq ⟨h1,af,aI⟩)) λr ao=>.aq ao;have UY:=aa h;subst UY;have zr:q.Left.toNat<C.length:=by omega
   have ob:C.getD q.Left.toNat false=false:=by
    unfold idx at av;rw [if_pos NY.1] at av;rw [List.getD_eq_getElem?_getD,av]; rfl
   have:=wN C q.Left.toNat zr ob;exact ⟨by rw [List.length_set]; exact h1,by show hn B<=hn (C.set _ _); omega,λ_=>by show hn B<hn (C.set _ _); omega⟩
 ·obtain ⟨h1,af,aI⟩:=ao;refine .aq ⟨h1,?_⟩;have aa:=Sp r.1;show 2 * (g.b1.length - hn r.1)+r.2.toNat<2 * (g.b1.length - hn B)+true.toNat;cases iN:r.2 with
  | false=>simp only [Bool.toNat_false,Bool.toNat_true]; omega
  | true =>
   have:=aI iN;simp only [Bool.toNat_true]; omega
structure jn (T:Nat) (r:List Int):Prop where
 a:fS iR r
 i:∀ x∈r,0<=x/\x<T
theorem jn.len {T:Nat}{r:List Int}(h:jn T r):r.length<=T:=by
 have:=zO (m:=(List.range T).map λk:Nat=>(k:Int)) (h.a.nd Fp) λx J=>by
  have:=h.i x J;exact List.mem_map.2 ⟨x.toNat,by rw [List.mem_range]; omega,by omega⟩
 grind
theorem jn.nil {T:Nat}:jn T []:=⟨.nil,λx h=>by cases h⟩
theorem jn.put {T:Nat}(dL:T<=100000) {r:List Int}(h:jn T r) {x:Int}(J:0<=x/\x<T):Tot (pS r x) λdn=>jn T dn/\r.length<=dn.length:=by
 have ak:=h.len;refine (D8 r x h.a (by omega)).use λdn ec=>⟨⟨ec.1,λy ax=>?_⟩,zO (h.a.nd Fp) λy ax=>(ec.2.2 y).2 (.inl ax)⟩;rcases (ec.2.2 y).1 ax with aQ | rfl
 ·exact h.i y aQ
 grind
def mD (L:List (List Int)) (i:Nat):Nat:=(L.getD i []).length
def ji (L:List (List Int)):Nat:=(L.map List.length).sum
theorem Qi:∀ (L L':List (List Int)),L.length=L'.length->(∀ i,mD L i<=mD L' i)->ji L<=ji L'/\((∃ i,mD L i<mD L' i)->ji L<ji L')
 | [],[],_,_=>⟨Nat.le_refl _,λ⟨i,h⟩=>absurd h (Nat.lt_irrefl _)⟩
 | a::L,b::L',ak,h=>by
  obtain ⟨h1,af⟩:=Qi L L' (by simpa using ak) λi=>by simpa [mD] using h (i+1)
  have aR:a.length<=b.length:=by simpa [mD] using h 0
  have cA:ji (a::L)=a.length+ji L:=by simp [ji]
  have cf:ji (b::L')=b.length+ji L':=by simp [ji]
  rw [cA,cf];refine ⟨by omega,λ⟨i,hi⟩=>?_⟩;cases i with
  | zero =>
   have:a.length<b.length:=by simpa [mD] using hi
   omega
  | succ i =>
   have:=af ⟨i,by simpa [mD] using hi⟩;omega
def Sets (T:Nat) (L:List (List Int)):Prop:=∀ r∈L,jn T r
theorem Qh {T:Nat}:∀ {L:List (List Int)},Sets T L->ji L<=L.length * T
 | [],_=>by simp [ji]
 | a::L,h=>by
  have h1:=(h a (by simp)).len;have af:=Qh (L:=L) λr ao=>h r (by simp [ao]);have cA:ji (a::L)=a.length+ji L:=by simp [ji]
  rw [cA,List.length_cons,Nat.succ_mul]; omega
structure pb (T:Nat) (L L':List (List Int)):Prop where
 n:L'.length=L.length
 s:Sets T L'
 u:∀ i,mD L i<=mD L' i
theorem pb.refl {T:Nat}{L:List (List Int)}(h:Sets T L):pb T L L:=⟨rfl,h,λ_=>Nat.le_refl _⟩
theorem pb.trans {T:Nat}{A B C:List (List Int)}(h:pb T A B) (aQ:pb T B C):pb T A C:=⟨aQ.n.trans h.n,aQ.s,λi=>Nat.le_trans (h.u i) (aQ.u i)⟩
theorem pb.set {T:Nat}{L:List (List Int)}{k:Nat}{r dn:List Int}(aC:Sets T L) (hk:L[k]?=some r) (h:jn T dn) (ak:r.length<=dn.length):pb T L (L.set k dn):=by
 have fw:=(List.getElem?_eq_some_iff.1 hk).1;refine ⟨List.length_set ..,λx J=>?_,λi=>?_⟩
 ·rcases List.mem_or_eq_of_mem_set J with aQ | aQ
  ·exact aC x aQ
  grind
 grind [mD]
theorem WM {L:List (List Int)}{k:Nat}{r:List Int}(h:L[k]?=some r):mD L k=r.length:=by
 grind [mD]
theorem WK {α:Type}{l:List α}{i:Int}{y:α}(h:idx l i=some y):l[i.toNat]?=some y:=by
 grind [idx]
theorem L2 (T:Nat) (dL:T<=1000) (a0 aE:List (List Int)) (aF:a0.length<=9600) (he:aE.length=a0.length) (aR:Sets T a0) (h1:Sets a0.length aE):Tot (Am a0 aE) λr=>r.length=a0.length/\Sets T r:=by
 unfold Am;refine .aB (Ξ:=λr:List (List Int)=>r.length=a0.length/\Sets T r) ?_ λr ao=>.aq ao;have av:a0.length * T<=9600 * 1000:=Nat.mul_le_mul aF dL;refine Tot.loop (λs=>s.1.length=a0.length/\Sets T s.1) (λs=>2 * (a0.length * T - ji s.1)+s.2.toNat) ⟨rfl,aR⟩ (by
  show 2 * (a0.length * T - ji _)+1<1000000000000000000;omega) λs aC=>?_
 obtain ⟨L,f⟩:=s;obtain ⟨ak,aC⟩:=aC;simp only at ak aC ⊢;refine Tot.bF (λaW=>?_) (λ_=>.aq ⟨ak,aC⟩);subst aW;refine .aB (Ξ:=λr:List (List Int) × Bool=>pb T L r.1/\(r.2=true->∃ i,mD L i<mD r.1 i)) ?_ λr ao=>?_
 ·refine Tot.upto (λs=>s.2.2) L.length (λ_ s=>pb T L s.1/\(s.2.1=true->∃ i,mD L i<mD s.1 i)) rfl (by omega) ⟨.refl aC,λh=>by cases h⟩ λk s hk h9 bf=>?_;obtain ⟨C,f,i⟩:=s;obtain ⟨hu,sG⟩:=bf;simp only at h9 hu sG ⊢;subst h9;rw [eQ k (by omega)];have N7:=hu.n;refine Tot.br (λaT=>?_) (λdU=>.aq ⟨hu,sG⟩);have NJ:k<C.length:=by omega
  have hb:k<aE.length:=by omega
  have ab9:C[k]?=some C[k]:=List.getElem?_eq_getElem NJ;have qp:=h1 _ (List.getElem_mem hb);rw [eu hb,eu NJ];generalize aE[k]=row at *;generalize C[k]=nj at *;simp only [Option.bind_some];have l7:=qp.len;refine .aB (Ξ:=λD:List (List Int)=>pb T C D) ?_ λD jJ=>?_
  ·refine Tot.upto (λs=>s.2) row.length (λ_ s=>pb T C s.1) rfl (by omega) (.refl hu.s) λj s ah h9 bf=>?_;obtain ⟨D,i⟩:=s;simp only at h9 bf ⊢;subst h9;rw [eQ j (by omega)];have T4:=bf.n;refine Tot.br (λaT=>?_) (λ_=>.aq bf);have aT:j<row.length:=by omega
   have ax:=qp.i _ (List.getElem_mem aT);rw [eu aT];generalize row[j]=y at *;simp only [Option.bind_some];refine .aB (Ξ:=λE:List (List Int)=>pb T C E) ?_ λE k8=>.aq ⟨aT,rfl,k8⟩;refine Tot.count (λs=>s.2) T (λs=>∃ n:Nat,s.2=(n:Int)/\pb T C s.1) ⟨0,rfl,bf⟩ (by show (T:Int) - 0<_; omega) λs aC=>?_;obtain ⟨E,i⟩:=s;obtain ⟨n,EB,k8⟩:=aC;simp only at EB k8 ⊢;subst EB;have abV:=k8.n;obtain ⟨z,aY,WH⟩:=oi (l:=E) (i:=y) ax.1 (by omega);have pH:=k8.s z WH;have vv:=pH.len;have Iv:k<E.length:=by omega
   have Ve:E[k]?=some E[k]:=List.getElem?_eq_getElem Iv;rw [aY];simp only [Option.bind_some];refine Tot.br (λaT=>?_) (λ_=>.aq k8);have aT:n<z.length:=by omega
   rw [eQ n (by omega),eu Iv,eu aT];simp only [Option.bind_some];refine .aB ((k8.s _ (List.getElem_mem Iv)).put (by omega) (pH.i _ (List.getElem_mem aT))) λdn ec=>.aq ⟨⟨n+1,rfl,?_⟩,by show (n:Int)<((n+1:Nat):Int); omega,by show ((n+1:Nat):Int)<=T; omega⟩;exact k8.trans (.set k8.s Ve ec.1 ec.2)
  ·have T4:=jJ.n;have NK:k<D.length:=by omega
   have ab_:D[k]?=some D[k]:=List.getElem?_eq_getElem NK;have zA:=hu.trans jJ;refine .aB (Ξ:=λc:Bool=>c=true->∃ i,mD L i<mD D i) ?_ λc aa=>.aq ⟨by omega,rfl,zA,aa⟩;refine Tot.bF (λaW=>.aq λ_=>?_) (λ_=>?_)
   ·obtain ⟨i,hi⟩:=sG aW;exact ⟨i,Nat.lt_of_lt_of_le hi (jJ.u i)⟩
   ·rw [eu NK];refine Tot.aV (.aq λh=>⟨k,?_⟩);have aI:=jJ.u k;have bK:=hu.u k
    grind [WM]
 ·obtain ⟨hu,aW⟩:=ao;have B1:=hu.n;obtain ⟨aI,bK⟩:=Qi L r.1 B1.symm hu.u;have cG:=Qh hu.s;rw [show r.1.length=a0.length by omega] at cG;refine .aq ⟨⟨by show r.1.length=_; omega,hu.s⟩,?_⟩;show 2 * (a0.length * T - ji r.1)+r.2.toNat<2 * (a0.length * T - ji L)+true.toNat;cases iN:r.2 with
  | false=>simp only [Bool.toNat_false,Bool.toNat_true]; omega
  | true =>
   grind
theorem mK.sym {g:bO}(aO:hf g) {m:List State}(hm:mK g m) {st:State}(b0:st∈m) {v:Move}(hv:v∈st.eX):0<=v.Sym/\(v.Sym<1000->v.Sym<g.ba.length)/\(1000<=v.Sym->v.Sym - 1000<g.b1.length):=by
 have aw:=aO.kX;rcases W7.1 (hm.aX st b0 v hv).s with h | h
 ·exact ⟨h.1,λ_=>h.2,λaQ=>by omega⟩
 ·exact ⟨by omega,λaQ=>by omega,λ_=>by omega⟩
theorem uV.go {g:bO}{m:List State}(hm:mK g m) {t:Trans}(h:uV m t):Tot (rp m t.State t.fE) λr=>0<=r/\r<m.length:=by
 obtain ⟨st,v,h1,af,aI,_⟩:=h;exact (D7 m t.State t.fE hm.xI).use λr ao=>ao.yes hm h1 af aI
theorem PW {T:Nat}{L:List (List Int)}{r:List Int}(h:Sets T L) (ao:jn T r):Sets T (L++[r]):=λx J=>by
 rcases List.mem_append.1 J with J | J
 ·exact h x J
 ·rw [List.mem_singleton.1 J]; exact ao
theorem Se (g:bO) (aO:hf g) {m:List State}(hm:mK g m):Tot (C5 m) λr=>∃ dC,qG m=some dC/\wo m dC/\r.length=dC.length/\Sets g.ba.length r:=by
 have aw:=aO.kX;obtain ⟨dC,qi,iF⟩:=Sh hm;have xh:=iF.n;unfold C5;rw [qi];refine Tot.aV (.aB (Ξ:=λr:List (List Int)=>r.length=dC.length/\Sets g.ba.length r) ?_ λr ao=>.aq ⟨dC,rfl,iF,ao⟩);refine Tot.upto (λs=>s.2) dC.length (λk s=>s.1.length=k/\Sets g.ba.length s.1) rfl (by omega) ⟨rfl,λr h=>by cases h⟩ λk s hk he bf=>?_;obtain ⟨L,i⟩:=s;obtain ⟨h1,af⟩:=bf;simp only at he h1 af ⊢;subst he;rw [eQ k (by omega)];refine Tot.br (λaT=>?_) (λdU=>.aq ⟨by show L.length=_; omega,af⟩);have aT:k<dC.length:=by omega
 have gj:=iF.ok _ (List.getElem_mem aT);rw [eu aT];generalize dC[k]=t at *;simp only [Option.bind_some];refine .aB (gj.go hm) λto B7=>?_;obtain ⟨st,b0,nL⟩:=oi B7.1 B7.2;have dj:=hm.qB st nL;have vi:=hm.xI st nL;rw [b0];simp only [Option.bind_some];refine .aB (RW _ (by have:=dj.len aO; omega)) λc _=>?_;refine .aB (Ξ:=jn g.ba.length) (Tot.bF (λ_=>?_) (λ_=>.aq .nil)) λAs zw=>?_
 ·refine .aB (Ξ:=λ_=>True) (Tot.ap (by simp [lim]) trivial) λ_ _=>.aq ⟨List.pairwise_singleton ..,λx J=>?_⟩;rw [List.mem_singleton.1 J]; omega
 refine .aB (Ξ:=jn g.ba.length) ?_ λr ao=>?_
 ·refine Tot.upto (λs=>s.2) st.eX.length (λk s=>jn g.ba.length s.1) rfl (by omega) zw λj s ah he bf=>?_;obtain ⟨r,i⟩:=s;simp only at he bf ⊢;subst he;rw [eQ j (by omega)];refine Tot.br (λaT=>?_) (λ_=>.aq bf);have aT:j<st.eX.length:=by omega
  have hv:=hm.sym aO nL (List.getElem_mem aT);rw [eu aT];generalize st.eX[j]=v at *;simp only [Option.bind_some];refine .aB (Ξ:=jn g.ba.length) ?_ λr ao=>.aq ⟨aT,rfl,ao⟩;refine .aB (Ξ:=jn g.ba.length) (Tot.br (λh=>?_) (λ_=>.aq bf)) λr ao=>.aq ao;exact .aB (bf.put (by omega) ⟨hv.1,hv.2.1 h⟩) λr ao=>.aq ao.1
 ·refine .aB (Ξ:=λ_=>True) (Tot.ap (by simp [lim]; omega) trivial) λ_ _=>.aq ⟨aT,rfl,by simp; omega,PW af ao⟩
theorem Sf (g:bO) (aO:hf g) {m:List State}(hm:mK g m) {dC:List Trans}(qi:qG m=some dC) (iF:wo m dC):Tot (C6 g m) λr=>r.length=dC.length/\Sets dC.length r:=by
 have aw:=aO.kX;have kO:=aO.dz;have xh:=iF.n;unfold C6;rw [qi];refine Tot.aV (.aB (LV g aO) λB fj=>.aB (Ξ:=λr:List (List Int)=>r.length=dC.length/\Sets dC.length r) ?_ λr ao=>.aq ao);refine Tot.upto (λs=>s.2) dC.length (λk s=>s.1.length=k/\Sets dC.length s.1) rfl (by omega) ⟨rfl,λr h=>by cases h⟩ λk s hk he bf=>?_;obtain ⟨L,i⟩:=s;obtain ⟨h1,af⟩:=bf;simp only at he h1 af ⊢;subst he;rw [eQ k (by omega)];refine Tot.br (λaT=>?_) (λdU=>.aq ⟨by show L.length=_; omega,af⟩);have aT:k<dC.length:=by omega
 have gj:=iF.ok _ (List.getElem_mem aT);rw [eu aT];generalize dC[k]=t at *;simp only [Option.bind_some];refine .aB (gj.go hm) λto B7=>?_;obtain ⟨st,b0,nL⟩:=oi B7.1 B7.2;have qq:=WK b0;have vi:=hm.xI st nL;rw [b0];simp only [Option.bind_some];refine .aB (Ξ:=jn dC.length) ?_ λr ao=>?_
 ·refine Tot.upto (λs=>s.2) st.eX.length (λk s=>jn dC.length s.1) rfl (by omega) .nil λj s ah he bf=>?_;obtain ⟨r,i⟩:=s;simp only at he bf ⊢;subst he;rw [eQ j (by omega)];refine Tot.br (λaT=>?_) (λ_=>.aq bf);have aT:j<st.eX.length:=by omega
  have EM:=List.getElem_mem aT;have hv:=hm.sym aO nL EM;rw [eu aT];generalize st.eX[j]=v at *;simp only [Option.bind_some];refine .aB (Ξ:=jn dC.length) ?_ λr ao=>.aq ⟨aT,rfl,ao⟩;refine .aB (Ξ:=λc:Bool=>c=true->1000<=v.Sym) (Tot.br (λh=>?_) (λ_=>.aq λh=>by cases h)) λc aa=>?_
  ·have hw:aK (v.Sym - 1000)=v.Sym - 1000:=by
    have:=hv.2.2 h;rw [cI]; omega
   rw [hw];obtain ⟨b,av,_⟩:=oi (l:=B) (i:=v.Sym - 1000) (by omega) (by have:=hv.2.2 h; omega);rw [av];exact Tot.aV (.aq λ_=>h)
  ·refine .aB (Ξ:=jn dC.length) (Tot.bF (λh=>?_) (λ_=>.aq bf)) λr ao=>.aq ao;have vg:=iF.fm to.toNat st v qq EM (aa h);rw [show ((to.toNat:Nat):Int)=to by omega] at vg;refine .aB (A_ dC to v.Sym xh) λz aY=>?_;exact .aB (bf.put (by omega) ⟨aY.2.2 vg,aY.2.1⟩) λr ao=>.aq ao.1
 ·refine .aB (Ξ:=λ_=>True) (Tot.ap (by simp [lim]; omega) trivial) λ_ _=>.aq ⟨aT,rfl,by simp; omega,PW af ao⟩
theorem Sg (g:bO) (aO:hf g) {m:List State}(hm:mK g m) {dC:List Trans}(qi:qG m=some dC) (iF:wo m dC):Tot (C7 g m) λr=>r.length=dC.length/\Sets dC.length r:=by
 have aw:=aO.kX;have kO:=aO.dz;have t_:=aO.ia;have xh:=iF.n;unfold C7;rw [qi];refine Tot.aV (.aB (LV g aO) λB fj=>.aB (Ξ:=λr=>r=List.replicate dC.length ([]:List Int)) (Tot.mk (by simp [lim]; omega) (by simp)) λZB Uc=>.aB (Ξ:=λr:List (List Int)=>r.length=dC.length/\Sets dC.length r) ?_ λr ao=>.aq ao);subst Uc;have Zy:∀ {L:List (List Int)},(L.length=dC.length/\Sets dC.length L)->∀ {z:Int}{r dn:List Int},idx L z=some r->jn dC.length dn->(L.set z.toNat dn).length=dC.length/\Sets dC.length (L.set z.toNat dn):=λ{L} h7 {z r dn} _ ec=>⟨by rw [List.length_set]; exact h7.1,λx J=>by
  rcases List.mem_or_eq_of_mem_set J with aQ | aQ
  ·exact h7.2 x aQ
  ·rw [aQ]; exact ec⟩
 refine Tot.upto (λs=>s.2) dC.length (λk s=>s.1.length=dC.length/\Sets dC.length s.1) rfl (by omega) ⟨by simp,λr h=>by rw [List.eq_of_mem_replicate h]; exact .nil⟩ λk s hk he bf=>?_;obtain ⟨L,i⟩:=s;simp only at he bf ⊢;subst he;rw [eQ k (by omega)];refine Tot.br (λaT=>?_) (λdU=>.aq bf);have aT:k<dC.length:=by omega
 have gj:=iF.ok _ (List.getElem_mem aT);rw [eu aT];generalize dC[k]=t at *;simp only [Option.bind_some];refine .aB (Ξ:=λr:List (List Int)=>r.length=dC.length/\Sets dC.length r) ?_ λr ao=>.aq ⟨aT,rfl,ao⟩;refine Tot.upto (λs=>s.2) g.bh.length (λk s=>s.1.length=dC.length/\Sets dC.length s.1) rfl (by omega) bf λp s au he bf=>?_;obtain ⟨L,i⟩:=s;simp only at he bf ⊢;subst he;rw [eQ p (by omega)];refine Tot.br (λEA=>?_) (λdU=>.aq bf);have EA:p<g.bh.length:=by omega
 have mZ:=List.getElem_mem EA;rw [eu EA];generalize g.bh[p]=q at *;have bg:=aO.hq q mZ;have B1:=aO.aH q mZ;have lL:=Pv aO mZ fj;simp only [Option.bind_some];refine .aB (Ξ:=λr:List (List Int)=>r.length=dC.length/\Sets dC.length r) ?_ λr ao=>.aq ⟨EA,rfl,ao⟩;refine Tot.bF (λ_=>.aq bf) (λ_=>.aB (Ξ:=λr:List (List Int)=>r.length=dC.length/\Sets dC.length r) ?_ λr ao=>.aq ao);refine Tot.upto (λs=>s.2) q.eI.length (λk s=>s.1.length=dC.length/\Sets dC.length s.1) rfl (by omega) bf λj s ah he bf=>?_;obtain ⟨L,i⟩:=s;simp only at he bf ⊢;subst he;rw [eQ j (by omega)];refine Tot.br (λeE=>?_) (λdU=>.aq bf);have eE:j<q.eI.length:=by omega
 rw [eu eE];generalize q.eI[j]=y at *;simp only [Option.bind_some];refine .aB (Ξ:=λr:List (List Int)=>r.length=dC.length/\Sets dC.length r) ?_ λr ao=>.aq ⟨eE,rfl,ao⟩;refine .aB (Ξ:=λ_=>True) (Tot.br (λ_=>.aq trivial) (λ_=>?_)) λc _=>Tot.bF (λ_=>.aq bf) (λ_=>?_)
 ·refine .aB (Ξ:=λr=>r=q.eI.drop (j+1)) (Tot.sub ⟨by omega,by omega,by omega⟩ ?_) λr ao=>?_
  ·rw [List.take_of_length_le]
   ·congr 1
   ·rw [List.length_drop]; omega
  ·subst ao;exact .aB (LW B _ (by rw [List.length_drop]; omega) (λs aC=>lL s (List.mem_of_mem_drop aC)) (by omega)) λ_ _=>.aq trivial
 refine .aB (Ξ:=λr=>r.length<=8) (Tot.sub ⟨by omega,by omega,by omega⟩ (by rw [List.length_take,List.length_drop]; omega)) λr ao=>?_;obtain ⟨st,_,b0,_⟩:=gj;have IQ:=nb b0;refine .aB (L3 hm t.State r ⟨by omega,IQ.2.1⟩ (by omega)) λz aY=>?_;refine .aB (Ξ:=λr:List (List Int)=>r.length=dC.length/\Sets dC.length r) (Tot.bF (λ_=>?_) (λ_=>.aq bf)) λr ao=>.aq ao;refine .aB (A_ dC z y xh) λn aF=>?_;refine .aB (Ξ:=λr:List (List Int)=>r.length=dC.length/\Sets dC.length r) (Tot.br (λaR=>?_) (λ_=>.aq bf)) λr ao=>.aq ao;obtain ⟨As,zw,zy⟩:=oi (l:=L) aR (by rw [bf.1]; exact aF.2.1);rw [zw];refine Tot.aV (.aB ((bf.2 As zy).put (by omega) ⟨by omega,by omega⟩) λdn ec=>.aq (Zy bf zw ec.1))
theorem R7 (g:bO) (aO:hf g) {m:List State}(hm:mK g m):Tot (Aj g m) λr=>∃ dC,qG m=some dC/\wo m dC/\r.length=dC.length/\Sets g.ba.length r:=by
 have aw:=aO.kX;unfold Aj;refine .aB (Se g aO hm) λs6 h1=>?_;obtain ⟨dC,qi,iF,Iz,xg⟩:=h1;have xh:=iF.n;refine .aB (Sf g aO hm qi iF) λjQ af=>.aB (L2 g.ba.length (by omega) s6 jQ (by omega) (by omega) xg (by rw [Iz]; exact af.2)) λAu aI=>?_;refine .aB (Sg g aO hm qi iF) λx_ bK=>.aB (L2 g.ba.length (by omega) Au x_ (by omega) (by omega) aI.2 (by rw [aI.1,Iz]; exact bK.2)) λDe cG=>?_;exact .aq ⟨dC,qi,iF,by omega,cG.2⟩
def q0 (g:bO) (p:Int):Prop:=0<p/\p<g.bh.length
theorem Ba (g:bO) (aO:hf g) (K:List Item) (ak:K.length<=1000000):Tot (CY g K) λr=>r.length<=540/\∀ p∈r,q0 g p:=by
 unfold CY;refine .aB (Hc g aO K ak) λc aa=>?_;have ha:=tr aO aa.1 λx J=>((aa.2 x).1 J).jf;refine .aB (Ξ:=λr:List Int=>r.length<=540/\∀ p∈r,q0 g p) ?_ λr ao=>.aq ao;refine Tot.upto (λs=>s.2) c.length (λk s=>s.1.length<=k/\∀ p∈s.1,q0 g p) rfl (by omega) ⟨Nat.le_refl 0,λp h=>by cases h⟩ λk s hk he bf=>?_;obtain ⟨L,i⟩:=s;obtain ⟨h1,af⟩:=bf;simp only at he h1 af ⊢;subst he;rw [eQ k (by omega)];refine Tot.br (λaT=>?_) (λdU=>.aq ⟨by show L.length<=_; omega,af⟩);have aT:k<c.length:=by omega
 have hi:=((aa.2 _).1 (List.getElem_mem aT)).jf;rw [eu aT];generalize c[k]=x at *;obtain ⟨q,bg,aI,bK⟩:=hi;simp only [Option.bind_some];refine .aB (Ξ:=λL:List Int=>L.length<=k+1/\∀ p∈L,q0 g p) ?_ λr ao=>.aq ⟨aT,rfl,ao⟩;refine .aB (Ξ:=λc:Bool=>c=true->0<x.Prod) (Tot.br (λh=>?_) (λ_=>.aq λh=>by cases h)) λc aa=>?_
 ·rw [bg]; exact Tot.aV (.aq λ_=>h)
 refine .aB (Ξ:=λL:List Int=>L.length<=k+1/\∀ p∈L,q0 g p) (Tot.bF (λh=>?_) (λ_=>.aq ⟨by omega,af⟩)) λr ao=>.aq ao;refine .aB (Ξ:=λ_=>True) (Tot.ap (by simp [lim]; omega) trivial) λ_ _=>.aq ⟨by simp; omega,λp au=>?_⟩;rcases List.mem_append.1 au with au | au
 ·exact af p au
 ·rw [List.mem_singleton.1 au]; exact ⟨aa h,(nb bg).2.1⟩
theorem R8 (g:bO) (aO:hf g) {m:List State}(hm:mK g m) {dC:List Trans}(qi:qG m=some dC) (iF:wo m dC) (q p:Int):Tot (CZ g m q p) λr=>r.length<=9600/\∀ x∈r,0<=x/\x<dC.length:=by
 have xh:=iF.n;have t_:=aO.ia;have kO:=aO.dz;unfold CZ;refine .aB (Ξ:=λc:Bool=>c=false->0<=p/\p<g.bh.length) (Tot.br (λ_=>.aq λh=>by cases h) (λ_=>Tot.br (λ_=>.aq λh=>by cases h) (λ_=>Tot.br (λ_=>.aq λh=>by cases h) (λh=>.aq λaQ=>by have:=of_decide_eq_false aQ; omega)))) λc aa=>Tot.bF (λ_=>.aq ⟨Nat.zero_le _,λx h=>by cases h⟩) (λh=>?_);obtain ⟨aR,h1⟩:=aa h;rw [qi];refine Tot.aV ?_;refine .aB (Ξ:=λr:List Int=>r.length<=9600/\∀ x∈r,0<=x/\x<dC.length) ?_ λr ao=>.aq ao;obtain ⟨hq,EG,VH⟩:=oi aR h1;have B1:=aO.aH hq VH;refine Tot.upto (λs=>s.2) dC.length (λk s=>s.1.length<=k/\∀ x∈s.1,0<=x/\x<dC.length) rfl (by omega) ⟨Nat.le_refl 0,λp h=>by cases h⟩ λk s hk he bf=>?_;obtain ⟨L,i⟩:=s;obtain ⟨af,aI⟩:=bf;simp only at he af aI ⊢;subst he;rw [eQ k (by omega)];refine Tot.br (λaT=>?_) (λdU=>.aq ⟨by show L.length<=_; omega,aI⟩);have aT:k<dC.length:=by omega
 have gj:=iF.ok _ (List.getElem_mem aT);rw [eu aT,EG];generalize dC[k]=t at *;obtain ⟨st,_,b0,_⟩:=gj;have IQ:=nb b0;simp only [Option.bind_some];refine .aB (Ξ:=λL:List Int=>L.length<=k+1/\∀ x∈L,0<=x/\x<dC.length) ?_ λr ao=>.aq ⟨aT,rfl,ao⟩;refine .aB (Ξ:=λ_=>True) (Tot.br (λh=>?_) (λ_=>.aq trivial)) λc aa=>?_
 ·exact .aB (L3 hm t.State hq.eI ⟨by omega,IQ.2.1⟩ (by omega)) λ_ _=>.aq trivial
 refine .aB (Ξ:=λL:List Int=>L.length<=k+1/\∀ x∈L,0<=x/\x<dC.length) (Tot.bF (λh=>?_) (λ_=>.aq ⟨by omega,aI⟩)) λr ao=>.aq ao;refine .aB (Ξ:=λ_=>True) (Tot.ap (by simp [lim]; omega) trivial) λ_ _=>.aq ⟨by simp; omega,λp au=>?_⟩;rcases List.mem_append.1 au with au | au
 ·exact aI p au
 ·rw [List.mem_singleton.1 au]; exact ⟨by omega,by omega⟩
structure yO (g:bO) (l:k3):Prop where
 p:q0 g l.Prod
 t:jn g.ba.length l.ba
theorem R2 (g:bO) (aO:hf g) {m:List State}(hm:mK g m):Tot (CW g m) λr=>r.length<=81000/\∀ l∈r,yO g l:=by
 have aw:=aO.kX;have xd:=hm.nS;unfold CW;refine .aB (R7 g aO hm) λF aN=>?_;obtain ⟨dC,qi,iF,abW,jK⟩:=aN;have xh:=iF.n;refine .aB (Ξ:=λr:List k3=>r.length<=81000/\∀ l∈r,yO g l) ?_ λr ao=>.aq ao;refine Tot.upto (λs=>s.2) m.length (λk s=>s.1.length<=540 * k/\∀ l∈s.1,yO g l) rfl (by omega) ⟨Nat.le_refl 0,λp h=>by cases h⟩ λk s hk he bf=>?_;obtain ⟨L,i⟩:=s;obtain ⟨h1,af⟩:=bf;simp only at he h1 af ⊢;subst he;rw [eQ k (by omega)];refine Tot.br (λaT=>?_) (λdU=>.aq ⟨by show L.length<=_; omega,af⟩);have aT:k<m.length:=by omega
 have dj:=hm.qB _ (List.getElem_mem aT);rw [eu aT];generalize m[k]=st at *;refine Tot.aV (.aB (Ba g aO st.Kernel (by have:=dj.len aO; omega)) λE k8=>?_);obtain ⟨abU,T5⟩:=k8;refine .aB (Ξ:=λL:List k3=>L.length<=540 * (k+1)/\∀ l∈L,yO g l) ?_ λr ao=>.aq ⟨aT,rfl,ao⟩;refine Tot.upto (λs=>s.2) E.length (λj s=>s.1.length<=540 * k+j/\∀ l∈s.1,yO g l) rfl (by omega) ⟨h1,af⟩ λj s ah he bf=>?_;obtain ⟨L,i⟩:=s;obtain ⟨h1,af⟩:=bf;simp only at he h1 af ⊢;subst he;rw [eQ j (by omega)];refine Tot.br (λeE=>?_) (λdU=>.aq ⟨by show L.length<=_; omega,af⟩);have eE:j<E.length:=by omega
 have au:=T5 _ (List.getElem_mem eE);rw [eu eE];generalize E[j]=p at *;simp only [Option.bind_some];refine .aB (R8 g aO hm qi iF k p) λB fj=>?_;obtain ⟨abR,T2⟩:=fj;refine .aB (Ξ:=jn g.ba.length) ?_ λS bk=>?_
 ·refine Tot.upto (λs=>s.2) B.length (λ_ s=>jn g.ba.length s.1) rfl (by omega) .nil λb s av he bf=>?_;obtain ⟨S,i⟩:=s;simp only at he bf ⊢;subst he;rw [eQ b (by omega)];refine Tot.br (λzs=>?_) (λdU=>.aq bf);have zs:b<B.length:=by omega
  have J:=T2 _ (List.getElem_mem zs);rw [eu zs];generalize B[b]=x at *;obtain ⟨row,qp,zy⟩:=oi (l:=F) J.1 (by omega);have l8:=jK row zy;have l7:=l8.len;simp only [Option.bind_some,qp];refine .aB (Ξ:=jn g.ba.length) ?_ λS bk=>.aq ⟨zs,rfl,bk⟩;refine Tot.upto (λs=>s.2) row.length (λ_ s=>jn g.ba.length s.1) rfl (by omega) bf λz s aY he bf=>?_;obtain ⟨S,i⟩:=s;simp only at he bf ⊢;subst he;rw [eQ z (by omega)];refine Tot.br (λqn=>?_) (λdU=>.aq bf);have qn:z<row.length:=by omega
  rw [eu qn];exact Tot.aV (.aB (bf.put (by omega) (l8.i _ (List.getElem_mem qn))) λr ao=>.aq ⟨qn,rfl,ao.1⟩)
 ·refine .aB (Ξ:=λ_=>True) (Tot.ap (by simp [lim]; omega) trivial) λ_ _=>.aq ⟨eE,rfl,by simp; omega,λl ak=>?_⟩;rcases List.mem_append.1 ak with ak | ak
  ·exact af l ak
  ·rw [List.mem_singleton.1 ak]; exact ⟨au,bk⟩
def ot (c:Cell):Nat:=c.bh.length+(if 0<=c.j5 then 1 else 0)+(if c.lX then 1 else 0)
theorem Y2 {x:Option Int}{c:Cell}(ak:c.bh.length<=1000) (e:x=(((bif decide (0<=c.j5) then
some (aK ((c.bh.length:Int)+1))
else
some (c.bh.length:Int))).bind λjt =>
((bif c.lX then
some (aK (jt+1))
else
some jt)).bind λiw =>
some iw)):x=some (ot c:Int):=by
 subst e;have hw:aK ((c.bh.length:Int)+1)=(c.bh.length:Int)+1:=by rw [cI]; omega
 have Wb:aK ((c.bh.length:Int)+1+1)=(c.bh.length:Int)+1+1:=by rw [cI]; omega
 unfold ot;by_cases h:0<=c.j5
 ·cases af:c.lX <;> simp [h,hw,Wb]
 ·cases af:c.lX <;> simp [h,hw]
theorem Mm (c:Cell) (ak:c.bh.length<=1000):Af c=some (ot c:Int):=Y2 ak (by unfold Af; rfl)
structure o7 (g:bO) (n:Nat) (c:Cell):Prop where
 s:0<=c.State/\c.State<n
 t:0<=c.bX/\c.bX<g.ba.length
 f:-1<=c.j5/\c.j5<n
 p:fS iR c.bh
 q:∀ p∈c.bh,q0 g p
 YY:0<ot c
theorem o7.len {g:bO}(aO:hf g) {n:Nat}{c:Cell}(h:o7 g n c):c.bh.length<=60:=by
 have:=aO.ia;have:=jn.len (T:=g.bh.length) ⟨h.p,λx J=>⟨by have:=(h.q x J).1; omega,(h.q x J).2⟩⟩;omega
def yC (a b:Cell):Prop:=a.State<b.State\/(a.State=b.State/\a.bX<b.bX)
structure AP (g:bO) (n:Nat) (l:List Cell):Prop where
 ok:∀ c∈l,o7 g n c
 acT:l.Pairwise yC
 n:l.length<=6000
theorem A' (g:bO) (aO:hf g) {m:List State}(hm:mK g m) (qC:List k3) (ak:qC.length<=81000) (hk:∀ l∈qC,yO g l):Tot (CV g m qC) (AP g m.length):=by
 have aw:=aO.kX;have xd:=hm.nS;have t_:=aO.ia;unfold CV;refine .aB (Ξ:=AP g m.length) ?_ λr ao=>.aq ao;refine Tot.upto (λs=>s.2) m.length (λk s=>s.1.length<=40 * k/\(∀ c∈s.1,o7 g m.length c)/\s.1.Pairwise yC/\∀ c∈s.1,c.State<k) rfl (by omega) ⟨Nat.le_refl 0,λp h=>(by cases h),.nil,λp h=>by cases h⟩ λk s xa he bf=>?_;obtain ⟨L,i⟩:=s;obtain ⟨h1,af,aI,bK⟩:=bf;simp only at he h1 af aI bK ⊢;subst he;rw [eQ k (by omega)];refine Tot.br (λaT=>?_) (λdU=>.aq ⟨af,aI,by show L.length<=_; omega⟩);have aT:k<m.length:=by omega
 have dj:=hm.qB _ (List.getElem_mem aT);rw [eu aT];generalize m[k]=st at *;have abZ:=dj.len aO;refine .aB (Ξ:=λL:List Cell=>L.length<=40 * (k+1)/\(∀ c∈L,o7 g m.length c)/\L.Pairwise yC/\∀ c∈L,c.State<(k+1:Nat)) ?_ λr ao=>.aq ⟨aT,rfl,ao⟩;refine Tot.upto (λs=>s.2) g.ba.length (λj s=>s.1.length<=40 * k+j/\(∀ c∈s.1,o7 g m.length c)/\s.1.Pairwise yC/\∀ c∈s.1,c.State<k\/(c.State=k/\c.bX<j)) rfl (by omega) ⟨h1,af,aI,λc aa=>.inl (bK c aa)⟩ λj s ah he bf=>?_;obtain ⟨L,i⟩:=s;obtain ⟨h1,af,aI,bK⟩:=bf;simp only at he h1 af aI bK ⊢;subst he;rw [eQ j (by omega)];refine Tot.br (λeE=>?_) (λdU=>.aq ⟨by show L.length<=_; omega,af,aI,λc aa=>by rcases bK c aa with h | h <;> omega⟩);refine .aB (Ξ:=λL:List Cell=>L.length<=40 * k+(j+1)/\(∀ c∈L,o7 g m.length c)/\L.Pairwise yC/\∀ c∈L,c.State<k\/(c.State=k/\c.bX<(j+1:Nat))) ?_ λr ao=>.aq ⟨by omega,rfl,ao⟩;refine .aB (D7 m k j hm.xI) λeP VV=>?_;have VW:=VV.aL hm;refine .aB (Ξ:=λ_=>True) ?_ λac _=>?_
 ·refine Tot.upto (λs=>s.2) st.Kernel.length (λ_ _=>True) rfl (by omega) trivial λz s aY he _=>?_;obtain ⟨b,i⟩:=s;simp only at he ⊢;subst he;rw [eQ z (by omega)];simp only [Option.bind_some];refine Tot.br (λqn=>?_) (λ_=>.aq trivial);have qn:z<st.Kernel.length:=by omega
  rw [eu qn];simp only [Option.bind_some];refine .aB (Ξ:=λ_=>True) (Tot.bF (λ_=>.aq trivial) (λ_=>Tot.br (λ_=>Tot.br (λ_=>.aq trivial) (λ_=>.aq trivial)) (λ_=>.aq trivial))) λ_ _=>.aq ⟨qn,rfl,trivial⟩
 refine .aB (Ξ:=λP:List Int=>fS iR P/\∀ p∈P,q0 g p) ?_ λP cx=>?_
 ·refine Tot.upto (λs=>s.2) qC.length (λ_ s=>fS iR s.1/\∀ p∈s.1,q0 g p) rfl (by omega) ⟨.nil,λp h=>by cases h⟩ λz s aY he bf=>?_;obtain ⟨P,i⟩:=s;obtain ⟨g1,g2⟩:=bf;simp only at he g1 g2 ⊢;subst he;rw [eQ z (by omega)];refine Tot.br (λqn=>?_) (λdU=>.aq ⟨g1,g2⟩);have qn:z<qC.length:=by omega
  have h7:=hk _ (List.getElem_mem qn);rw [eu qn];generalize qC[z]=l at *;have V2:=h7.t.len;have Uk:=jn.len (T:=g.bh.length) ⟨g1,λx J=>⟨by have:=(g2 x J).1; omega,(g2 x J).2⟩⟩;simp only [Option.bind_some];refine .aB (Ξ:=λP:List Int=>fS iR P/\∀ p∈P,q0 g p) ?_ λr ao=>.aq ⟨qn,rfl,ao⟩;refine .aB (Ξ:=λ_=>True) (Tot.br (λ_=>.aB (LZ l.ba j (by omega)) λ_ _=>.aq trivial) (λ_=>.aq trivial)) λc _=>?_;refine .aB (Ξ:=λP:List Int=>fS iR P/\∀ p∈P,q0 g p) (Tot.bF (λ_=>?_) (λ_=>.aq ⟨g1,g2⟩)) λr ao=>.aq ao;refine .aB (D8 P l.Prod g1 (by omega)) λr ao=>.aq ⟨ao.1,λp au=>?_⟩;rcases (ao.2.2 p).1 au with h | rfl
  ·exact g2 p h
  ·exact h7.p
 ·have Uk:=jn.len (T:=g.bh.length) ⟨cx.1,λx J=>⟨by have:=(cx.2 x J).1; omega,(cx.2 x J).2⟩⟩;rw [Mm _ (by show P.length<=_; omega)];refine Tot.aV (.aB (Ξ:=λL:List Cell=>L.length<=40 * k+(j+1)/\(∀ c∈L,o7 g m.length c)/\L.Pairwise yC/\∀ c∈L,c.State<k\/(c.State=k/\c.bX<(j+1:Nat))) (Tot.br (λaR=>?_) (λ_=>.aq ⟨by omega,af,aI,λc aa=>by rcases bK c aa with h | h <;> omega⟩)) λr ao=>.aq ao);refine .aB (Ξ:=λ_=>True) (Tot.ap (by simp [lim]; omega) trivial) λ_ _=>.aq ⟨by simp; omega,λc aa=>?_,List.pairwise_append.2 ⟨aI,List.pairwise_singleton ..,λa aP b av=>?_⟩,λc aa=>?_⟩
  ·rcases List.mem_append.1 aa with aa | aa
   ·exact af c aa
   ·rw [List.mem_singleton.1 aa];exact ⟨⟨by show (0:Int)<=k; omega,by show (k:Int)<_; omega⟩,⟨by show (0:Int)<=j; omega,by show (j:Int)<_; omega⟩,VW,cx.1,cx.2,by omega⟩
  ·rw [List.mem_singleton.1 av];rcases bK a aP with h | h
   ·exact .inl h
   ·exact .inr h
  ·rcases List.mem_append.1 aa with aa | aa
   ·rcases bK c aa with h | h
    ·exact .inl h
    ·exact .inr ⟨h.1,by omega⟩
   ·rw [List.mem_singleton.1 aa];exact .inr ⟨rfl,by show (j:Int)<_; omega⟩
open Go Go.Own
theorem iJ.W8 {m:fJ}{T L:Nat}(h:iJ m T L):k4 m (3+T) m.cb.length 0 0 :=
 ⟨h.gE,h.lo,h.hi,by have:=h.ty; omega,rfl,by rw [h.hA]; decide,by rw [h.hq]; exact Nat.le_refl 0,by rw [h.hq]; exact λp au=>absurd au (by simp),h.lvl,h.jw⟩
theorem t77 (s:Source) (av:rN s):Tot (vW s) λr=>r.2.1=0->hf r.1:=by
 unfold vW;refine .aB (t103 s av) λc aa=>Tot.bF (λ_=>.aq λh=>absurd h (by decide)) (λiq=>?_);have ok:Li s:=aa (by simpa using iq);refine .aB (Tot.mk (by decide) (rfl:List.replicate (3:Int).toNat false=List.replicate (3:Int).toNat false)) λa7 js=>?_;have U8:=av.zb;have B1:=av.aH
 -- declarations
 refine Tot.aB (Ξ:=λr=>iJ r.1 (1001 * 1000) 0) ?_ λbS cG=>?_
 ·refine Tot.count (λz=>z.2.2) s.Decls.length (λz=>0<=z.2.2/\z.2.2<=s.Decls.length/\iJ z.1 (1001 * z.2.2.toNat) 0/\z.1.cr<=z.2.2) ⟨Int.le_refl 0,by show (0:Int)<=_; omega,⟨by show a7.length=3; rw [<- js]; rfl,Nat.le_refl 3,Nat.le_refl 3,Nat.le_refl 0,Nat.le_refl 0,rfl,rfl,Int.le_refl 0,by show ∀ t∈[_,_,_],0<=bX.Level t; simp⟩,Int.le_refl 0⟩ (by show (s.Decls.length:Int) - 0<_; omega) λz aY=>?_;obtain ⟨m,st,i⟩:=z;obtain ⟨aR,h1,hm,pz⟩:=aY;simp only at aR h1 hm pz ⊢;have hw:aK (i+1)=i+1:=by rw [cI]; omega
  rw [hw];have Iy:=hm.lvl;refine Tot.br (λaT=>?_) (λ_=>.aq (hm.mono (by omega) (Nat.le_refl _)));refine .aB (Tot.hj (Φ:=λy=>y∈s.Decls) aR aT λy _ ax=>ax) λd aS=>?_;have jJ:=av.decls d aS;have zn:=jJ.n;refine .aB (Ξ:=λ_=>True) (Tot.bF (λ_=>.aq trivial) (λ_=>.aq trivial)) λil _=>.aB (Ξ:=λj=>0<=j/\j<=i+1) (Tot.bF (λ_=>.aq (by rw [cI]; omega)) (λ_=>.aq (by omega))) λju zg=>?_;refine Tot.aB (Ξ:=λr=>iJ r.1 (1001 * i.toNat+1000) 0/\r.1.cr<=i+1) ?_ λek sC=>.aq ⟨⟨?_,?_,?_,?_⟩,?_,?_⟩
  ·refine Tot.count (λz=>z.2.2) d.eL.length (λz=>0<=z.2.2/\z.2.2<=d.eL.length/\iJ z.1 (1001 * i.toNat+z.2.2.toNat) 0/\z.1.cr<=i+1) ⟨Int.le_refl 0,by show (0:Int)<=_; omega,⟨hm.gE,hm.lo,hm.hi,hm.ty,hm.fx,hm.hq,hm.hA,zg.1,hm.jw⟩,zg.2⟩ (by show (d.eL.length:Int) - 0<_; omega) λz aY=>?_;obtain ⟨m,st,k⟩:=z;obtain ⟨g0,g1,hm,pz⟩:=aY;simp only at g0 g1 hm pz ⊢;have qs:aK (k+1)=k+1:=by rw [cI]; omega
   rw [qs];refine Tot.br (λxb=>?_) (λ_=>.aq ⟨hm.mono (by omega) (Nat.le_refl _),pz⟩);have E1:Tot (idx d.eL k) λy=>y∈d.eL:=Tot.hj g0 xb λy _ ax=>ax;refine Tot.aB (Ξ:=λj=>iJ j.1 (1001 * i.toNat+k.toNat+1) 0/\j.1.cr<=i+1) ?_ λj ah=>.aq ⟨⟨?_,?_,?_,ah.2⟩,?_,?_⟩
   ·refine Tot.bF (λ_=>?_) (λ_=>?_)
    ·refine .aB E1 λx J=>.aB (t104 m d x hm.gE (by have:=hm.hi; omega) (by have:=hm.ty; omega) (ok.decls d aS x J)) λm' aO=>.aq ⟨hm.grow aO,by show m'.cr<=_; rw [aO.lvl]; exact pz⟩
    ·refine Tot.aB (Ξ:=λj=>iJ j (1001 * i.toNat+k.toNat+1) 0/\j.cr<=i+1) ?_ λj ah=>.aB E1 λ_ _=>.aq ah;refine Tot.bF (λ_=>?_) (λ_=>.aq ⟨hm.mono (by omega) (Nat.le_refl _),pz⟩);exact .aB E1 λ_ _=>.aB E1 λ_ _=>.aB (t105 m _ _) λm' ir=>.aq ⟨(hm.same ir.1).mono (by omega) (Nat.le_refl _),by rw [ir.1.jw]; exact pz⟩
   ·show 0<=k+1; omega
   ·show k+1<=(d.eL.length:Int); omega
   ·show iJ j.1 (1001 * i.toNat+(k+1).toNat) 0;exact ah.1.mono (by omega) (Nat.le_refl _)
   ·show k<k+1; omega
   ·show k+1<=(d.eL.length:Int); omega
  ·show 0<=i+1; omega
  ·show i+1<=(s.Decls.length:Int); omega
  ·show iJ ek.1 (1001 * (i+1).toNat) 0;exact sC.1.mono (by omega) (Nat.le_refl _)
  ·exact sC.2
  ·show i<i+1; omega
  ·show i+1<=(s.Decls.length:Int); omega
 -- what stands on the left
 refine Tot.aB (Ξ:=λr=>iJ r (1001 * 1000) 1000) ?_ λcY HG=>?_
 ·refine Tot.count (λz=>z.2) s.dG.length (λz=>0<=z.2/\z.2<=s.dG.length/\iJ z.1 (1001 * 1000) z.2.toNat) ⟨Int.le_refl 0,by show (0:Int)<=_; omega,cG⟩ (by show (s.dG.length:Int) - 0<_; omega) λz aY=>?_;obtain ⟨m,i⟩:=z;obtain ⟨aR,h1,hm⟩:=aY;simp only at aR h1 hm ⊢;have hw:aK (i+1)=i+1:=by rw [cI]; omega
  rw [hw];refine Tot.br (λaT=>?_) (λ_=>.aq (hm.mono (Nat.le_refl _) (by omega)));have vf:=hm.hi;have vh:=hm.fx;refine Tot.aB (Ξ:=λj=>iJ j (1001 * 1000) (i.toNat+1)) ?_ λj ah=>.aq ⟨⟨?_,?_,?_⟩,?_,?_⟩
  ·refine .aB (Tot.hj (Φ:=λ_=>True) aR aT λy _ ax=>trivial) λr ao=>.aB (t106 m _ (by simp only [dK]; omega)) λt _=>?_;refine Tot.aB (Ξ:=λj=>iJ j (1001 * 1000) i.toNat) ?_ λiP pk=>?_
   ·exact Tot.bF (λ_=>.aB (t105 m _ _) λm' ir=>.aq (hm.same ir.1)) (λ_=>.aq hm)
   ·have acp:=pk.fx;refine .aB (t107 iP _ (by simp only [dK]; omega)) λk _=>?_;refine Tot.aB (Ξ:=λl=>l.length<=i.toNat+1) ?_ λl ak=>.aq ⟨pk.gE,pk.lo,pk.hi,pk.ty,ak,pk.hq,pk.hA,pk.lvl,pk.jw⟩;refine Tot.bF (λ_=>?_) (λ_=>.aq (by omega));exact .aB (Ξ:=λ_=>True) (Tot.ap (by simp [lim]; omega) trivial) λ_ _=>.aq (by simp; omega)
  ·show 0<=i+1; omega
  ·show i+1<=(s.dG.length:Int); omega
  ·show iJ j (1001 * 1000) (i+1).toNat;exact ah.mono (Nat.le_refl _) (by omega)
  ·show i<i+1; omega
  ·show i+1<=(s.dG.length:Int); omega
 -- types and starts
 refine Tot.aB (Ξ:=λr=>iJ r (1001 * 1000) 1000) ?_ λhd tF=>?_
 ·refine Tot.count (λz=>z.2) s.Decls.length (λz=>0<=z.2/\z.2<=s.Decls.length/\iJ z.1 (1001 * 1000) 1000) ⟨Int.le_refl 0,by show (0:Int)<=_; omega,HG⟩ (by show (s.Decls.length:Int) - 0<_; omega) λz aY=>?_;obtain ⟨m,i⟩:=z;obtain ⟨aR,h1,hm⟩:=aY;simp only at aR h1 hm ⊢;have hw:aK (i+1)=i+1:=by rw [cI]; omega
  rw [hw];refine Tot.br (λaT=>?_) (λ_=>.aq hm);refine Tot.aB (Ξ:=λr=>iJ r (1001 * 1000) 1000) ?_ λov TJ=>.aq ⟨⟨?_,?_,TJ⟩,?_,?_⟩
  ·have mX:i.toNat<s.Decls.length:=by omega
   have hi:idx s.Decls i=some s.Decls[i.toNat]:=by simp [idx,aR,mX]
   rw [hi];generalize aS:s.Decls[i.toNat]=d;have jX:d∈s.Decls:=by rw [<- aS]; exact List.getElem_mem mX
   have zn:=(av.decls d jX).n;refine Tot.count (λz=>z.2) d.eL.length (λz=>0<=z.2/\z.2<=d.eL.length/\iJ z.1 (1001 * 1000) 1000) ⟨Int.le_refl 0,by show (0:Int)<=_; omega,hm⟩ (by show (d.eL.length:Int) - 0<_; omega) λz aY=>?_;obtain ⟨m,k⟩:=z;obtain ⟨g0,g1,hm⟩:=aY;simp only at g0 g1 hm ⊢;have qs:aK (k+1)=k+1:=by rw [cI]; omega
   rw [qs];refine Tot.aV (Tot.br (λxb=>?_) (λ_=>.aq hm));have vh:=hm.fx;refine Tot.aB (Ξ:=λj=>iJ j (1001 * 1000) 1000) ?_ λj ah=>.aq ⟨⟨?_,?_,ah⟩,?_,?_⟩
   ·refine Tot.aV (.aB (Tot.hj (Φ:=λ_=>True) g0 xb λ_ _ _=>trivial) λx _=>?_);refine .aB (Ξ:=λ_=>True) (Tot.aV (Tot.bF (λ_=>.aB (t107 m _ (by simp only [dK]; omega)) λ_ _=>.aq trivial) (λ_=>.aq trivial))) λc _=>?_;refine Tot.aB (Ξ:=λj=>iJ j (1001 * 1000) 1000) ?_ λj ah=>.aq ah;exact Tot.bF (λ_=>.aB (t105 m _ _) λm' ir=>.aq (hm.same ir.1)) (λ_=>.aq hm)
   ·show 0<=k+1; omega
   ·show k+1<=(d.eL.length:Int); omega
   ·show k<k+1; omega
   ·show k+1<=(d.eL.length:Int); omega
  ·show 0<=i+1; omega
  ·show i+1<=(s.Decls.length:Int); omega
  ·show i<i+1; omega
  ·show i+1<=(s.Decls.length:Int); omega
 -- the start
 have sL:=ok.pos;refine Tot.aB (Ξ:=λ_=>True) (Tot.bF (λ_=>.aB (Ξ:=λ_=>True) (Tot.hj (by decide) (by omega) λ_ _ _=>trivial) λ_ _=>.aq trivial) (λ_=>.aq trivial)) λxA _=>?_;have acs:=tF.fx;refine .aB (t107 hd xA (by simp only [dK]; omega)) λmH q'=>?_;have TQ:-1<=mH/\mH<hd.cb.length:=by rcases q' with h | h <;> omega
 -- the alternatives
 have h7:hd.cb.length<=1000:=tF.fx;generalize Ud:hd.cb.length=L at h7 TQ;refine Tot.aB (Ξ:=λr=>k4 r (3+1001 * 1000+1001 * 1000000) L (1001 * 1000000) (1+1001 * 1000000)/\1<=r.aG.bh.length) ?_ λbu TR=>?_
 ·have tX:=tF.W8;rw [Ud] at tX;refine Tot.count (λz=>z.2) s.dG.length (λz=>0<=z.2/\z.2<=s.dG.length/\k4 z.1 (3+1001 * 1000+1001 * (1000 * z.2.toNat)) L (1001 * (1000 * z.2.toNat)) (1+1001 * (1000 * z.2.toNat))/\1<=z.1.aG.bh.length) ⟨Int.le_refl 0,by show (0:Int)<=_; omega,⟨tX.gE,tX.lo,tX.hi,tX.ty,tX.fx,tX.hA,Nat.le_refl 1,λp au=>?_,tX.lvl,tX.jw⟩,Nat.le_refl 1⟩ (by show (s.dG.length:Int) - 0<_; omega) λz aY=>?_
  ·rw [List.mem_singleton.1 au];have acb:=tF.hA;have l6:=tF.lo;refine ⟨⟨Int.le_refl 0,by show (0:Int)<=L+hd.b_; omega⟩,λy ax=>?_,⟨by show (-1:Int)<=-1; omega,by show (-1:Int)<_; omega⟩⟩;have ax:y∈[aK (1001+mH)]:=ax;rw [List.mem_singleton.1 ax];have:aK (1001+mH)=1001+mH:=by rw [cI]; omega
   rw [this];exact .inr (by show 1000<=1001+mH/\1001+mH<=1000+((L:Int)+hd.b_); omega)
  ·obtain ⟨m,i⟩:=z;obtain ⟨aR,h1,hm,vk⟩:=aY;simp only at aR h1 hm vk ⊢;have hw:aK (i+1)=i+1:=by rw [cI]; omega
   rw [hw];refine Tot.br (λaT=>?_) (λ_=>.aq ⟨hm.mono (by omega) (by omega) (by omega),vk⟩);refine Tot.aB (Ξ:=λr=>k4 r (3+1001 * 1000+1001 * (1000 * (i.toNat+1))) L (1001 * (1000 * (i.toNat+1))) (1+1001 * (1000 * (i.toNat+1)))/\1<=r.aG.bh.length) ?_ λkB Ek=>.aq ⟨⟨?_,?_,?_,Ek.2⟩,?_,?_⟩
   ·have mX:i.toNat<s.dG.length:=by omega
    have hi:idx s.dG i=some s.dG[i.toNat]:=by simp [idx,aR,mX]
    rw [hi];generalize aS:s.dG[i.toNat]=d;have jX:d∈s.dG:=by rw [<- aS]; exact List.getElem_mem mX
    have zn:=(av.rules d jX).n;refine Tot.count (λz=>z.2) d.eK.length (λz=>0<=z.2/\z.2<=d.eK.length/\k4 z.1 (3+1001 * 1000+1001 * (1000 * i.toNat+z.2.toNat)) L (1001 * (1000 * i.toNat+z.2.toNat)) (1+1001 * (1000 * i.toNat+z.2.toNat))/\1<=z.1.aG.bh.length) ⟨Int.le_refl 0,by show (0:Int)<=_; omega,hm,vk⟩ (by show (d.eK.length:Int) - 0<_; omega) λz aY=>?_;obtain ⟨m,k⟩:=z;obtain ⟨g0,g1,hm,vk⟩:=aY;simp only at g0 g1 hm vk ⊢;have qs:aK (k+1)=k+1:=by rw [cI]; omega
    rw [qs];refine Tot.aV (Tot.br (λxb=>?_) (λ_=>.aq ⟨hm.mono (by omega) (by omega) (by omega),vk⟩));refine Tot.aV (Tot.aV (.aB (Tot.hj (Φ:=λy=>y∈d.eK) g0 xb λ_ _ h=>h) λa aP=>?_));refine .aB (t108 m d.Left a hm (by omega) (by omega) (by omega) (by omega) ((av.rules d jX).alts a aP) (ok.rules d jX a aP)) λm' ir=>.aq ⟨⟨?_,?_,?_,ir.2⟩,?_,?_⟩
    ·show 0<=k+1; omega
    ·show k+1<=(d.eK.length:Int); omega
    ·show k4 m' (3+1001 * 1000+1001 * (1000 * i.toNat+(k+1).toNat)) L (1001 * (1000 * i.toNat+(k+1).toNat)) (1+1001 * (1000 * i.toNat+(k+1).toNat));exact ir.1.mono (by omega) (by omega) (by omega)
    ·show k<k+1; omega
    ·show k+1<=(d.eK.length:Int); omega
   ·show 0<=i+1; omega
   ·show i+1<=(s.dG.length:Int); omega
   ·show k4 kB (3+1001 * 1000+1001 * (1000 * (i+1).toNat)) L (1001 * (1000 * (i+1).toNat)) (1+1001 * (1000 * (i+1).toNat));exact Ek.1.mono (by omega) (by omega) (by omega)
   ·show i<i+1; omega
   ·show i+1<=(s.dG.length:Int); omega
 obtain ⟨pn,TS⟩:=TR;refine Tot.qe (λh=>.aq λaQ=>absurd aQ h) (λhe=>?_);have abL:=pn.fx;have abJ:=pn.hi;have abN:=pn.ty;have abK:=pn.hA;have abM:=pn.Aq
 -- nonterminals
 refine Tot.aB (Ξ:=λl=>l.length=1+L) ?_ λuK HJ=>?_
 ·refine Tot.count (λz=>z.2) bu.cb.length (λz=>0<=z.2/\z.2<=bu.cb.length/\z.1.length=1+z.2.toNat) ⟨Int.le_refl 0,by show (0:Int)<=_; omega,rfl⟩ (by show (bu.cb.length:Int) - 0<_; omega) λz aY=>?_;obtain ⟨l,i⟩:=z;obtain ⟨aR,h1,ak⟩:=aY;simp only at aR h1 ak ⊢;have hw:aK (i+1)=i+1:=by rw [cI]; omega
  rw [hw];refine Tot.br (λaT=>?_) (λ_=>.aq (by show l.length=1+L; omega));refine .aB (Tot.hj (Φ:=λ_=>True) aR aT λ_ _ _=>trivial) λqP _=>.aB (t109 _ _ (by show bu.cL.length<=_; simp only [dK]; omega)) λyt TT=>?_;have abP:yt=-1\/(0<=yt/\yt<bu.cL.length):=TT;refine .aB (Ξ:=λ_=>True) (Tot.br (λh=>.aB (Ξ:=λ_=>True) (Tot.hj h (by omega) λ_ _ _=>trivial) λ_ _=>.aq trivial) (λ_=>.aq trivial)) λuk _=>?_;refine .aB (Ξ:=λ_=>True) (Tot.ap (by simp [lim]; omega) trivial) λ_ _=>.aq ⟨⟨?_,?_,?_⟩,?_,?_⟩
  ·show 0<=i+1; omega
  ·show i+1<=(bu.cb.length:Int); omega
  ·show (l++[_]).length=1+(i+1).toNat;simp; omega
  ·show i<i+1; omega
  ·show i+1<=(bu.cb.length:Int); omega
 refine Tot.aB (Ξ:=λl=>(l.length:Int)=1+L+bu.b_) ?_ λk1 MT=>?_
 ·refine Tot.count (λz=>z.2) (bu.b_+1) (λz=>1<=z.2/\z.2<=bu.b_+1/\(z.1.length:Int)=1+L+(z.2 - 1)) ⟨Int.le_refl 1,by show (1:Int)<=_; omega,by show (uK.length:Int)=1+L+(1 - 1); omega⟩ (by show bu.b_+1 - 1<_; omega) λz aY=>?_;obtain ⟨l,i⟩:=z;obtain ⟨aR,h1,ak⟩:=aY;simp only at aR h1 ak ⊢;have hw:aK (i+1)=i+1:=by rw [cI]; omega
  rw [hw];refine Tot.br (λaT=>?_) (λ_=>.aq (by show (l.length:Int)=1+L+bu.b_; omega));refine .aB (t110 i (by omega) (by omega)) λGs abQ=>.aB (Ξ:=λ_=>True) (Tot.cat (by show 1+Gs.size<=_; omega) trivial) λwh _=>?_;refine .aB (Ξ:=λ_=>True) (Tot.ap (by simp [lim]; omega) trivial) λ_ _=>.aq ⟨⟨?_,?_,?_⟩,?_,?_⟩
  ·show 1<=i+1; omega
  ·show i+1<=bu.b_+1; omega
  ·show ((l++[_]).length:Int)=1+L+(i+1 - 1);simp; omega
  ·show i<i+1; omega
  ·show i+1<=bu.b_+1; omega
 -- numbers
 have r4:=pn.gE;refine Tot.aB (Ξ:=λl=>l.length=bu.aG.ba.length/\∀ t∈l,0<=t.Level) ?_ λmg TU=>?_
 ·refine Tot.count (λz=>z.2.2) bu.aG.ba.length (λz=>3<=z.2.2/\z.2.2<=bu.aG.ba.length/\z.1.length=bu.aG.ba.length/\∀ t∈z.1,0<=t.Level) ⟨Int.le_refl 3,by have:=pn.lo; show (3:Int)<=_; omega,rfl,pn.jw⟩ (by show (bu.aG.ba.length:Int) - 3<_; omega) λz aY=>?_;obtain ⟨l,n,i⟩:=z;obtain ⟨aR,h1,ak,hv⟩:=aY;simp only at aR h1 ak hv ⊢;have hw:aK (i+1)=i+1:=by rw [cI]; omega
  rw [hw];refine Tot.br (λaT=>?_) (λ_=>.aq ⟨ak,hv⟩);refine Tot.aB (Ξ:=λj=>j.1.length=bu.aG.ba.length/\∀ t∈j.1,0<=t.Level) ?_ λj ah=>.aq ⟨⟨?_,?_,ah⟩,?_,?_⟩
  ·refine .aB (Tot.hj (Φ:=λ_=>True) (by omega) (by rw [r4]; omega) λ_ _ _=>trivial) λ_ _=>?_;refine Tot.aB (Ξ:=λj=>j.1.length=bu.aG.ba.length/\∀ t∈j.1,0<=t.Level) ?_ λj ah=>.aq ah;refine Tot.bF (λ_=>?_) (λ_=>.aq ⟨ak,hv⟩);refine .aB (Tot.hj (Φ:=λy=>y∈l) (by omega) aT λ_ _ h=>h) λy ax=>.aq ⟨by show (l.set _ _).length=_; simp [ak],λt aw=>?_⟩;rcases OK aw with aw | rfl
   ·exact hv t aw
   ·exact (hv y ax:0<=y.Level)
  ·show 3<=i+1; omega
  ·show i+1<=(bu.aG.ba.length:Int); omega
  ·show i<i+1; omega
  ·show i+1<=(bu.aG.ba.length:Int); omega
 -- limits
 obtain ⟨MU,TV⟩:=TU;refine Tot.aB (Ξ:=λc=>c=false->mg.length<=40/\k1.length<=24/\bu.aG.bh.length<=60) ?_ λA_ HD=>?_
 ·refine Tot.br (λ_=>.aq λh=>by cases h) (λh1=>Tot.br (λ_=>.aq λh=>by cases h) (λaf=>.aq λh=>?_));have aI:=of_decide_eq_false h;omega
 refine Tot.aB (Ξ:=λc=>c=false->A_=false/\∀ p∈bu.aG.bh,p.eI.length<=8) ?_ λAH HE=>?_
 ·refine Tot.count (λz=>z.2) bu.aG.bh.length (λz=>0<=z.2/\z.2<=bu.aG.bh.length/\(z.1=false->A_=false/\∀ (j:Nat) (p:Prod),(j:Int)<z.2->bu.aG.bh[j]?=some p->p.eI.length<=8)) ⟨Int.le_refl 0,by show (0:Int)<=_; omega,λh=>⟨h,λj p ah=>by have ah:(j:Int)<0:=ah; omega⟩⟩ (by show (bu.aG.bh.length:Int) - 0<_; omega) λz aY=>?_;obtain ⟨c,i⟩:=z;obtain ⟨aR,h1,ak⟩:=aY;simp only at aR h1 ak ⊢;have hw:aK (i+1)=i+1:=by rw [cI]; omega
  rw [hw];refine Tot.br (λaT=>?_) (λdU=>.aq λh=>⟨(ak h).1,λp au=>?_⟩)
  ·refine Tot.aB (Ξ:=λfT=>fT=false->c=false/\∀ p,bu.aG.bh[i.toNat]?=some p->p.eI.length<=8) ?_ λfT fo=>.aq ⟨⟨?_,?_,λh=>?_⟩,?_,?_⟩
   ·refine Tot.bF (λ_=>.aq λh=>by cases h) (λU1=>.aB (Tot.hj (Φ:=λy=>idx bu.aG.bh i=some y) aR aT λ_ h _=>h) λy ax=>.aq λh=>⟨U1,λp au=>?_⟩);have af:=(pJ ax).2.2;rw [au] at af; cases af;have:=of_decide_eq_false h;omega
   ·show 0<=i+1; omega
   ·show i+1<=(bu.aG.bh.length:Int); omega
   ·obtain ⟨aE,a2⟩:=fo h;obtain ⟨hg,iC⟩:=ak aE;refine ⟨hg,λj p ah au=>?_⟩;have ah:(j:Int)<i+1:=ah;by_cases Vl:(j:Int)<i
    ·exact iC j p Vl au
    ·have:j=i.toNat:=by omega
     subst this;exact a2 p au
   ·show i<i+1; omega
   ·show i+1<=(bu.aG.bh.length:Int); omega
  ·obtain ⟨j,ah,rfl⟩:=List.mem_iff_getElem.1 au;exact (ak h).2 j _ (by omega) (List.getElem?_eq_getElem ah)
 refine Tot.bF (λ_=>.aq λh=>absurd h (by decide)) (λaa=>.aq λ_=>?_);obtain ⟨aE,a2⟩:=HE aa;obtain ⟨hg,iC,lA⟩:=HD aE;have l6:=pn.lo;refine ⟨⟨?_,hg⟩,⟨?_,iC⟩,⟨TS,lA⟩,λp au=>?_,a2,TV⟩
 ·show 3<=mg.length; omega
 ·show 1<=k1.length; omega
 ·have:=pn.hq p au;exact this.mono (by show _<=mg.length; omega) (by show (L:Int)+bu.b_<=((k1.length:Nat):Int) - 1; omega)
theorem t62 (s:Source) (av:rN s):Tot (x4 s) λr=>r.2=true->hf r.1:=by
 unfold x4;exact .aB (t77 s av) λr ao=>.aq λh=>ao (of_decide_eq_true h)
theorem R1 (s:Source) (av:rN s):Tot (x1 s) λr=>r.2.2=true->hf r.1/\mK r.1 r.2.1:=by
 unfold x1;refine .aB (t62 s av) λr ao=>Tot.bF (λ_=>.aq λh=>by cases h) (λh=>?_);have aO:=ao (by simpa using h);refine .aB (R6 r.1 aO) λm hm=>.aq λh=>⟨aO,?_⟩;have h:m.2=0:=of_decide_eq_true h;rcases hm with hm | hm
 ·exact hm.2
 ·omega
structure Gy (g:bO) (m:List State) (cs:List Cell):Prop where
 sB:hf g
 acM:mK g m
 ce:AP g m.length cs
theorem qd (s:Source) (av:rN s):Tot (vR s) λr=>r.2.2.2=true->Gy r.1 r.2.1 r.2.2.1:=by
 unfold vR;refine .aB (R1 s av) λr ao=>Tot.bF (λ_=>.aq λh=>by cases h) (λh=>?_);obtain ⟨aO,hm⟩:=ao (by simpa using h);exact .aB (R2 r.1 aO hm) λqC NO=>.aB (A' r.1 aO hm qC NO.1 NO.2) λcs hF=>.aq λ_=>⟨aO,hm,hF⟩
def zL (g:bO) (p:Int):Int × Int:=match idx g.bh p with
 | some q=>match idx g.ba q.Prec with
  | some t=>(t.Level,t.fu)
  | none=>(0,0)
 | none=>(0,0)
def dec (g:bO) (p t:Int):Int:=match idx g.ba t with
 | some k=>if (zL g p).1=0\/k.Level=0 then 0 else if (zL g p).1<k.Level then 1 else if k.Level<(zL g p).1 then 2 else if k.fu=1 then 2 else if k.fu=2 then 1 else 3
 | none=>0
theorem S9 (g:bO) (aO:hf g) (p:Int) (au:0<=p/\p<g.bh.length):C8 g p=some (zL g p):=by
 obtain ⟨q,bg,hm⟩:=oi au.1 au.2;have av:=(aO.hq q hm).prec;unfold C8 zL;have d1:decide (p<0)=false:=decide_eq_false (by omega);have d2:decide ((g.bh.length:Int)<=p)=false:=decide_eq_false (by omega);rw [d1,d2,bg];simp only [cond_false,Option.bind_some];by_cases h:q.Prec<0
 ·rw [decide_eq_true h,Jj (.inl h)]; rfl
 ·obtain ⟨t,aw,_⟩:=oi (l:=g.ba) (i:=q.Prec) (by omega) av.2;rw [decide_eq_false h,aw]; rfl
theorem S8 (g:bO) (aO:hf g) (p t:Int) (au:0<=p/\p<g.bh.length) (aw:0<=t/\t<g.ba.length):C0 g p t=some (dec g p t):=by
 obtain ⟨k,hk,hm⟩:=oi aw.1 aw.2;unfold C0 dec;rw [S9 g aO p au,hk];have d1:decide (t<0)=false:=decide_eq_false (by omega);have d2:decide ((g.ba.length:Int)<=t)=false:=decide_eq_false (by omega);rw [d1,d2];generalize zL g p=x;simp only [cond_false,Option.bind_some];by_cases h1:x.1=0
 ·simp [h1]
 ·by_cases af:k.Level=0
  ·simp [h1,af]
  ·rw [if_neg (by omega)];simp only [h1,af,decide_false,cond_false,Option.bind_some];by_cases aI:x.1<k.Level
   ·simp [aI]
   ·by_cases bK:k.Level<x.1
    ·simp [aI,bK]
    ·by_cases cG:k.fu=1
     ·simp [aI,bK,cG]
     ·by_cases eh:k.fu=2 <;> simp [aI,bK,cG,eh]
def su (g:bO) (c:Cell):Act:=match c.bh with
 | []=>if c.lX=true then ⟨3,0⟩ else ⟨1,c.j5⟩
 | p::_=>if c.lX=true then ⟨3,0⟩ else if c.j5<0 then ⟨2,p⟩ else if dec g p c.bX=2 then ⟨2,p⟩ else if dec g p c.bX=3 then ⟨4,0⟩ else ⟨1,c.j5⟩
def y9 (g:bO) (c:Cell):List fg:=match c.bh with
 | []=>[]
 | p::r=>r.map (λx=>(⟨c.State,c.bX,p,x⟩:fg))++(if c.lX=true\/(0<=c.j5/\dec g p c.bX=0) then [(⟨c.State,c.bX,-1,p⟩:fg)] else [])
structure so (g:bO) (n:Nat) (a:Act):Prop where
 k:0<=a.Kind/\a.Kind<=4
 gY:a.Kind=0->a.N=0
 nS:a.Kind=1->0<=a.N/\a.N<n
 rk:a.Kind=2->q0 g a.N
 Xb:a.Kind=3->a.N=0
 acN:a.Kind=4->a.N=0
theorem Rg {g:bO}{n:Nat}{c:Cell}(h:o7 g n c):so g n (su g c)/\(su g c).Kind≠0:=by
 have B6:=h.YY;have aW:=h.f;have a3:so g n ⟨3,0⟩:=⟨⟨by decide,by decide⟩,λh=>(by cases h),λh=>(by cases h),λh=>(by cases h),λ_=>rfl,λh=>by cases h⟩;have a4:so g n ⟨4,0⟩:=⟨⟨by decide,by decide⟩,λh=>(by cases h),λh=>(by cases h),λh=>(by cases h),λ_=>rfl,λ_=>rfl⟩;have aE:0<=c.j5->so g n ⟨1,c.j5⟩:=λaR=>⟨⟨by show (0:Int)<=1; decide,by show (1:Int)<=4; decide⟩,λh=>(by cases h),λ_=>⟨aR,aW.2⟩,λh=>(by cases h),λh=>(by cases h),λh=>by cases h⟩;have a2:∀ p∈c.bh,so g n ⟨2,p⟩:=λp au=>⟨⟨by show (0:Int)<=2; decide,by show (2:Int)<=4; decide⟩,λh=>(by cases h),λh=>(by cases h),λ_=>h.q p au,λh=>(by cases h),λh=>by cases h⟩;unfold su;unfold ot at B6;cases cx:c.bh with
 | nil =>
  simp only;rw [cx] at B6;by_cases h1:c.lX=true
  ·rw [if_pos h1]; exact ⟨a3,by decide⟩
  ·rw [if_neg h1];rw [if_neg h1] at B6;refine ⟨aE ?_,by show (1:Int)≠0; decide⟩;by_cases af:0<=c.j5
   ·exact af
   ·rw [if_neg af] at B6; simp at B6
 | cons p r =>
  simp only;have au:=a2 p (by rw [cx]; simp);split
  ·exact ⟨a3,by decide⟩
  ·split
   ·exact ⟨au,by show (2:Int)≠0; decide⟩
   ·split
    ·exact ⟨au,by show (2:Int)≠0; decide⟩
    ·split
     ·exact ⟨a4,by decide⟩
     ·exact ⟨aE (by omega),by show (1:Int)≠0; decide⟩
theorem L5 {g:bO}(aO:hf g) {n:Nat}{c:Cell}(h:o7 g n c):(y9 g c).length<=60:=by
 have ak:=h.len aO;unfold y9;cases cx:c.bh with
 | nil=>simp
 | cons p r =>
  rw [cx,List.length_cons] at ak;simp only [List.length_append,List.length_map];split
  ·simp; omega
  ·simp; omega
theorem wT (g:bO) (aO:hf g) {n:Nat}(c:Cell) (h:o7 g n c):x3 g c=some (su g c,y9 g c):=by
 have ak:=h.len aO
 suffices aC:Tot (x3 g c) λr=>r=(su g c,y9 g c) by
  obtain ⟨r,ao,e⟩:=aC; rw [ao,e]
 unfold x3 su y9;cases cx:c.bh with
 | nil =>
  simp only;refine .aB (Ξ:=λl:List fg=>l=[]) ?_ λl ak=>?_
  ·refine Tot.loop (λs=>s=(([]:List fg),(1:Int))) (λ_=>0) rfl (by show 0<1000000000000000000; omega) λs aC=>?_;subst aC;exact .aq rfl
  ·subst ak;cases h1:c.lX
   ·exact .aq (by simp)
   ·exact .aq (by simp)
 | cons p r =>
  rw [cx,List.length_cons] at ak;simp only;have hz:idx (p::r) 0=some p:=rfl;refine .aB (Ξ:=λl:List fg=>l=r.map (λx=>(⟨c.State,c.bX,p,x⟩:fg))) ?_ λl ak=>?_
  ·refine Tot.count (λs=>s.2) ((r.length:Int)+1) (λs=>∃ k:Nat,k<=r.length/\s.2=((k+1:Nat):Int)/\s.1=(r.take k).map (λx=>(⟨c.State,c.bX,p,x⟩:fg))) ⟨0,Nat.zero_le _,rfl,rfl⟩ (by show (r.length:Int)+1 - 1<_; omega) λs aC=>?_;obtain ⟨l,i⟩:=s;obtain ⟨k,hk,he,bf⟩:=aC;simp only at he bf ⊢;subst he bf;rw [eQ (k+1) (by omega),hz];refine Tot.br (λaT=>?_) (λdU=>.aq ?_)
   ·rw [List.length_cons] at aT;have aT:k<r.length:=by omega
    have cA:idx (p::r) ((k+1:Nat):Int)=some r[k]:=by
     simp only [idx,if_pos (show (0:Int)<=((k+1:Nat):Int) by omega),Int.toNat_natCast,List.getElem?_cons_succ];exact List.getElem?_eq_getElem aT
    rw [cA];refine Tot.aV (Tot.aV (.aB (Ξ:=λ_=>True) (Tot.ap (by simp [lim]; omega) trivial) λ_ _=>.aq ⟨⟨k+1,by omega,rfl,?_⟩,by show ((k+1:Nat):Int)<((k+1+1:Nat):Int); omega,by show ((k+1+1:Nat):Int)<=(r.length:Int)+1; omega⟩));show _=(r.take (k+1)).map _;rw [lV aT,List.map_append]; rfl
   ·rw [List.length_cons] at dU;rw [List.take_of_length_le (by omega)]; rfl
  ·subst ak;have au:=h.q p (by rw [cx]; simp);have Hm:=S8 g aO p c.bX ⟨by have:=au.1; omega,au.2⟩ h.t;have dl:decide (((p::r).length:Int)=0)=false:=decide_eq_false (by simp; omega);simp only [hz,Hm,dl,cond_false,Option.bind_some];generalize ve:dec g p c.bX=v;refine ⟨_,?_,rfl⟩;have Nh:db (r.map (λx=>(⟨c.State,c.bX,p,x⟩:fg))) [(⟨c.State,c.bX,(-1),p⟩:fg)]=some (r.map (λx=>(⟨c.State,c.bX,p,x⟩:fg))++[⟨c.State,c.bX,(-1),p⟩]):=by
    unfold db; rw [if_pos (by simp [lim]; omega)]
   cases h1:c.lX
   ·by_cases af:c.j5<0
    ·have aI:¬ (0<=c.j5):=by omega
     simp [af,aI]
    ·have aI:0<=c.j5:=by omega
     by_cases bK:v=0
     ·simp [af,aI,bK,Nh]
     ·by_cases cG:v=2
      ·simp [af,aI,cG]
      ·by_cases eh:v=3
       ·simp [af,aI,eh]
       ·simp [af,aI,bK,cG,eh]
   ·simp [Nh]
def rowOf (g:bO) (l:List Cell):List Act:=l.foldl (λrow c=>row.set c.bX.toNat (su g c)) (List.replicate g.ba.length ⟨0,0⟩)
def iB (cs:List Cell) (q:Nat):List Cell:=cs.filter λc=>decide (c.State=(q:Int))
def go (m:List State) (q s:Int):Int:=(rp m q s).getD (-1)
theorem go_eq {g:bO}{m:List State}(hm:mK g m) (q s:Int):rp m q s=some (go m q s)/\GoTo m q s (go m q s):=by
 obtain ⟨r,ao,h⟩:=D7 m q s hm.xI;unfold go;rw [ao];exact ⟨rfl,h⟩
theorem Py (g:bO):∀ (l:List Cell),(rowOf g l).length=g.ba.length:=λl=>by
 suffices h:∀ (l:List Cell) (r:List Act),(l.foldl (λrow c=>row.set c.bX.toNat (su g c)) r).length=r.length by
  unfold rowOf; rw [h]; simp
 intro l
 induction l with
 | nil=>intro r; rfl
 | cons c l aU=>intro r; rw [List.foldl_cons,aU,List.length_set]
theorem X7 (g:bO) (l:List Cell) (c:Cell):rowOf g (l++[c])=(rowOf g l).set c.bX.toNat (su g c):=by
 unfold rowOf; rw [List.foldl_append]; rfl
theorem X4 {g:bO}{n:Nat}:∀ {l:List Cell},(∀ c∈l,o7 g n c)->∀ a∈rowOf g l,so g n a:=by
 intro l h
 suffices aC:∀ (l:List Cell) (r:List Act),(∀ c∈l,o7 g n c)->(∀ a∈r,so g n a)->∀ a∈l.foldl (λrow c=>row.set c.bX.toNat (su g c)) r,so g n a by
  refine aC l _ h λa aP=>?_;rw [List.eq_of_mem_replicate aP];exact ⟨⟨by decide,by decide⟩,λ_=>rfl,λh=>(by cases h),λh=>(by cases h),λh=>(by cases h),λh=>by cases h⟩
 intro l
 induction l with
 | nil=>intro r _ ao; exact ao
 | cons c l aU =>
  intro r ak ao;rw [List.foldl_cons];refine aU _ (λd aS=>ak d (by simp [aS])) λa aP=>?_;rcases List.mem_or_eq_of_mem_set aP with h | h
  ·exact ao a h
  ·rw [h]; exact (Rg (ak c (by simp))).1
def wX (g:bO) (m:List State) (q:Nat):List Int:=(List.range g.b1.length).map λa:Nat=>go m q (1000+(a:Int))
def l1 (g:bO) (l:List Cell):List fg:=l.flatMap (y9 g)
theorem Hg {g:bO}(aO:hf g) {n:Nat}:∀ {l:List Cell},(∀ c∈l,o7 g n c)->(l1 g l).length<=60 * l.length
 | [],_=>by simp [l1]
 | c::l,h=>by
  have h1:=L5 aO (h c (by simp));have af:=Hg aO (l:=l) λd aS=>h d (by simp [aS]);unfold l1 at af ⊢;rw [List.flatMap_cons,List.length_append,List.length_cons];omega
theorem Qg {α:Type}{l:List α}{k:Nat}(h:k<l.length) (p:α->Bool):(l.take (k+1)).filter p=(l.take k).filter p++(if p l[k] then [l[k]] else []):=by
 rw [lV h,List.filter_append];congr 1;rw [List.filter_cons]
 split <;> simp
structure GB (g:bO) (m:List State) (cs:List Cell) (d:gS):Prop where
 a:d.cP=(List.range m.length).map λq=>rowOf g (iB cs q)
 o:d.dS=(List.range m.length).map λq=>wX g m q
theorem RX (g:bO) (m:List State) (cs:List Cell) (et:Gy g m cs):Tot (Ab g m cs) λr=>GB g m cs r.1/\r.2=(List.range m.length).flatMap λq=>l1 g (iB cs q):=by
 obtain ⟨aO,hm,aa⟩:=et;have aw:=aO.kX;have aF:=aO.dz;have xd:=hm.nS;have Ie:=aa.n;unfold Ab;refine .aB (Ξ:=λr:List (List Act) × List (List Int) × List fg=>r.1=(List.range m.length).map (λq=>rowOf g (iB cs q))/\r.2.1=(List.range m.length).map (λq=>wX g m q)/\r.2.2=(List.range m.length).flatMap λq=>l1 g (iB cs q)) ?_ λr ao=>.aq ⟨⟨ao.1,ao.2.1⟩,ao.2.2⟩;have sG:∀ q,(l1 g (iB cs q)).length<=360000:=λq=>by
  have h1:=Hg aO (l:=iB cs q) λc u_=>aa.ok c ((List.mem_filter.1 u_).1);have af:=List.length_filter_le (λc:Cell=>decide (c.State=(q:Int))) cs;unfold iB at h1 ⊢;omega
 have Il:∀ k,((List.range k).flatMap λq=>l1 g (iB cs q)).length<=360000 * k:=λk=>by
  induction k with
  | zero=>simp
  | succ k aU =>
   rw [List.range_succ,List.flatMap_append,List.length_append];have:=sG k;simp only [List.flatMap_cons,List.flatMap_nil,List.append_nil];omega
 refine Tot.upto (λs=>s.2.2.2) m.length (λk s=>s.1=(List.range k).map (λq=>rowOf g (iB cs q))/\s.2.1=(List.range k).map (λq=>wX g m q)/\s.2.2.1=(List.range k).flatMap λq=>l1 g (iB cs q)) rfl (by omega) ⟨rfl,rfl,rfl⟩ λk s hk he bf=>?_;obtain ⟨A,G,C,i⟩:=s;obtain ⟨h1,af,aI⟩:=bf;simp only at he h1 af aI ⊢;subst he h1 af aI;rw [eQ k (by omega)];refine Tot.br (λaT=>?_) (λdU=>.aq ?_)
 ·have aT:k<m.length:=by omega
  refine .aB (Ξ:=λr=>r=List.replicate g.ba.length (⟨0,0⟩:Act)) (Tot.mk (by simp [lim]; omega) (by simp)) λtj gF=>?_;subst gF;have ab8:=Il k;refine .aB (Ξ:=λr:List fg × List Act=>r.1=(List.range k).flatMap (λq=>l1 g (iB cs q))++l1 g (iB cs k)/\r.2=rowOf g (iB cs k)) ?_ λr ao=>?_
  ·refine Tot.upto (λs=>s.2.2) cs.length (λj s=>s.1=(List.range k).flatMap (λq=>l1 g (iB cs q))++l1 g (iB (cs.take j) k)/\s.2.1=rowOf g (iB (cs.take j) k)) rfl (by omega) ⟨by simp [iB,l1],by simp [iB,rowOf]⟩ λj s ah he bf=>?_;obtain ⟨C,R,i⟩:=s;obtain ⟨h1,af⟩:=bf;simp only at he h1 af ⊢;subst he h1 af;rw [eQ j (by omega)];refine Tot.br (λeE=>?_) (λdU=>.aq ?_)
   ·have eE:j<cs.length:=by omega
    have w7:=aa.ok _ (List.getElem_mem eE);have sH:=Qg eE (λc:Cell=>decide (c.State=(k:Int)));have acD:(l1 g (iB (cs.take j) k)).length<=360000:=by
     have h1:=Hg aO (l:=iB (cs.take j) k) λc u_=>aa.ok c (List.mem_of_mem_take ((List.mem_filter.1 u_).1));have af:=List.length_filter_le (λc:Cell=>decide (c.State=(k:Int))) (cs.take j);rw [List.length_take] at af;unfold iB at h1 ⊢;omega
    rw [eu eE];generalize cs[j]=c at *;simp only [Option.bind_some];refine .aB (Ξ:=λr:List fg × List Act=>r.1=(List.range k).flatMap (λq=>l1 g (iB cs q))++l1 g (iB (cs.take (j+1)) k)/\r.2=rowOf g (iB (cs.take (j+1)) k)) ?_ λr ao=>.aq ⟨eE,rfl,ao⟩;refine .aB (Ξ:=λr:List fg × List Act=>r.1=(List.range k).flatMap (λq=>l1 g (iB cs q))++l1 g (iB (cs.take (j+1)) k)/\r.2=rowOf g (iB (cs.take (j+1)) k)) (Tot.br (λaC=>?_) (λaC=>.aq ?_)) λr ao=>.aq ao
    ·rw [decide_eq_true aC,if_pos rfl] at sH;rw [wT g aO c w7];simp only [Option.bind_some];have l7:=Py g (iB (cs.take j) k);obtain ⟨a0,w0,_⟩:=oi (l:=rowOf g (iB (cs.take j) k)) (i:=c.bX) w7.t.1 (by rw [l7]; exact w7.t.2);rw [w0];have ha:=L5 aO w7;refine Tot.aV (.aB (Ξ:=λ_=>True) (Tot.ap (by rw [List.length_append]; simp only [lim]; omega) trivial) λ_ _=>.aq ⟨?_,?_⟩)
     ·show _=_++l1 g ((cs.take (j+1)).filter _);rw [sH];unfold l1;rw [List.flatMap_append,List.append_assoc];simp [iB]
     ·show _=rowOf g ((cs.take (j+1)).filter _);rw [sH,X7]; rfl
    ·have:(if (decide (c.State=(k:Int)))=true then [c] else [])=[]:=by simp [aC]
     rw [this,List.append_nil] at sH;unfold iB;rw [sH];exact ⟨rfl,rfl⟩
   ·have e:cs.take j=cs:=List.take_of_length_le (by omega);rw [e];exact ⟨rfl,rfl⟩
  ·obtain ⟨C,R⟩:=r;obtain ⟨h1,af⟩:=ao;simp only at h1 af ⊢;subst h1 af;refine .aB (Ξ:=λr=>r=List.replicate g.b1.length (0:Int)) (Tot.mk (by simp [lim]; omega) (by simp)) λGF T9=>?_;subst T9;refine .aB (Ξ:=λr:List Int=>r=wX g m k) ?_ λr ao=>?_
   ·refine Tot.upto (λs=>s.2) g.b1.length (λj s=>s.1.length=g.b1.length/\∀ i:Nat,i<j->s.1[i]?=some (go m k (1000+(i:Int)))) rfl (by omega) ⟨by simp,λi hi=>absurd hi (Nat.not_lt_zero _)⟩ λj s ah he bf=>?_;obtain ⟨L,i⟩:=s;obtain ⟨h1,af⟩:=bf;simp only at he h1 af ⊢;subst he;rw [eQ j (by omega)];refine Tot.br (λeE=>?_) (λdU=>.aq ?_)
    ·have eE:j<L.length:=by omega
     have hw:aK (1000+(j:Int))=1000+(j:Int):=by rw [cI]; omega
     rw [hw,(go_eq hm k _).1,eu eE];refine Tot.aV (Tot.aV (.aq ⟨by omega,rfl,?_,λi hi=>?_⟩))
     ·show (L.set _ _).length=_;rw [List.length_set]; exact h1
     ·show (L.set (j:Int).toNat _)[i]?=_;rw [Int.toNat_natCast,PT eE];by_cases e:i=j
      ·subst e; rw [if_pos rfl]
      ·rw [if_neg e]; exact af i (by omega)
    ·show L=wX g m k;refine List.ext_getElem? λi=>?_;unfold wX;by_cases hi:i<g.b1.length
     ·rw [af i (by omega),List.getElem?_map,List.getElem?_range hi]; rfl
     ·rw [List.getElem?_eq_none (by omega),List.getElem?_eq_none (by simp; omega)]
   ·subst ao;refine .aB (Ξ:=λ_=>True) (Tot.ap (by simp [lim]; omega) trivial) λ_ _=>.aB (Ξ:=λ_=>True) (Tot.ap (by simp [lim]; omega) trivial) λ_ _=>.aq ⟨aT,rfl,?_,?_,?_⟩
    ·show _=(List.range (k+1)).map _;rw [List.range_succ,List.map_append]; rfl
    ·show _=(List.range (k+1)).map _;rw [List.range_succ,List.map_append]; rfl
    ·show _=(List.range (k+1)).flatMap _;rw [List.range_succ,List.flatMap_append]; simp
 ·have:k=m.length:=by omega
  subst this;exact ⟨rfl,rfl,rfl⟩
structure sr (g:bO) (n:Nat) (d:gS):Prop where
 gY:0<n/\n<=150
 sB:hf g
 a:d.cP.length=n
 jS:∀ r∈d.cP,r.length=g.ba.length/\∀ a∈r,so g n a
 o:d.dS.length=n
 xQ:∀ r∈d.dS,r.length=g.b1.length/\∀ v∈r,-1<=v/\v<n
theorem GB.aL {g:bO}{m:List State}{cs:List Cell}{d:gS}(h:GB g m cs d) (et:Gy g m cs):sr g m.length d:=by
 obtain ⟨aO,hm,aa⟩:=et;refine ⟨⟨hm.gY,hm.nS⟩,aO,by rw [h.a]; simp,λr ao=>?_,by rw [h.o]; simp,λr ao=>?_⟩
 ·rw [h.a] at ao;obtain ⟨q,_,rfl⟩:=List.mem_map.1 ao;exact ⟨Py g _,X4 λc u_=>aa.ok c (List.mem_filter.1 u_).1⟩
 ·rw [h.o] at ao;obtain ⟨q,_,rfl⟩:=List.mem_map.1 ao;refine ⟨by simp [wX],λv hv=>?_⟩;obtain ⟨a,_,rfl⟩:=List.mem_map.1 hv;exact (go_eq hm q _).2.aL hm
theorem XU {g:bO}(aO:hf g) {n:Nat}{cs:List Cell}(aa:AP g n cs) {f:Cell->Option Int}(aW:∀ c:Cell,c.bh.length<=1000->f c=some (ot c:Int)):Tot (b4 (R:=Int) (λ(s1:Int × Int) =>
(bif decide (s1.2<(cs.length:Int)) then
((idx cs s1.2).bind λbB =>
(f bB).bind λbP =>
((bif decide (1<bP) then
some (aK (s1.1+1))
else
some s1.1)).bind λfe =>
some fe).bind λkQ =>
some (.inl (kQ,aK (s1.2+1)))
else
some (.inr s1.1))) (0,0)) λr=>r=((cs.filter λc=>decide (1<ot c)).length:Int):=by
 have Ie:=aa.n;refine Tot.upto (λs=>s.2) cs.length (λk s=>s.1=(((cs.take k).filter λc=>decide (1<ot c)).length:Int)) rfl (by omega) rfl λk s hk he bf=>?_;obtain ⟨z,i⟩:=s;simp only at he bf ⊢;subst he bf;rw [eQ k (by omega)];refine Tot.br (λaT=>?_) (λdU=>.aq ?_)
 ·have aT:k<cs.length:=by omega
  have U3:=aa.ok _ (List.getElem_mem aT);have sH:=Qg aT (λc:Cell=>decide (1<ot c));have sG:=List.length_filter_le (λc:Cell=>decide (1<ot c)) (cs.take k);rw [List.length_take] at sG;rw [eu aT];generalize cs[k]=c at *;have ha:=U3.len aO;rw [show (some c).bind=λ(f:Cell->Option Int)=>f c from rfl]
  simp only [aW c (by omega),Option.bind_some];refine .aB (Ξ:=λz:Int=>z=(((cs.take (k+1)).filter λc=>decide (1<ot c)).length:Int)) ?_ λr ao=>.aq ⟨aT,rfl,ao⟩;rw [sH];refine .aB (Ξ:=λz:Int=>z=(((cs.take k).filter (λc=>decide (1<ot c))++if decide (1<ot c)=true then [c] else []).length:Int)) (Tot.br (λh=>.aq ?_) (λh=>.aq ?_)) λr ao=>.aq ao
  ·have:1<ot c:=by omega
   rw [eQ _ (by omega)];simp [this]
  ·have:¬ 1<ot c:=by omega
   simp [this]
 ·have e:cs.take k=cs:=List.take_of_length_le (by omega);rw [e]; rfl
theorem tw {g:bO}(aO:hf g) {n:Nat}{cs:List Cell}(aa:AP g n cs):Tot (CQ cs) λr=>r=((cs.filter λc=>decide (1<ot c)).length:Int):=by
 unfold CQ;exact .aB (XU aO aa Mm) λr ao=>.aq ao
theorem RT (s:Source) (av:rN s):Tot (s0 s) λr=>r.2.2.2=true->∃ n,sr r.1 n r.2.1:=by
 unfold s0;refine .aB (qd s av) λr ao=>Tot.bF (λ_=>.aq λh=>by cases h) (λh=>?_);have et:=ao (by simpa using h);exact .aB (RX _ _ _ et) λd aS=>.aB (tw et.sB et.ce) λ_ _=>.aq λ_=>⟨_,aS.1.aL et⟩
theorem S7 (a:Act):Ah a=uw a:=by
 grind [Ah,uw]
theorem Ml (n:Int):Ae n=x0 n:=by
 grind [Ae,x0]
theorem Y7 (a:Act):Tot (uw a) λ_=>True:=by
 unfold uw
 repeat' first | apply Tot.bi | refine Tot.bF (λ_=>?_) (λ_=>?_) | exact Tot.aq trivial | apply Tot.aq
theorem Y8 (n:Int):Tot (x0 n) λ_=>True:=by
 grind [x0,Tot.aq]
def pa (l:List Int) (v:Int):Prop:=(l=[]/\v=-1)\/(v∈l/\∀ x∈l,l.count x<l.count v\/(l.count x=l.count v/\v<=x))
theorem pa.uniq {l:List Int}{v w:Int}(h:pa l v) (aQ:pa l w):v=w:=by
 rcases h with ⟨h1,af⟩ | ⟨h1,af⟩ <;> rcases aQ with ⟨aI,bK⟩ | ⟨aI,bK⟩
 ·omega
 ·subst h1; cases aI
 ·subst aI; cases h1
 ·have a:=af w aI;have b:=bK v h1;omega
theorem wP (l:List Int) (y x:Int):(l++[y]).count x=l.count x+(if y=x then 1 else 0):=by
 rw [List.count_append];by_cases e:y=x
 ·subst e; simp
 ·rw [if_neg e,List.count_eq_zero.2 λhm=>e (List.mem_singleton.1 hm).symm]
theorem SR {l:List Int}{x:Int}(h:x∈l):0<l.count x:=List.count_pos_iff.2 h
theorem pa.snoc {l:List Int}{b y:Int}(h:pa l b) (aR:∀ x∈l,0<=x) (ax:0<=y):pa (l++[y]) (if b<0\/(l++[y]).count b<(l++[y]).count y\/((l++[y]).count y=(l++[y]).count b/\y<b) then y else b):=by
 refine .inr ?_;rcases h with ⟨rfl,rfl⟩ | ⟨av,hm⟩
 ·rw [if_pos (.inl (by decide))];refine ⟨by simp,λx J=>?_⟩;rw [List.nil_append,List.mem_singleton] at J;subst J; exact .inr ⟨rfl,Int.le_refl _⟩
 ·have Es:=aR b av;have key:∀ x∈l++[y],x∈l\/x=y:=λx J=>by simpa using J
  have wR:(l++[y]).count y=l.count y+1:=by rw [wP,if_pos rfl]
  by_cases Nk:b=y
  ·subst Nk;rw [if_neg (by omega)];refine ⟨by simp,λx J=>?_⟩;rw [wR];by_cases e:x=b
   ·subst e; exact .inr ⟨wR,Int.le_refl _⟩
   ·rw [wP,if_neg (λh=>e h.symm)];rcases key x J with J | J
    ·have:=hm x J; omega
    ·exact absurd J e
  ·have j9:(l++[y]).count b=l.count b:=by rw [wP,if_neg (λh=>Nk h.symm)]; rfl
   by_cases aa:b<0\/(l++[y]).count b<(l++[y]).count y\/((l++[y]).count y=(l++[y]).count b/\y<b)
   ·rw [if_pos aa];rw [j9,wR] at aa;refine ⟨by simp,λx J=>?_⟩;rw [wR];by_cases e:x=y
    ·subst e; exact .inr ⟨wR,Int.le_refl _⟩
    ·rw [wP,if_neg (λh=>e h.symm)];rcases key x J with J | J
     ·have:=hm x J; omega
     ·exact absurd J e
   ·rw [if_neg aa];rw [j9,wR] at aa;refine ⟨by simp [av],λx J=>?_⟩;rw [j9];by_cases e:x=y
    ·subst e; rw [wR]; omega
    ·rw [wP,if_neg (λh=>e h.symm)];rcases key x J with J | J
     ·have:=hm x J; omega
     ·exact absurd J e
theorem Jy {x:Int}(h:-1<=x/\x<=1000000):sf x=true:=by unfold sf; rw [decide_eq_true]; omega
theorem y8 (l:List Int) (ak:l.length<=100000) (aR:∀ x∈l,0<=x/\x<=1000000):Tot (vT l) (pa l):=by
 unfold vT;refine .aB (Ξ:=pa l) ?_ λr ao=>.aq ao;refine Tot.upto (λs=>s.2.2) l.length (λk s=>s.1.length=k/\(∀ x,(o0 s.1 x).getD 0=((l.take k).count x:Int))/\pa (l.take k) s.2.1) rfl (by omega) ⟨rfl,λx=>by simp [o0],.inl ⟨rfl,rfl⟩⟩ λk s hk he bf=>?_;obtain ⟨m,b,i⟩:=s;obtain ⟨h1,af,aI⟩:=bf;simp only at he h1 af aI ⊢;subst he;rw [eQ k (by omega)];refine Tot.br (λaT=>?_) (λdU=>.aq ?_)
 ·have aT:k<l.length:=by omega
  have ax:=aR _ (List.getElem_mem aT);have gj:=lV aT;have Nb:∀ x∈l.take k,0<=x/\x<=1000000:=λx J=>aR x (List.mem_of_mem_take J);have ha:=List.count_le_length (a:=l[k]) (l:=l.take k);rw [eu aT];generalize l[k]=y at *;have av:-1<=b/\b<=1000000:=by
   rcases aI with ⟨_,rfl⟩ | ⟨h,_⟩
   ·omega
   ·have:=Nb b h; omega
  rw [List.length_take] at ha;have cA:sh sf 0 m y=some ((l.take k).count y:Int):=by unfold sh; rw [if_pos (Jy ⟨by omega,ax.2⟩),af]
  have cf:aK (((l.take k).count y:Int)+1)=(((l.take k).count y+1:Nat):Int):=eQ _ (by omega);have fP:zN sf m y (((l.take k).count y+1:Nat):Int)=some ((y,(((l.take k).count y+1:Nat):Int))::m):=by
   unfold zN;rw [Jy ⟨by omega,ax.2⟩,Bool.true_and,if_pos (decide_eq_true (by simp only [lim]; omega))]
  have NQ:∀ x,(o0 ((y,(((l.take k).count y+1:Nat):Int))::m) x).getD 0=((l.take (k+1)).count x:Int):=λx=>by
   rw [gj,wP];unfold o0;by_cases e:y=x
   ·subst e; rw [if_pos rfl,if_pos rfl]; rfl
   ·rw [if_neg e,if_neg e,af]; rfl
  have mR:∀ x,(-1<=x/\x<=1000000)->sh sf 0 ((y,(((l.take k).count y+1:Nat):Int))::m) x=some ((l.take (k+1)).count x:Int):=λx J=>by unfold sh; rw [if_pos (Jy J),NQ]
  have aC:=aI.snoc (y:=y) (λx J=>(Nb x J).1) ax.1;rw [<- gj] at aC;have iq:=List.count_le_length (a:=y) (l:=l.take (k+1));have tS:=List.count_le_length (a:=b) (l:=l.take (k+1));rw [List.length_take] at iq tS;simp only [Option.bind_some,cA,cf,fP,mR y ⟨by omega,ax.2⟩,mR b av];have hw:aK (((l.take (k+1)).count y:Int) - ((l.take (k+1)).count b:Int))=((l.take (k+1)).count y:Int) - ((l.take (k+1)).count b:Int):=by rw [cI]; omega
  rw [hw];refine .aB (Ξ:=λr:List (Int × Int) × Int=>r.1=(y,(((l.take k).count y+1:Nat):Int))::m/\pa (l.take (k+1)) r.2) ?_ λr ao=>.aq ⟨aT,rfl,by rw [ao.1]; simp [h1],by rw [ao.1]; exact NQ,ao.2⟩;refine .aB (Ξ:=λc:Bool=>c=decide (b<0\/(l.take (k+1)).count b<(l.take (k+1)).count y\/((l.take (k+1)).count y=(l.take (k+1)).count b/\y<b))) ?_ λc aa=>?_
  ·refine Tot.br (λh=>.aq (decide_eq_true (.inl h)).symm) (λh=>Tot.br (λaQ=>.aq (decide_eq_true (.inr (.inl (by omega)))).symm) (λaQ=>Tot.br (λaf=>.aq ?_) (λaf=>.aq (decide_eq_false (by omega)).symm)));exact decide_eq_decide.2 (by omega)
  ·subst aa;refine .aB (Ξ:=λz=>z=(if b<0\/(l.take (k+1)).count b<(l.take (k+1)).count y\/((l.take (k+1)).count y=(l.take (k+1)).count b/\y<b) then y else b)) (Tot.br (λh=>.aq (if_pos h).symm) (λh=>.aq (if_neg h).symm)) λz aY=>.aq ⟨rfl,?_⟩
   show pa _ z;rw [aY]; exact aC
 ·have e:l.take k=l:=List.take_of_length_le (by omega);rw [e] at aI;exact aI
theorem y7 (l:List Int) (ak:l.length<=100000) (aR:∀ x∈l,0<=x/\x<=1000000):Tot (vS l) (pa l):=by
 unfold vS;refine .aB (Ξ:=λr:List Int=>fS iR r/\r.length<=l.length/\∀ x,x∈r↔x∈l) ?_ λD jJ=>?_
 ·refine Tot.upto (λs=>s.2) l.length (λk s=>fS iR s.1/\s.1.length<=k/\∀ x,x∈s.1↔x∈l.take k) rfl (by omega) ⟨.nil,Nat.le_refl 0,λx=>by simp⟩ λk s hk he bf=>?_;obtain ⟨r,i⟩:=s;obtain ⟨h1,af,aI⟩:=bf;simp only at he h1 af aI ⊢;subst he;rw [eQ k (by omega)];refine Tot.br (λaT=>?_) (λdU=>.aq ?_)
  ·have aT:k<l.length:=by omega
   have gj:=lV aT;rw [eu aT];generalize l[k]=y at *;refine Tot.aV (.aB (D8 r y h1 (by omega)) λdn ec=>.aq ⟨aT,rfl,ec.1,by have:=ec.2.1; show dn.length<=k+1; omega,λx=>?_⟩);rw [gj,List.mem_append,List.mem_singleton,<- aI];exact ec.2.2 x
  ·have e:l.take k=l:=List.take_of_length_le (by omega);rw [e] at aI;exact ⟨h1,by omega,aI⟩
 ·obtain ⟨T3,abT,Em⟩:=jJ;refine .aB (Ξ:=λr:Int=>pa l r) ?_ λr ao=>.aq ao;refine Tot.upto (λs=>s.2.2) D.length (λk s=>(k=0/\s.1=-1/\s.2.1=0)\/(s.1∈D.take k/\s.2.1=(l.count s.1:Int)/\∀ x∈D.take k,l.count x<l.count s.1\/(l.count x=l.count s.1/\s.1<=x))) rfl (by omega) (.inl ⟨rfl,rfl,rfl⟩) λk s hk he bf=>?_;obtain ⟨b,n,i⟩:=s;simp only at he bf ⊢;subst he;rw [eQ k (by omega)];refine Tot.br (λaT=>?_) (λdU=>.aq ?_)
  ·have aT:k<D.length:=by omega
   have gj:=lV aT;have ER:=List.getElem_mem aT;have ub:∀ x∈D.take k,x<D[k]:=λx J=>by
    obtain ⟨j,ah,rfl⟩:=List.mem_iff_getElem.1 J;rw [List.length_take] at ah;rw [List.getElem_take];exact OJ.1 (LG T3 (by omega) aT (by omega))
   rw [eu aT];generalize D[k]=y at *;have EP:=(Em y).1 ER;refine .aB (Ξ:=λr:Int × Int=>r.1∈D.take (k+1)/\r.2=(l.count r.1:Int)/\∀ x∈D.take (k+1),l.count x<l.count r.1\/(l.count x=l.count r.1/\r.1<=x)) ?_ λr ao=>.aq ⟨aT,rfl,.inr ao⟩;refine .aB (Ξ:=λz:Int=>z=(l.count y:Int)) ?_ λz aY=>?_
   ·refine Tot.upto (λs=>s.2) l.length (λj s=>s.1=((l.take j).count y:Int)) rfl (by omega) (by simp) λj s ah he bf=>?_;obtain ⟨z,i⟩:=s;simp only at he bf ⊢;subst he bf;rw [eQ j (by omega)];refine Tot.br (λeE=>?_) (λdU=>.aq ?_)
    ·have eE:j<l.length:=by omega
     have nM:=lV eE;have ha:=List.count_le_length (a:=y) (l:=l.take j);rw [List.length_take] at ha;rw [eu eE];generalize l[j]=x at *;simp only [Option.bind_some];refine .aB (Ξ:=λz:Int=>z=((l.take (j+1)).count y:Int)) ?_ λz aY=>.aq ⟨eE,rfl,aY⟩;rw [nM,wP];refine .aB (Ξ:=λz:Int=>z=(((l.take j).count y+if x=y then 1 else 0:Nat):Int)) (Tot.br (λe=>.aq ?_) (λe=>.aq ?_)) λz aY=>.aq aY
     ·rw [if_pos e,eQ _ (by omega)]
     ·rw [if_neg e]; rfl
    ·have e:l.take j=l:=List.take_of_length_le (by omega);rw [e]; rfl
   ·subst aY;refine .aB (Ξ:=λr:Int × Int=>r.1∈D.take (k+1)/\r.2=(l.count r.1:Int)/\∀ x∈D.take (k+1),l.count x<l.count r.1\/(l.count x=l.count r.1/\r.1<=x)) ?_ λr ao=>.aq ao;have w8:=SR EP;rw [gj];have key:∀ x∈D.take k++[y],x∈D.take k\/x=y:=λx J=>by simpa using J
    refine Tot.br (λaa=>Tot.aV (.aq ⟨by simp,rfl,λx J=>?_⟩)) (λaa=>?_)
    ·rcases key x J with J | rfl
     ·rcases bf with ⟨rfl,_,_⟩ | ⟨h1,af,aI⟩
      ·simp at J
      ·have:=aI x J; show l.count x<l.count y\/_; omega
     ·exact .inr ⟨rfl,Int.le_refl _⟩
    ·rcases bf with ⟨rfl,_,rfl⟩ | ⟨h1,af,aI⟩
     ·omega
     ·refine .aq ⟨by simp [h1],af,λx J=>?_⟩;rcases key x J with J | rfl
      ·exact aI x J
      ·have:=ub b h1;have aa:¬ ((n:Int)<(l.count x:Int)):=aa;have af:n=(l.count b:Int):=af;show l.count x<l.count b\/(l.count x=l.count b/\b<=x);omega
  ·have e:D.take k=D:=List.take_of_length_le (by omega);rw [e] at bf;rcases bf with ⟨rfl,rfl,_⟩ | ⟨h1,af,aI⟩
   ·have:D=[]:=List.eq_nil_of_length_eq_zero (by omega);refine .inl ⟨?_,rfl⟩;refine List.eq_nil_iff_forall_not_mem.2 λx J=>?_;have:=(Em x).2 J
    subst_vars
    cases this
   ·exact .inr ⟨(Em b).1 h1,λx J=>aI x ((Em x).2 J)⟩
def jy (l:List Int):Int:=(vS l).getD (-1)
def GH (l:List Int):Prop:=l.length<=100000/\∀ x∈l,0<=x/\x<=1000000
theorem Fl {l:List Int}(h:GH l):vT l=some (jy l)/\vS l=some (jy l)/\pa l (jy l):=by
 obtain ⟨v,hv,h1⟩:=y8 l h.1 h.2;obtain ⟨w,hw,af⟩:=y7 l h.1 h.2;have e:jy l=w:=by unfold jy; rw [hw]; rfl
 have cf:=h1.uniq af
 grind
def ix {α:Type}(keep:α->Bool) (val:α->Int) (l:List α):List ca:=(l.zipIdx.filter λp=>keep p.1).map λp=>(⟨(p.2:Nat),val p.1⟩:ca)
theorem FB {α:Type}(keep:α->Bool) (val:α->Int) (l:List α) (x:α):ix keep val (l++[x])=ix keep val l++(if keep x=true then [(⟨l.length,val x⟩:ca)] else []):=by
 grind [ix]
theorem vX {α:Type}(keep:α->Bool) (val:α->Int) (l:List α):(ix keep val l).length<=l.length:=by
 grind [ix,List.length_zipIdx]
theorem W6 {α:Type}{keep:α->Bool}{val:α->Int}{l:List α}{p:ca}:p∈ix keep val l↔∃ (k:Nat) (x:α),l[k]?=some x/\keep x=true/\p=⟨k,val x⟩:=by
 unfold ix;rw [List.mem_map];constructor
 ·grind
 ·rintro ⟨k,x,h1,af,rfl⟩;exact ⟨(x,k),by rw [List.mem_filter,List.mem_zipIdx_iff_getElem?]; exact ⟨h1,af⟩,rfl⟩
def red (r:List Act):List Int:=(r.filter λa=>decide (a.Kind=2)).map (·.N)
theorem Pu (r:List Act) (a:Act):red (r++[a])=red r++(if a.Kind=2 then [a.N] else []):=by
 grind [red]
theorem Kc (r:List Act):(red r).length<=r.length:=by
 grind [red]
def mQ (a:Act):Int:=(uw a).getD 0
theorem L7 (a:Act):Ah a=some (mQ a)/\uw a=some (mQ a):=by
 obtain ⟨c,aa,_⟩:=Y7 a
 grind [mQ,S7]
def lO (d:Int) (a:Act):Bool:=!decide (a.Kind=0)&&(!decide (a.Kind=2)||!decide (a.N=d))
def lS (r:List Act):Row:=⟨jy (red r),ix (lO (jy (red r))) mQ r⟩
def lP (d v:Int):Bool:=decide (0<=v)&&!decide (v=d)
def pos (c:List Int):List Int:=c.filter λv=>decide (0<=v)
theorem Po (r:List Int) (a:Int):pos (r++[a])=pos r++(if 0<=a then [a] else []):=by
 grind [pos]
def ln (c:List Int):Row:=⟨jy (pos c),ix (lP (jy (pos c))) id c⟩
def ef (d:gS) (a:Nat):List Int:=d.dS.map λr=>r.getD a 0
theorem Pt {g:bO}{n:Nat}(aO:hf g) {r:List Act}(ak:r.length=g.ba.length) (h:∀ a∈r,so g n a):GH (red r):=by
 have aw:=aO.kX;have au:=aO.ia;have:=Kc r;refine ⟨by omega,λx J=>?_⟩;unfold red at J;obtain ⟨a,aP,rfl⟩:=List.mem_map.1 J;rw [List.mem_filter] at aP;have hk:=(h a aP.1).rk (of_decide_eq_true aP.2);have h1:=hk.1;have af:=hk.2;omega
theorem Pn {c:List Int}(ak:c.length<=150) (h:∀ v∈c,v<150):GH (pos c):=by
 have:=List.length_filter_le (λv:Int=>decide (0<=v)) c;refine ⟨by unfold pos; omega,λx J=>?_⟩
 grind [pos]
theorem tx (g:bO) (n:Nat) (d:gS) (aS:sr g n d):Tot (CR d) λr=>r=d.cP.map lS:=by
 have aO:=aS.sB;have aw:=aO.kX;have aF:=aS.gY;have aP:=aS.a;unfold CR;refine .aB (Ξ:=λr:List Row=>r=d.cP.map lS) ?_ λr ao=>.aq ao;refine Tot.upto (λs=>s.2) d.cP.length (λk s=>s.1=(d.cP.take k).map lS) rfl (by omega) rfl λk s hk he bf=>?_;obtain ⟨R,i⟩:=s;simp only at he bf ⊢;subst he bf;rw [eQ k (by omega)];refine Tot.br (λaT=>?_) (λdU=>.aq ?_)
 ·have aT:k<d.cP.length:=by omega
  have gj:=lV aT;obtain ⟨l7,sM⟩:=aS.jS _ (List.getElem_mem aT);simp only [eu aT,Option.bind_some];generalize d.cP[k]=r at *;have nL:=Pt aO l7 sM;obtain ⟨wT,Bh,_⟩:=Fl nL;refine .aB (Ξ:=λl:List Int=>l=red r) ?_ λl ak=>?_
  ·refine Tot.upto (λs=>s.2) r.length (λj s=>s.1=red (r.take j)) rfl (by omega) rfl λj s ah he bf=>?_;obtain ⟨L,i⟩:=s;simp only at he bf ⊢;subst he bf;rw [eQ j (by omega)];refine Tot.br (λeE=>?_) (λdU=>.aq ?_)
   ·have eE:j<r.length:=by omega
    have nM:=lV eE;have hlen:=Kc (r.take j);rw [List.length_take] at hlen;simp only [eu eE,Option.bind_some];generalize r[j]=a at *;refine .aB (Ξ:=λL:List Int=>L=red (r.take (j+1))) ?_ λr ao=>.aq ⟨eE,rfl,ao⟩;rw [nM,Pu];refine .aB (Ξ:=λL:List Int=>L=red (r.take j)++(if a.Kind=2 then [a.N] else [])) (Tot.br (λh=>?_) (λh=>.aq ?_)) λr ao=>.aq ao
    ·rw [if_pos h];exact .aB (Ξ:=λ_=>True) (Tot.ap (by simp [lim]; omega) trivial) λ_ _=>.aq rfl
    grind
   grind
  ·subst ak;rw [wT];refine Tot.aV (.aB (Ξ:=λl:List ca=>l=ix (lO (jy (red r))) mQ r) ?_ λl ak=>?_)
   ·generalize jy (red r)=D;refine Tot.upto (λs=>s.2) r.length (λj s=>s.1=ix (lO D) mQ (r.take j)) rfl (by omega) rfl λj s ah he bf=>?_;obtain ⟨L,i⟩:=s;simp only at he bf ⊢;subst he bf;rw [eQ j (by omega)];refine Tot.br (λeE=>?_) (λdU=>.aq ?_)
    ·have eE:j<r.length:=by omega
     have nM:=lV eE;have hlen:=vX (lO D) mQ (r.take j);have eZ:(r.take j).length=j:=by rw [List.length_take]; omega
     rw [List.length_take] at hlen;simp only [eu eE,Option.bind_some];generalize r[j]=a at *;rw [(L7 a).1];refine .aB (Ξ:=λL:List ca=>L=ix (lO D) mQ (r.take (j+1))) ?_ λr ao=>.aq ⟨eE,rfl,ao⟩;rw [nM,FB,eZ];refine .aB (Ξ:=λc:Bool=>c=lO D a) (Tot.bF (λh=>?_) (λh=>.aq ?_)) λc aa=>?_
     ·refine Tot.bF (λaf=>.aq ?_) (λaf=>.aq ?_)
      all_goals grind [lO]
     ·grind [lO]
     subst aa;refine .aB (Ξ:=λL:List ca=>L=ix (lO D) mQ (r.take j)++(if lO D a=true then [(⟨j,mQ a⟩:ca)] else [])) (Tot.bF (λh=>?_) (λh=>.aq ?_)) λr ao=>.aq ao
     ·rw [if_pos h];exact Tot.aV (.aB (Ξ:=λ_=>True) (Tot.ap (by simp [lim]; omega) trivial) λ_ _=>.aq rfl)
     grind
    grind
   ·subst ak;refine .aB (Ξ:=λ_=>True) (Tot.ap (by simp [lim]; omega) trivial) λ_ _=>.aq ⟨aT,rfl,?_⟩
    grind [lS]
 grind
theorem tv (g:bO) (n:Nat) (d:gS) (aS:sr g n d):Tot (z8 d) λr=>r=d.cP.map lS:=by
 have aO:=aS.sB;have aw:=aO.kX;have aF:=aS.gY;have aP:=aS.a;unfold z8;refine .aB (Ξ:=λr:List Row=>r=d.cP.map lS) ?_ λr ao=>.aq ao;refine Tot.upto (λs=>s.2) d.cP.length (λk s=>s.1=(d.cP.take k).map lS) rfl (by omega) rfl λk s hk he bf=>?_;obtain ⟨R,i⟩:=s;simp only at he bf ⊢;subst he bf;rw [eQ k (by omega)];refine Tot.br (λaT=>?_) (λdU=>.aq ?_)
 ·have aT:k<d.cP.length:=by omega
  have gj:=lV aT;obtain ⟨l7,sM⟩:=aS.jS _ (List.getElem_mem aT);simp only [eu aT,Option.bind_some];generalize d.cP[k]=r at *;have nL:=Pt aO l7 sM;obtain ⟨wT,Bh,_⟩:=Fl nL;refine .aB (Ξ:=λl:List Int=>l=red r) ?_ λl ak=>?_
  ·refine Tot.upto (λs=>s.2) r.length (λj s=>s.1=red (r.take j)) rfl (by omega) rfl λj s ah he bf=>?_;obtain ⟨L,i⟩:=s;simp only at he bf ⊢;subst he bf;rw [eQ j (by omega)];refine Tot.br (λeE=>?_) (λdU=>.aq ?_)
   ·have eE:j<r.length:=by omega
    have nM:=lV eE;have hlen:=Kc (r.take j);rw [List.length_take] at hlen;simp only [eu eE,Option.bind_some];generalize r[j]=a at *;refine .aB (Ξ:=λL:List Int=>L=red (r.take (j+1))) ?_ λr ao=>.aq ⟨eE,rfl,ao⟩;rw [nM,Pu];refine .aB (Ξ:=λL:List Int=>L=red (r.take j)++(if a.Kind=2 then [a.N] else [])) (Tot.br (λh=>?_) (λh=>.aq ?_)) λr ao=>.aq ao
    ·rw [if_pos h];exact .aB (Ξ:=λ_=>True) (Tot.ap (by simp [lim]; omega) trivial) λ_ _=>.aq rfl
    grind
   grind
  ·subst ak;rw [Bh];refine Tot.aV (.aB (Ξ:=λl:List ca=>l=ix (lO (jy (red r))) mQ r) ?_ λl ak=>?_)
   ·generalize jy (red r)=D;refine Tot.upto (λs=>s.2) r.length (λj s=>s.1=ix (lO D) mQ (r.take j)) rfl (by omega) rfl λj s ah he bf=>?_;obtain ⟨L,i⟩:=s;simp only at he bf ⊢;subst he bf;rw [eQ j (by omega)];refine Tot.br (λeE=>?_) (λdU=>.aq ?_)
    ·have eE:j<r.length:=by omega
     have nM:=lV eE;have hlen:=vX (lO D) mQ (r.take j);have eZ:(r.take j).length=j:=by rw [List.length_take]; omega
     rw [List.length_take] at hlen;simp only [eu eE,Option.bind_some];generalize r[j]=a at *;rw [(L7 a).2];refine .aB (Ξ:=λL:List ca=>L=ix (lO D) mQ (r.take (j+1))) ?_ λr ao=>.aq ⟨eE,rfl,ao⟩;rw [nM,FB,eZ];refine .aB (Ξ:=λc:Bool=>c=lO D a) (Tot.bF (λh=>?_) (λh=>.aq ?_)) λc aa=>?_
     ·refine Tot.bF (λaf=>.aq ?_) (λaf=>.aq ?_)
      all_goals grind [lO]
     ·grind [lO]
     subst aa;refine .aB (Ξ:=λL:List ca=>L=ix (lO D) mQ (r.take j)++(if lO D a=true then [(⟨j,mQ a⟩:ca)] else [])) (Tot.bF (λh=>?_) (λh=>.aq ?_)) λr ao=>.aq ao
     ·rw [if_pos h];exact Tot.aV (.aB (Ξ:=λ_=>True) (Tot.ap (by simp [lim]; omega) trivial) λ_ _=>.aq rfl)
     grind
    grind
   ·subst ak;refine .aB (Ξ:=λ_=>True) (Tot.ap (by simp [lim]; omega) trivial) λ_ _=>.aq ⟨aT,rfl,?_⟩
    grind [lS]
 grind
theorem wO (d:gS) (a:Nat):(ef d a).length=d.dS.length:=by simp [ef]
theorem D9 {d:gS}{a q:Nat}(h:q<d.dS.length):(ef d a).take (q+1)=(ef d a).take q++[(d.dS[q]).getD a 0]:=by
 rw [lV (by rw [wO]; exact h)];congr 2;simp [ef]
theorem L8 {g:bO}{n:Nat}{d:gS}(aS:sr g n d) {a:Nat}(aP:a<g.b1.length):∀ v∈ef d a,-1<=v/\v<n:=λv hv=>by
 unfold ef at hv;obtain ⟨r,ao,rfl⟩:=List.mem_map.1 hv;obtain ⟨h1,af⟩:=aS.xQ r ao;refine af _ ?_;rw [List.getD_eq_getElem?_getD,List.getElem?_eq_getElem (by omega)];exact List.getElem_mem _
theorem EX {r:List Int}{a:Nat}(h:a<r.length):idx r (a:Int)=some (r.getD a 0):=by
 rw [eu h,List.getD_eq_getElem?_getD,List.getElem?_eq_getElem h]; rfl
theorem Pm (c:List Int):(pos c).length<=c.length:=List.length_filter_le ..
theorem RY (g:bO) (n:Nat) (d:gS) (aS:sr g n d):Tot (CS d) λr=>r=(List.range g.b1.length).map λa=>ln (ef d a):=by
 have aO:=aS.sB;have aw:=aO.dz;have aF:=aS.gY;have aP:=aS.o;have aR:0<d.dS.length:=by omega
 obtain ⟨VO,_⟩:=aS.xQ _ (List.getElem_mem aR);have i0:idx d.dS 0=some d.dS[0]:=eu (k:=0) aR;unfold CS;refine Tot.br (λh=>absurd h (by omega)) (λ_=>?_);rw [i0];refine Tot.aV (.aB (Ξ:=λr:List Row=>r=(List.range g.b1.length).map λa=>ln (ef d a)) ?_ λr ao=>.aq ao);refine Tot.upto (λs=>s.2) g.b1.length (λk s=>s.1=(List.range k).map λa=>ln (ef d a)) rfl (by omega) rfl λk s hk he bf=>?_;obtain ⟨R,i⟩:=s;simp only at he bf ⊢;subst he bf;rw [eQ k (by omega)];refine Tot.br (λaT=>?_) (λdU=>.aq ?_)
 ·have h_:k<g.b1.length:=by omega
  have nL:=Pn (c:=ef d k) (by rw [wO]; omega) λv hv=>by have:=(L8 aS h_ v hv).2; omega
  obtain ⟨wT,Bh,_⟩:=Fl nL;have ha:=wO d k;refine .aB (Ξ:=λl:List Int=>l=pos (ef d k)) ?_ λl ak=>?_
  ·refine Tot.upto (λs=>s.2) d.dS.length (λj s=>s.1=pos ((ef d k).take j)) rfl (by omega) rfl λj s ah he bf=>?_;obtain ⟨L,i⟩:=s;simp only at he bf ⊢;subst he bf;rw [eQ j (by omega)];refine Tot.br (λeE=>?_) (λdU=>.aq ?_)
   ·have eE:j<d.dS.length:=by omega
    have nM:=D9 (a:=k) eE;have hlen:=Pm ((ef d k).take j);rw [List.length_take] at hlen;obtain ⟨l7,_⟩:=aS.xQ _ (List.getElem_mem eE);simp only [eu eE,Option.bind_some,EX (show k<(d.dS[j]).length by omega)];generalize (d.dS[j]).getD k 0=v at *;refine .aB (Ξ:=λL:List Int=>L=pos ((ef d k).take (j+1))) ?_ λr ao=>.aq ⟨eE,rfl,ao⟩;rw [nM,Po];refine .aB (Ξ:=λL:List Int=>L=pos ((ef d k).take j)++(if 0<=v then [v] else [])) (Tot.br (λh=>?_) (λh=>.aq ?_)) λr ao=>.aq ao
    ·rw [if_pos h];exact .aB (Ξ:=λ_=>True) (Tot.ap (by simp [lim]; omega) trivial) λ_ _=>.aq rfl
    ·rw [if_neg h,List.append_nil]
   ·have e:(ef d k).take j=ef d k:=List.take_of_length_le (by omega);rw [e]; rfl
  ·subst ak;rw [wT];refine Tot.aV (.aB (Ξ:=λl:List ca=>l=ix (lP (jy (pos (ef d k)))) id (ef d k)) ?_ λl ak=>?_)
   ·generalize jy (pos (ef d k))=D;refine Tot.upto (λs=>s.2) d.dS.length (λj s=>s.1=ix (lP D) id ((ef d k).take j)) rfl (by omega) rfl λj s ah he bf=>?_;obtain ⟨L,i⟩:=s;simp only at he bf ⊢;subst he bf;rw [eQ j (by omega)];refine Tot.br (λeE=>?_) (λdU=>.aq ?_)
    ·have eE:j<d.dS.length:=by omega
     have nM:=D9 (a:=k) eE;have hlen:=vX (lP D) id ((ef d k).take j);have eZ:((ef d k).take j).length=j:=by rw [List.length_take]; omega
     rw [eZ] at hlen;obtain ⟨l7,_⟩:=aS.xQ _ (List.getElem_mem eE);simp only [eu eE,Option.bind_some,EX (show k<(d.dS[j]).length by omega)];generalize (d.dS[j]).getD k 0=v at *;refine .aB (Ξ:=λL:List ca=>L=ix (lP D) id ((ef d k).take (j+1))) ?_ λr ao=>.aq ⟨eE,rfl,ao⟩;rw [nM,FB,eZ];refine .aB (Ξ:=λc:Bool=>c=lP D v) (Tot.bF (λh=>.aq ?_) (λh=>.aq ?_)) λc aa=>?_
     ·unfold lP; rw [h]; rfl
     ·unfold lP; rw [h]; rfl
     subst aa;refine .aB (Ξ:=λL:List ca=>L=ix (lP D) id ((ef d k).take j)++(if lP D v=true then [(⟨j,id v⟩:ca)] else [])) (Tot.bF (λh=>?_) (λh=>.aq ?_)) λr ao=>.aq ao
     ·rw [if_pos h];exact .aB (Ξ:=λ_=>True) (Tot.ap (by simp [lim]; omega) trivial) λ_ _=>.aq rfl
     ·rw [if_neg (by rw [h]; decide),List.append_nil]
    ·have e:(ef d k).take j=ef d k:=List.take_of_length_le (by omega);rw [e]; rfl
   ·subst ak;refine .aB (Ξ:=λ_=>True) (Tot.ap (by simp [lim]; omega) trivial) λ_ _=>.aq ⟨h_,rfl,?_⟩;show _=(List.range (k+1)).map λa=>ln (ef d a);rw [List.range_succ,List.map_append]; rfl
 ·have:k=g.b1.length:=by omega
  subst this; rfl
theorem ny (g:bO) (n:Nat) (d:gS) (aS:sr g n d):Tot (z_ d) λr=>r=(List.range g.b1.length).map λa=>ln (ef d a):=by
 have aO:=aS.sB;have aw:=aO.dz;have aF:=aS.gY;have aP:=aS.o;have aR:0<d.dS.length:=by omega
 obtain ⟨VO,_⟩:=aS.xQ _ (List.getElem_mem aR);have i0:idx d.dS 0=some d.dS[0]:=eu (k:=0) aR;have g0:decide ((0:Int)<(d.dS.length:Int))=true:=decide_eq_true (by omega);unfold z_;refine .aB (Ξ:=λr:List Row=>r=(List.range g.b1.length).map λa=>ln (ef d a)) ?_ λr ao=>.aq ao;refine Tot.upto (λs=>s.2) g.b1.length (λk s=>s.1=(List.range k).map λa=>ln (ef d a)) rfl (by omega) rfl λk s hk he bf=>?_;obtain ⟨R,i⟩:=s;simp only at he bf ⊢;subst he bf;rw [eQ k (by omega),g0,i0];simp only [cond_true,Option.bind_some];refine Tot.br (λaT=>?_) (λdU=>.aq ?_)
 ·have h_:k<g.b1.length:=by omega
  have nL:=Pn (c:=ef d k) (by rw [wO]; omega) λv hv=>by have:=(L8 aS h_ v hv).2; omega
  obtain ⟨wT,Bh,_⟩:=Fl nL;have ha:=wO d k;refine .aB (Ξ:=λl:List Int=>l=pos (ef d k)) ?_ λl ak=>?_
  ·refine Tot.upto (λs=>s.2) d.dS.length (λj s=>s.1=pos ((ef d k).take j)) rfl (by omega) rfl λj s ah he bf=>?_;obtain ⟨L,i⟩:=s;simp only at he bf ⊢;subst he bf;rw [eQ j (by omega)];refine Tot.br (λeE=>?_) (λdU=>.aq ?_)
   ·have eE:j<d.dS.length:=by omega
    have nM:=D9 (a:=k) eE;have hlen:=Pm ((ef d k).take j);rw [List.length_take] at hlen;obtain ⟨l7,_⟩:=aS.xQ _ (List.getElem_mem eE);simp only [eu eE,Option.bind_some,EX (show k<(d.dS[j]).length by omega)];generalize (d.dS[j]).getD k 0=v at *;refine .aB (Ξ:=λL:List Int=>L=pos ((ef d k).take (j+1))) ?_ λr ao=>.aq ⟨eE,rfl,ao⟩;rw [nM,Po];refine .aB (Ξ:=λL:List Int=>L=pos ((ef d k).take j)++(if 0<=v then [v] else [])) (Tot.br (λh=>?_) (λh=>.aq ?_)) λr ao=>.aq ao
    ·rw [if_pos h];exact .aB (Ξ:=λ_=>True) (Tot.ap (by simp [lim]; omega) trivial) λ_ _=>.aq rfl
    ·rw [if_neg h,List.append_nil]
   ·have e:(ef d k).take j=ef d k:=List.take_of_length_le (by omega);rw [e]; rfl
  ·subst ak;rw [Bh];refine Tot.aV (.aB (Ξ:=λl:List ca=>l=ix (lP (jy (pos (ef d k)))) id (ef d k)) ?_ λl ak=>?_)
   ·generalize jy (pos (ef d k))=D;refine Tot.upto (λs=>s.2) d.dS.length (λj s=>s.1=ix (lP D) id ((ef d k).take j)) rfl (by omega) rfl λj s ah he bf=>?_;obtain ⟨L,i⟩:=s;simp only at he bf ⊢;subst he bf;rw [eQ j (by omega)];refine Tot.br (λeE=>?_) (λdU=>.aq ?_)
    ·have eE:j<d.dS.length:=by omega
     have nM:=D9 (a:=k) eE;have hlen:=vX (lP D) id ((ef d k).take j);have eZ:((ef d k).take j).length=j:=by rw [List.length_take]; omega
     rw [eZ] at hlen;obtain ⟨l7,_⟩:=aS.xQ _ (List.getElem_mem eE);simp only [eu eE,Option.bind_some,EX (show k<(d.dS[j]).length by omega)];generalize (d.dS[j]).getD k 0=v at *;refine .aB (Ξ:=λL:List ca=>L=ix (lP D) id ((ef d k).take (j+1))) ?_ λr ao=>.aq ⟨eE,rfl,ao⟩;rw [nM,FB,eZ];refine .aB (Ξ:=λc:Bool=>c=lP D v) (Tot.bF (λh=>.aq ?_) (λh=>.aq ?_)) λc aa=>?_
     ·unfold lP; rw [h]; rfl
     ·unfold lP; rw [h]; rfl
     subst aa;refine .aB (Ξ:=λL:List ca=>L=ix (lP D) id ((ef d k).take j)++(if lP D v=true then [(⟨j,id v⟩:ca)] else [])) (Tot.bF (λh=>?_) (λh=>.aq ?_)) λr ao=>.aq ao
     ·rw [if_pos h];exact .aB (Ξ:=λ_=>True) (Tot.ap (by simp [lim]; omega) trivial) λ_ _=>.aq rfl
     ·rw [if_neg (by rw [h]; decide),List.append_nil]
    ·have e:(ef d k).take j=ef d k:=List.take_of_length_le (by omega);rw [e]; rfl
   ·subst ak;refine .aB (Ξ:=λ_=>True) (Tot.ap (by simp [lim]; omega) trivial) λ_ _=>.aq ⟨h_,rfl,?_⟩;show _=(List.range (k+1)).map λa=>ln (ef d a);rw [List.range_succ,List.map_append]; rfl
 ·have:k=g.b1.length:=by omega
  subst this; rfl
theorem XR {α:Type}(keep:α->Bool) (val:α->Int) (l:List α):(ix keep val l).Pairwise λa b=>a.At<b.At:=by
 unfold ix;rw [List.pairwise_map];refine List.Pairwise.sublist List.filter_sublist ?_;rw [List.pairwise_iff_getElem];intro i j hi ah acg;simp only [List.getElem_zipIdx];omega
abbrev fF:=List ca
structure ly (r:fF):Prop where
 mn:∀ p∈r,0<=p.At/\p.At<=999
 nd:(r.map (·.At)).Nodup
def Fit (iD:List Int) (r:fF) (b:Nat):Prop:=∀ p∈r,iD.getD (b+p.At.toNat) 0=0
theorem sR {α:Type}{l:List α}{k:Nat}(h:k<l.length):idx l (k:Int)=some l[k]:=by simp [idx,h]
theorem Si (p:ca) (b:Nat) (iD:List Int) (au:0<=p.At/\p.At<=999) (av:b<=1000000000000) (aa:iD.length<=1000000000000):Tot (C_ p b iD) λc=>(c=true↔iD.getD (b+p.At.toNat) 0≠0):=by
 unfold C_;have hw:aK ((b:Int)+p.At)=((b+p.At.toNat:Nat):Int):=by rw [cI]; omega
 rw [hw];refine .aB (Ξ:=λc=>(c=true↔iD.getD (b+p.At.toNat) 0≠0)) (Tot.br (λh=>?_) (λh=>.aq ?_)) λc aa=>.aq aa
 ·have ak:b+p.At.toNat<iD.length:=by omega
  rw [sR ak];refine Tot.aV (.aq ?_);rw [List.getD_eq_getElem?_getD,List.getElem?_eq_getElem ak];simp
 ·have ak:¬ b+p.At.toNat<iD.length:=by omega
  rw [List.getD_eq_getElem?_getD,List.getElem?_eq_none (by omega)];simp
theorem Sb (iD:List Int) (r:fF) (b:Nat) (ao:∀ p∈r,0<=p.At/\p.At<=999) (ak:r.length<=100000) (av:b<=1000000000000) (aa:iD.length<=1000000000000):Tot (x6 iD r b) λc=>(c=true↔Fit iD r b):=by
 unfold x6 Fw Fu;refine .aB (Ξ:=λx=>x=true↔¬ Fit iD r b) (.aB (Ξ:=λx=>(x=-1/\Fit iD r b)\/(0<=x/\¬ Fit iD r b)) ?_ λx J=>.aq ?_) λx J=>.aq ?_
 ·refine Tot.aB (Tot.scan r (λp=>iD.getD (b+p.At.toNat) 0=0) (λx:Int=>0<=x/\¬ Fit iD r b) (by omega) (λs y aR h1 hi hm=>?_) (λs aC=>by simp [aC])) λx J=>?_
  ·refine Tot.br (λ_=>?_) (λh=>absurd h1 h);rw [hi];refine Tot.aV (.aB (Si y b iD (ao y hm) av aa) λc Nl=>Tot.bF (λh=>.aq ⟨aR,λaW=>(Nl.1 h) (aW y hm)⟩) (λh=>.aq ⟨?_,?_⟩))
   ·rw [cI]; omega
   ·exact Classical.byContradiction λaF=>by rw [Nl.2 aF] at h; cases h
  ·rcases x with _ | x
   ·exact .aq (.inl ⟨rfl,J⟩)
   ·exact .aq (.inr J)
 ·rcases J with ⟨rfl,aW⟩ | ⟨aR,aW⟩
  ·simp [aW]
  ·simp [aR,aW]
 ·cases x <;> simp_all
theorem q6 (l:List Int) (h:l.length<=100000000000000000):Tot (oV l l) λc=>c=true:=by
 unfold oV;refine Tot.qe (λh=>absurd rfl h) (λ_=>?_);refine Tot.aB (Tot.scan l (λ_=>True) (λ_=>False) h (λs y aR h1 hi hm=>?_) (λs aC=>by simp [aC])) λx J=>?_
 ·refine Tot.br (λ_=>?_) (λh=>absurd h1 h);rw [hi];refine Tot.aV (Tot.aV (Tot.qe (λh=>absurd rfl h) (λ_=>.aq ⟨?_,trivial⟩)));rw [cI]; omega
 ·rcases x with _ | x
  ·exact .aq rfl
  ·exact (J:False).elim
theorem R4 (a b:Int):ux a b=some (if a<b then -1 else if b<a then 1 else 0):=by
 unfold ux;have h:∀ x,vV x=some false:=λx=>by simp [vV]
 rw [h,h];by_cases h1:a<b
 ·simp [h1]
 ·by_cases af:b<a <;> simp [h1,af]
theorem Sa (a b:Int):C1 [a,b]=some (if a=0 then b else a):=by
 unfold C1;have gR:∀ (f:Int->Option (Int ⊕ (Unit ⊕ Int))),f 0=(if a=0 then some (.inl 1) else some (.inr (.inr a)))->f 1=(if b=0 then some (.inl 2) else some (.inr (.inr b)))->f 2=some (.inr (.inl ()))->b4 f 0=some (if a=0 then (if b=0 then .inl () else .inr b) else .inr a):=by
  intro f x y z;show iter f (999999999999999997+1+1+1) _=_;by_cases aP:a=0
  ·by_cases av:b=0 <;> simp only [iter,x,y,z,aP,av,if_true,if_false]
  ·simp only [iter,x,aP,if_false]
 rw [gR _ ?_ ?_ ?_]
 ·by_cases aP:a=0
  ·by_cases av:b=0 <;> simp [aP,av]
  ·simp [aP]
 ·show (bif decide ((0:Int)<2) then _ else _)=_;have e:idx [a,b] 0=some a:=rfl;simp only [e,Option.bind_some];by_cases aP:a=0 <;> simp [aP];rfl
 ·show (bif decide ((1:Int)<2) then _ else _)=_;have e:idx [a,b] 1=some b:=rfl;simp only [e,Option.bind_some];by_cases av:b=0 <;> simp [av];rfl
 ·rfl
def DJ (rows:List fF) (a b:Int):Prop:=∃ x y,idx rows a=some x/\idx rows b=some y/\(y.length<x.length\/(x.length=y.length/\a<b))
theorem EY {α:Type}{l:List α}{i:Int}(aR:0<=i) (h1:i<l.length):∃ y,idx l i=some y/\y∈l:=by
 have aT:i.toNat<l.length:=by omega
 exact ⟨l[i.toNat],by simp [idx,aR,aT],List.getElem_mem aT⟩
theorem R_ (rows:List fF) (a b:Int) (aP:0<=a/\a<rows.length) (av:0<=b/\b<rows.length):∃ v,vU a b rows=some v/\(v<0↔DJ rows a b):=by
 obtain ⟨x,J,_⟩:=EY aP.1 aP.2;obtain ⟨y,ax,_⟩:=EY av.1 av.2;unfold vU;rw [J,ax];simp only [Option.bind_some,R4,Sa];have fj:DJ rows a b↔(y.length<x.length\/(x.length=y.length/\a<b)):=by
  unfold DJ;rw [J,ax];constructor
  ·rintro ⟨x',y',cA,cf,h⟩;cases cA; cases cf; exact h
  ·intro h;exact ⟨x,y,rfl,rfl,h⟩
 refine ⟨_,rfl,?_⟩;rw [fj];by_cases h1:(y.length:Int)<x.length
 ·simp only [h1,if_true];rw [if_neg (by decide)];constructor
  ·intro _; exact .inl (by omega)
  ·intro _; decide
 ·by_cases af:(x.length:Int)<y.length
  ·simp only [h1,af,if_true,if_false];rw [if_neg (by decide)];constructor
   ·intro h; exact absurd h (by decide)
   ·rintro (h | ⟨h,_⟩) <;> omega
  ·simp only [h1,af,if_false,if_true];by_cases aI:a<b
   ·simp only [aI,if_true];constructor
    ·intro _; exact .inr ⟨by omega,trivial⟩
    ·intro _; decide
   ·simp only [aI,if_false];constructor
    ·intro h
     split at h <;> omega
    ·rintro (h | ⟨_,h⟩)
     ·omega
     ·exact h.elim
structure ti (c:fA) (r:fF) (i b:Nat) (v b9:List Int):Prop where
 len:v.length=b9.length
 lo:c.b5.length<=b9.length
 Ol:∀ p∈r,b+p.At.toNat<b9.length
 hi:b9.length=c.b5.length\/∃ p∈r,b9.length=b+p.At.toNat+1
 iD:∀ p∈r,b9.getD (b+p.At.toNat) 0=(i:Int)+1
 Be:∀ k,(∀ p∈r,b+p.At.toNat≠k)->b9.getD k 0=c.b5.getD k 0
 val:∀ p∈r,v.getD (b+p.At.toNat) 0=p.b8
 KH:∀ k,(∀ p∈r,b+p.At.toNat≠k)->v.getD k 0=c.b8.getD k 0
structure Step (r:fF) (i:Nat) (c fT:fA) (b:Nat):Prop where
 fit:Fit c.b5 r b
 least:∀ eC,eC<b->¬ Fit c.b5 r eC
 base:fT.cS=c.cS.set i (b:Int)
 put:ti c r i b fT.b8 fT.b5
theorem Fit.same {iD:List Int}{r dn:fF}(h:∀ p,p∈r↔p∈dn) {b:Nat}:Fit iD r b↔Fit iD dn b :=
 ⟨λf p au=>f p ((h p).2 au),λf p au=>f p ((h p).1 au)⟩
inductive dQ (rows:List fF):List Nat->fA->Prop
 | nil:dQ rows [] ⟨List.replicate rows.length 0,[],[]⟩
 | cons {i b:Nat}{l:List Nat}{c fT:fA}{r:fF}(ao:rows[i]?=some r) (hi:i∉l) (h:dQ rows l c) (aC:Step r i c fT b):dQ rows (i::l) fT
theorem dQ.len {rows:List fF}{l:List Nat}{c:fA}(h:dQ rows l c):c.b8.length=c.b5.length/\c.cS.length=rows.length:=by
 induction h with
 | nil=>simp
 | cons _ _ _ aC aU=>exact ⟨aC.put.len,by rw [aC.base,List.length_set]; exact aU.2⟩
theorem dQ.rest {rows:List fF}{l:List Nat}{c:fA}(h:dQ rows l c):∀ j,j<rows.length->j∉l->c.cS[j]?=some 0:=by
 induction h with
 | nil=>intro j ah _; simp [ah]
 | @cons i b l c fT r ao hi h aC aU =>
  intro j ah aF;rw [aC.base,List.getElem?_set_ne (by rintro rfl; exact aF (by simp))];exact aU j ah λbY=>aF (by simp [bY])
theorem pad (x y:Int) (K:Nat) (dj:aK (x+y)=(K:Int)) (abY:K<=1000000000) (v b9:List Int) (ak:v.length=b9.length) (av:b9.length<=1000000000) :
  Tot (b4 (R:=List Int × List Int) (λ(s:List Int × List Int) =>
(bif decide ((s.2.length:Int)<=aK (x+y)) then
(db s.2 [0]).bind λc0 =>
(db s.1 [0]).bind λgn =>
some (.inl (s.1++[0],s.2++[0]))
else
some (.inr (s.1,s.2)))) (v,b9)) λr=>r.1.length=r.2.length/\r.2.length=max b9.length (K+1)/\(∀ k,r.1.getD k 0=v.getD k 0)/\∀ k,r.2.getD k 0=b9.getD k 0:=by
 have app:∀ (l:List Int) k,(l++[0]).getD k 0=l.getD k 0:=by
  intro l k;rw [List.getD_eq_getElem?_getD,List.getD_eq_getElem?_getD];by_cases hk:k<l.length
  ·rw [List.getElem?_append_left hk]
  ·rw [List.getElem?_append_right (by omega),List.getElem?_eq_none (l:=l) (by omega)];by_cases aR:k - l.length=0
   ·rw [aR]; rfl
   ·rw [List.getElem?_eq_none (by simp; omega)]
 refine Tot.loop (λs=>s.1.length=s.2.length/\b9.length<=s.2.length/\s.2.length<=max b9.length (K+1)/\(∀ k,s.1.getD k 0=v.getD k 0)/\∀ k,s.2.getD k 0=b9.getD k 0) (λs=>(K+1) - s.2.length) ⟨ak,Nat.le_refl _,Nat.le_max_left _ _,λ_=>rfl,λ_=>rfl⟩ (by show (K+1) - b9.length<1000000000000000000; omega) λs aC=>?_;obtain ⟨h1,af,aI,bK,cG⟩:=aC;rw [dj];refine Tot.br (λhle=>?_) (λaca=>.aq ⟨h1,?_,bK,cG⟩)
 ·refine .aB (Ξ:=λ_=>True) (Tot.ap (by simp [lim]; omega) trivial) λ_ _=>.aB (Ξ:=λ_=>True) (Tot.ap (by simp [lim]; omega) trivial) λ_ _=>.aq ⟨⟨?_,?_,?_,λk=>?_,λk=>?_⟩,?_⟩
  ·show (s.1++[0]).length=(s.2++[0]).length; simp [h1]
  ·show b9.length<=(s.2++[0]).length; simp; omega
  ·show (s.2++[0]).length<=_; simp; omega
  ·exact (app _ _).trans (bK k)
  ·exact (app _ _).trans (cG k)
  ·show (K+1) - (s.2++[0]).length<(K+1) - s.2.length;simp; omega
 ·show s.2.length=_; omega
theorem zf (l:List Int) (K k:Nat) (x:Int) (h:K<l.length):(l.set K x).getD k 0=if k=K then x else l.getD k 0:=by
 rw [List.getD_eq_getElem?_getD,List.getElem?_set];by_cases e:k=K
 ·subst e; simp [h]
 ·simp [e,Ne.symm e,List.getD_eq_getElem?_getD]
theorem ti.more {c:fA}{r:fF}{p:ca}{i b:Nat}{v b9 gx Bd:List Int}(h:ti c r i b v b9) (au:∀ q∈r,q.At.toNat≠p.At.toNat) (ak:gx.length=Bd.length) (hlen:Bd.length=max b9.length (b+p.At.toNat+1)) (hv:∀ k,gx.getD k 0=v.getD k 0) (aa:∀ k,Bd.getD k 0=b9.getD k 0) :
  ti c (r++[p]) i b (gx.set (b+p.At.toNat) p.b8) (Bd.set (b+p.At.toNat) ((i:Int)+1)):=by
 have dj:b+p.At.toNat<Bd.length:=by omega
 have mem:∀ {Q:ca->Prop},(∀ q∈r,Q q)->Q p->∀ q∈r++[p],Q q:=λh1 af q bg=>by
  rcases List.mem_append.1 bg with bg | bg
  ·exact h1 q bg
  ·rw [List.mem_singleton.1 bg]; exact af
 refine ⟨by simp [ak],?_,mem (λq bg=>?_) ?_,?_,mem (λq bg=>?_) ?_,λk hk=>?_,mem (λq bg=>?_) ?_,λk hk=>?_⟩
 ·rw [List.length_set]; have:=h.lo; omega
 ·rw [List.length_set]; have:=h.Ol q bg; omega
 ·rw [List.length_set]; exact dj
 ·rw [List.length_set];by_cases hm:b9.length<=b+p.At.toNat+1
  ·exact .inr ⟨p,by simp,by omega⟩
  ·rcases h.hi with e | ⟨q,bg,e⟩
   ·exact .inl (by omega)
   ·exact .inr ⟨q,by simp [bg],by omega⟩
 ·rw [zf _ _ _ _ dj,if_neg (by have:=au q bg; omega),aa]; exact h.iD q bg
 ·rw [zf _ _ _ _ dj,if_pos rfl]
 ·rw [zf _ _ _ _ dj,if_neg (λe=>hk p (by simp) e.symm),aa]; exact h.Be k λq bg=>hk q (by simp [bg])
 ·rw [zf _ _ _ _ (by rw [ak]; exact dj),if_neg (by have:=au q bg; omega),hv]; exact h.val q bg
 ·rw [zf _ _ _ _ (by rw [ak]; exact dj),if_pos rfl]
 ·rw [zf _ _ _ _ (by rw [ak]; exact dj),if_neg (λe=>hk p (by simp) e.symm),hv]; exact h.KH k λq bg=>hk q (by simp [bg])
theorem ti.nil (c:fA) (i b:Nat) (ak:c.b8.length=c.b5.length):ti c [] i b c.b8 c.b5 :=
 ⟨ak,Nat.le_refl _,λ_ h=>absurd h (by simp),.inl rfl,λ_ h=>absurd h (by simp),λ_ _=>rfl,λ_ h=>absurd h (by simp),λ_ _=>rfl⟩
theorem Fit.Mv {iD:List Int}{r:fF}{b:Nat}(h:iD.length<=b):Fit iD r b:=λp _=>by
 rw [List.getD_eq_getElem?_getD,List.getElem?_eq_none (by omega)]; rfl
theorem PU {r:fF}{k:Nat}(ao:ly r) (hk:k<r.length):∀ q∈r.take k,q.At.toNat≠(r[k]).At.toNat:=by
 intro q bg e;obtain ⟨j,ah,rfl⟩:=List.mem_iff_getElem.1 bg;rw [List.length_take] at ah;have eZ:j<r.length:=by omega
 rw [List.getElem_take] at e;have h1:=ao.mn _ (List.getElem_mem eZ);have af:=ao.mn _ (List.getElem_mem hk);have fp:=ao.nd;have:=(List.getElem_inj (h₀:=by simpa using eZ) (h₁:=by simpa using hk) fp).1 (by simp only [List.getElem_map]; omega);omega
structure p9 (rows:List fF):Prop where
 n:rows.length<=400
 rows:∀ r∈rows,ly r
structure DU (rows:List fF):Prop where
 n:rows.length<=1000
 r:∀ r∈rows,r.length<=1000
theorem Yl (rows:List fF) (fj:DU rows) (i:Nat) (r:fF) (ao:rows[i]?=some r) (lL:ly r) (c:fA) (aa:c.b5.length<=900000) (aR:c.cS[i]?=some 0) (fits:List Int->fF->Int->Option Bool)
  (aW:∀ b:Nat,b<=1000000->Tot (fits c.b5 r b) λx=>(x=true↔Fit c.b5 r b)) :
  Tot (b4 (R:=List Int) (λ(df:List Int) =>
(idx rows (i:Int)).bind λfI =>
(idx df (i:Int)).bind λfz =>
(fits c.b5 fI fz).bind λfL =>
(bif !fL then
(idx df (i:Int)).bind λgA =>
some (.inl (df.set (i:Int).toNat (aK (gA+1))))
else
some (.inr df))) c.cS) λB=>∃ b:Nat,B=c.cS.set i (b:Int)/\Fit c.b5 r b/\(∀ eC,eC<b->¬ Fit c.b5 r eC)/\b<=c.b5.length:=by
 have tW:i<c.cS.length:=(List.getElem?_eq_some_iff.1 aR).1;have tV:idx rows (i:Int)=some r:=by simp [idx,ao]
 have VU:c.cS=c.cS.set i 0:=by
  apply List.ext_getElem?;intro k;rw [List.getElem?_set];by_cases e:i=k
  ·subst e; rw [aR]; simp [tW]
  ·simp [e]
 have key:Tot (b4 (R:=List Int) (λ(df:List Int) =>
(idx rows (i:Int)).bind λfI =>
(idx df (i:Int)).bind λfz =>
(fits c.b5 fI fz).bind λfL =>
(bif !fL then
(idx df (i:Int)).bind λgA =>
some (.inl (df.set (i:Int).toNat (aK (gA+1))))
else
some (.inr df))) (c.cS.set i 0)) λB=>∃ b:Nat,B=c.cS.set i (b:Int)/\Fit c.b5 r b/\(∀ eC,eC<b->¬ Fit c.b5 r eC)/\b<=c.b5.length:=by
  refine Tot.loop (λs=>∃ b:Nat,s=c.cS.set i (b:Int)/\(∀ eC,eC<b->¬ Fit c.b5 r eC)/\b<=c.b5.length) (λs=>c.b5.length+1 - (s.getD i 0).toNat) ⟨0,rfl,λeC h=>absurd h (Nat.not_lt_zero _),Nat.zero_le _⟩ (by show c.b5.length+1 - _<1000000000000000000; omega) λs aC=>?_;obtain ⟨b,rfl,ak,av⟩:=aC;have VX:idx (c.cS.set i (b:Int)) (i:Int)=some (b:Int):=by
   simp [idx,tW]
  rw [tV,VX];refine Tot.aV (Tot.aV (.aB (aW b (by omega)) λx J=>?_));refine Tot.bF (λh=>Tot.aV (.aq ⟨⟨b+1,?_,λeC l3=>?_,?_⟩,?_⟩)) (λh=>.aq ⟨b,rfl,J.1 (by simpa using h),ak,av⟩)
  ·have hw:aK ((b:Int)+1)=((b+1:Nat):Int):=by rw [cI]; omega
   rw [hw];show (c.cS.set i (b:Int)).set i _=_;rw [List.set_set]
  ·by_cases e:eC=b
   ·subst e;intro w9;rw [J.2 w9] at h; cases h
   ·exact ak eC (by omega)
  ·have:¬ c.b5.length<=b:=λaQ=>by
    rw [J.2 (Fit.Mv aQ)] at h; cases h
   omega
  ·have hw:aK ((b:Int)+1)=((b+1:Nat):Int):=by rw [cI]; omega
   rw [hw];show c.b5.length+1 - ((((c.cS.set i (b:Int)).set i ((b+1:Nat):Int)).getD i 0).toNat)<c.b5.length+1 - ((c.cS.set i (b:Int)).getD i 0).toNat;rw [List.set_set];have g:∀ x:Int,(c.cS.set i x).getD i 0=x:=λx=>by simp [List.getD_eq_getElem?_getD,tW]
   rw [g,g];have:¬ c.b5.length<=b:=λaQ=>by
    rw [J.2 (Fit.Mv aQ)] at h; cases h
   omega
 rw [<- VU] at key;exact key
theorem XT (r:fF) (lL:ly r) (l7:r.length<=1000) (i b:Nat) (hi:i<=100000) (c:fA) (ha:c.b8.length=c.b5.length) (aa:c.b5.length<=900000) (av:b<=c.b5.length)
  (f:List Int × List Int × Int->Option ((List Int × List Int × Int) ⊕ (List Int × List Int)))
  (aW:∀ (v b9:List Int) (k:Nat) (hk:k<r.length),f (v,b9,(k:Int))=(b4 (R:=List Int × List Int) (λ(s:List Int × List Int) =>
(bif decide ((s.2.length:Int)<=aK ((b:Int)+(r[k]).At)) then
(db s.2 [0]).bind λc0 =>
(db s.1 [0]).bind λgn =>
some (.inl (s.1++[0],s.2++[0]))
else
some (.inr (s.1,s.2)))) (v,b9)).bind λeo =>
(idx eo.2 (aK ((b:Int)+(r[k]).At))).bind λrI =>
(idx eo.1 (aK ((b:Int)+(r[k]).At))).bind λjB =>
some (.inl (eo.1.set (aK ((b:Int)+(r[k]).At)).toNat (r[k]).b8,eo.2.set (aK ((b:Int)+(r[k]).At)).toNat (aK ((i:Int)+1)),aK ((k:Int)+1))))
  (he:∀ (v b9:List Int) (k:Int),¬ k<r.length->f (v,b9,k)=some (.inr (v,b9))) :
  Tot (b4 f (c.b8,c.b5,0)) λx=>ti c r i b x.1 x.2/\x.2.length<=c.b5.length+1000:=by
 refine Tot.count (λs=>s.2.2) r.length (λs=>∃ k:Nat,k<=r.length/\s.2.2=(k:Int)/\ti c (r.take k) i b s.1 s.2.1) ⟨0,Nat.zero_le _,rfl,ti.nil c i b ha⟩ (by show (r.length:Int) - 0<_; omega) λs aC=>?_;obtain ⟨v,b9,kT⟩:=s;obtain ⟨k,hk,rfl,cx⟩:=aC;simp only at cx ⊢;by_cases aT:k<r.length
 ·rw [aW v b9 k aT];have au:=lL.mn _ (List.getElem_mem aT);have dj:aK ((b:Int)+(r[k]).At)=((b+(r[k]).At.toNat:Nat):Int):=by rw [cI]; omega
  have ab4:b9.length<=1000000:=by
   rcases cx.hi with e | ⟨q,bg,e⟩
   ·omega
   ·have:=lL.mn q (List.mem_of_mem_take bg);omega
  refine .aB (pad _ _ _ dj (by omega) v b9 cx.len (by omega)) λx J=>?_;obtain ⟨h1,af,aI,bK⟩:=J;rw [dj];have zr:b+(r[k]).At.toNat<x.2.length:=by omega
  have Vv:b+(r[k]).At.toNat<x.1.length:=by omega
  rw [sR zr,sR Vv];have Wd:aK ((i:Int)+1)=(i:Int)+1:=by rw [cI]; omega
  have qs:aK ((k:Int)+1)=((k+1:Nat):Int):=by rw [cI]; omega
  rw [Wd,qs];refine Tot.aV (Tot.aV (.aq ⟨⟨k+1,by omega,rfl,?_⟩,?_,?_⟩))
  ·rw [List.take_add_one,List.getElem?_eq_getElem aT];exact cx.more (PU lL aT) h1 af aI bK
  ·grind
  grind
 ·rw [he v b9 k (by omega)];have:k=r.length:=by omega
  subst this;rw [List.take_length] at cx;refine .aq ⟨cx,?_⟩;show b9.length<=c.b5.length+1000;rcases cx.hi with e | ⟨q,bg,e⟩
  ·omega
  ·have:=lL.mn q bg;omega
theorem ly.snoc {r:fF}{p:ca}(h:ly r) (au:0<=p.At/\p.At<=999) (aF:p.At∉r.map (·.At)):ly (r++[p]):=by
 refine ⟨λq bg=>?_,?_⟩
 ·rcases List.mem_append.1 bg with bg | bg
  ·exact h.mn q bg
  ·rw [List.mem_singleton.1 bg]; exact au
 ·rw [List.map_append,List.nodup_append];refine ⟨h.nd,by simp,λa aP b av e=>?_⟩;have av:b∈[p.At]:=av;rw [List.mem_singleton.1 av] at e;exact aF (e ▸ aP)
theorem ly.nil:ly []:=⟨λ_ h=>absurd h (by simp),by simp⟩
theorem ly.bad {r:fF}{k:Nat}(hk:k<r.length) (h:¬ (0<=(r[k]).At/\(r[k]).At<=999)\/(r[k]).At∈(r.take k).map (·.At)):¬ ly r:=by
 intro ao;rcases h with h | h
 ·exact h (ao.mn _ (List.getElem_mem hk))
 ·obtain ⟨q,bg,e⟩:=List.mem_map.1 h;exact PU ao hk q bg (by have e:q.At=(r[k]).At:=e; rw [e])
theorem X9 {rows:List fF}{r:fF}(ao:r∈rows) (h:¬ ly r):¬ p9 rows:=λbY=>h (bY.rows r ao)
theorem KD {r:fF}{k:Nat}(h:k<r.length):r.take (k+1)=r.take k++[r[k]]:=by
 rw [List.take_add_one,List.getElem?_eq_getElem h]; rfl
theorem R9 (rows:List fF) (fj:DU rows):Tot (Ak rows) λc=>(c=true↔p9 rows):=by
 unfold Ak;have aF:=fj.n;refine Tot.br (λh=>.aq ⟨λh=>(by cases h),λbY=>by have:=bY.n; omega⟩) (λabF=>?_);refine Tot.aB (Tot.scan rows ly (λx:Bool=>x=false/\¬ p9 rows) (by omega) (λs r aR h1 hi hm=>?_) (λs aC=>by simp [aC])) λx J=>?_
 ·refine Tot.br (λ_=>?_) (λh=>absurd h1 h);rw [hi];have l7:=fj.r r hm;refine Tot.aV (.aB (Ξ:=hK (λ_=>ly r) (λx:Bool=>x=false/\¬ p9 rows)) ?_ λx J=>?_)
  ·refine Tot.count (λs=>s.2) r.length (λs=>∃ k:Nat,k<=r.length/\s.2=(k:Int)/\s.1.length=1000/\ly (r.take k)/\∀ j,j<1000->(s.1.getD j false=true↔(j:Int)∈(r.take k).map (·.At))) ⟨0,Nat.zero_le _,rfl,List.length_replicate ..,ly.nil,λj ah=>by
   show ((List.replicate 1000 false).getD j false=true↔_);rw [List.getD_eq_getElem?_getD,List.getElem?_replicate,if_pos ah];simp⟩ (by show (r.length:Int) - 0<_; omega) λs aC=>?_
   obtain ⟨met,kT⟩:=s;obtain ⟨k,hk,rfl,vi,dd,ID⟩:=aC;simp only at vi ID ⊢;refine Tot.br (λaT=>?_) (λdU=>.aq ?_)
   ·have aT:k<r.length:=by omega
    rw [sR aT];have hw:aK ((k:Int)+1)=((k+1:Nat):Int):=by rw [cI]; omega
    rw [hw];have et:0<=(r[k]).At/\(r[k]).At<=999->xr 1000 met (r[k]).At=some (met.getD (r[k]).At.toNat false):=by
     intro h;unfold xr;rw [if_pos (by omega)];have:(r[k]).At.toNat<met.length:=by omega
     simp [idx,h.1,this,List.getD_eq_getElem?_getD]
    refine Tot.aV (.aB (Ξ:=λc=>(c=true↔(¬ (0<=(r[k]).At/\(r[k]).At<=999)\/(r[k]).At∈(r.take k).map (·.At)))) ?_ λc aa=>Tot.bF (λh=>.aq ⟨rfl,X9 hm (ly.bad aT (aa.1 h))⟩) (λh=>?_))
    ·refine Tot.br (λh=>.aq ⟨λ_=>.inl (by omega),λ_=>rfl⟩) (λh=>Tot.br (λaQ=>.aq ⟨λ_=>.inl (by omega),λ_=>rfl⟩) (λaQ=>?_));have au:0<=(r[k]).At/\(r[k]).At<=999:=by omega
     rw [et au];refine Tot.aV (.aq ?_);rw [ID _ (by omega)];have e:(((r[k]).At.toNat:Nat):Int)=(r[k]).At:=by omega
     rw [e];exact ⟨λh=>.inr h,λh=>h.resolve_left λaF=>aF au⟩
    ·have Vg:(0<=(r[k]).At/\(r[k]).At<=999)/\(r[k]).At∉(r.take k).map (·.At):=by
      refine ⟨Classical.byContradiction λaF=>?_,λaF=>?_⟩
      ·rw [aa.2 (.inl aF)] at h; cases h
      ·rw [aa.2 (.inr aF)] at h; cases h
     obtain ⟨au,aF⟩:=Vg;rw [et au];refine Tot.aV (.aq ⟨⟨k+1,by omega,rfl,by show (met.set _ _).length=_; simp [vi],?_,λj ah=>?_⟩,?_,?_⟩)
     ·rw [KD aT]; exact dd.snoc au aF
     ·show ((met.set (r[k]).At.toNat true).getD j false=true↔_);rw [KD aT,List.map_append,List.mem_append,List.getD_eq_getElem?_getD,List.getElem?_set];by_cases e:(r[k]).At.toNat=j
      ·subst e;have ak:(r[k]).At.toNat<met.length:=by omega
       have cf:(((r[k]).At.toNat:Nat):Int)=(r[k]).At:=by omega
       rw [if_pos rfl,if_pos ak,cf];simp
      ·rw [if_neg e,<- List.getD_eq_getElem?_getD,ID j ah];constructor
       ·exact .inl
       ·rintro (h | h)
        ·exact h
        ·have h:(j:Int)∈[(r[k]).At]:=h;have:=List.mem_singleton.1 h;omega
     ·show (k:Int)<((k+1:Nat):Int); omega
     ·show ((k+1:Nat):Int)<=_; omega
   ·have:k=r.length:=by omega
    subst this;rw [List.take_length] at dd;exact dd
  ·rcases x with _ | x
   ·exact .aq ⟨by rw [cI]; omega,J⟩
   ·exact .aq J
 ·rcases x with _ | x
  ·have J:∀ r∈rows,ly r:=J;exact .aq ⟨λ_=>⟨by omega,J⟩,λ_=>rfl⟩
  ·obtain ⟨rfl,av⟩:x=false/\¬ p9 rows:=J;exact .aq ⟨λh=>(by cases h),λh=>absurd h av⟩
def ku (rows:List fF) (a:Int):Nat:=((idx rows a).map List.length).getD 0
def jv (rows:List fF) (a b:Int):Bool:=decide (ku rows b<ku rows a\/(ku rows a=ku rows b/\a<b))
theorem OH {rows:List fF}{a b:Int}:jv rows a b=true↔(ku rows b<ku rows a\/(ku rows a=ku rows b/\a<b)):=by simp [jv]
theorem JH {rows:List fF}{a b:Int}:jv rows a b=false↔¬ (ku rows b<ku rows a\/(ku rows a=ku rows b/\a<b)):=by simp [jv]
theorem OI (rows:List fF):SWO (jv rows) where
 irrefl x:=by rw [JH]; omega
 trans x y z h1 af:=by rw [OH] at *; omega
 ntrans x y z h1 af:=by rw [JH] at *; omega
theorem JI {rows:List fF}{a b:Int}(h1:jv rows a b=false) (af:jv rows b a=false):a=b:=by
 rw [JH] at *; omega
theorem L0 (rows:List fF) (a b:Int) (aP:0<=a/\a<rows.length) (av:0<=b/\b<rows.length):∃ v,vU a b rows=some v/\(v<0↔jv rows a b=true):=by
 obtain ⟨v,hv,h⟩:=R_ rows a b aP av;refine ⟨v,hv,h.trans ?_⟩;obtain ⟨x,J,_⟩:=EY aP.1 aP.2;obtain ⟨y,ax,_⟩:=EY av.1 av.2;rw [OH];unfold DJ ku;rw [J,ax];constructor
 ·rintro ⟨x',y',cA,cf,h⟩;cases cA; cases cf; exact h
 ·intro h;exact ⟨x,y,rfl,rfl,h⟩
theorem Ce {α:Type}{lt lt':α->α->Bool}(x:α):∀ l:List α,(∀ y∈l,lt y x=lt' y x)->ins lt x l=ins lt' x l
 | [],_=>rfl
 | y::l,h=>by
  simp only [ins,h y (by simp)];rw [Ce x l λz aY=>h z (by simp [aY])]
theorem Cg {α:Type}{lt lt':α->α->Bool}:∀ l:List α,(∀ a∈l,∀ b∈l,lt a b=lt' a b)->h' lt l=h' lt' l
 | [],_=>rfl
 | x::l,h=>by
  simp only [h'];rw [Cg l λa aP b av=>h a (by simp [aP]) b (by simp [av])];exact Ce x _ λy ax=>h y (by simp [(sS lt' l).mem_iff.1 ax]) x (by simp)
structure p6 (rows:List fF) (o:List Nat):Prop where
 mem:∀ i,i∈o↔∃ r,rows[i]?=some r/\r≠[]
 nd:o.Nodup
 Ka:o.Pairwise λ(a b:Nat)=>jv rows (b:Int) (a:Int)=false
theorem p6.uniq {rows:List fF}{o gi:List Nat}(h:p6 rows o) (aQ:p6 rows gi):o=gi :=
 List.Perm.eq_of_pairwise (le:=λ(a b:Nat)=>jv rows (b:Int) (a:Int)=false) (λa b _ _ h1 af=>by have:=JI af h1; omega) h.Ka aQ.Ka ((List.perm_ext_iff_of_nodup h.nd aQ.nd).2 λi=>(h.mem i).trans (aQ.mem i).symm)
theorem p6.lt {rows:List fF}{o:List Nat}(h:p6 rows o) {i:Nat}(hi:i∈o):i<rows.length:=by
 obtain ⟨r,ao,_⟩:=(h.mem i).1 hi;exact (List.getElem?_eq_some_iff.1 ao).1
theorem p6.len {rows:List fF}{o:List Nat}(h:p6 rows o):o.length<=rows.length:=by
 have:∀ (l m:List Nat),l.Nodup->(∀ x∈l,x∈m)->l.length<=m.length:=by
  intro l
  induction l with
  | nil=>intro m _ _; exact Nat.zero_le _
  | cons x l aU =>
   intro m aS hm;have J:=hm x (by simp);have oa:=List.nodup_cons.1 aS;have:=aU (m.erase x) oa.2 λy ax=>(List.mem_erase_of_ne (λe=>oa.1 (by rw [<- e]; exact ax))).2 (hm y (by simp [ax]));have ak:=List.length_erase_of_mem J;have au:=List.length_pos_of_mem J;simp only [List.length_cons];omega
 have:=this o (List.range rows.length) h.nd λx J=>by simpa using h.lt J
 simpa using this
theorem YC (rows:List fF) (l:List Int) (ak:∀ a∈l,0<=a/\a<rows.length) (aF:l.length<=100000):pV (λa b=>vU a b rows) l=some (h' (jv rows) l):=by
 have aT:∀ a∈l,∀ b∈l,kv (λa b=>vU a b rows) a b=jv rows a b:=by
  intro a aP b av;obtain ⟨v,hv,h⟩:=L0 rows a b (ak a aP) (ak b av);unfold kv;simp only [hv,Option.getD_some];cases hk:jv rows a b with
  | true=>exact decide_eq_true (h.2 hk)
  | false=>exact decide_eq_false λbY=>by rw [h.1 bY] at hk; cases hk
 unfold pV;rw [if_pos]
 ·rw [Cg l aT]
 ·simp only [Bool.and_eq_true,decide_eq_true_eq,List.all_eq_true];refine ⟨⟨λa aP b av=>?_,?_⟩,by omega⟩
  ·obtain ⟨v,hv,_⟩:=L0 rows a b (ak a aP) (ak b av);rw [hv]; rfl
  ·unfold zU;simp only [List.all_eq_true,Bool.and_eq_true,Bool.or_eq_true,Bool.not_eq_true',decide_eq_true_eq];have bk:=OI rows;intro a aP;refine ⟨by rw [aT a aP a aP]; exact bk.irrefl a,λb av=>⟨?_,λc aa=>⟨?_,?_⟩⟩⟩
   ·rw [aT a aP b av,aT b av a aP];cases h1:jv rows a b with
    | true=>exact .inl (.inl rfl)
    | false =>
     cases af:jv rows b a with
     | true=>exact .inl (.inr rfl)
     | false=>exact .inr (JI h1 af)
   ·rw [aT a aP b av,aT b av c aa,aT a aP c aa];cases h1:jv rows a b with
    | false=>exact .inl rfl
    | true =>
     cases af:jv rows b c with
     | false=>exact .inl rfl
     | true=>exact .inr (bk.trans _ _ _ h1 af)
   ·rw [aT a aP b av,aT b av c aa,aT a aP c aa];cases h1:jv rows a b with
    | true=>exact .inl (.inl rfl)
    | false =>
     cases af:jv rows b c with
     | true=>exact .inl (.inr rfl)
     | false=>exact .inr (bk.ntrans _ _ _ h1 af)
theorem R3 (rows:List fF) (fj:DU rows):Tot (Ag rows) λc=>(¬ p9 rows->c=⟨[],[],[]⟩)/\(p9 rows->c.b5.length<=900000/\∃ o,p6 rows o/\dQ rows o.reverse c):=by
 unfold Ag;refine .aB (R9 rows fj) λa8 h1=>Tot.bF (λh=>.aq ⟨λ_=>rfl,λdd=>by rw [h1.2 dd] at h; cases h⟩) (λh=>?_);have dd:p9 rows:=h1.1 (by simpa using h);refine Tot.use (Φ:=λc=>(¬ p9 rows->c=⟨[],[],[]⟩)/\(p9 rows->c.b5.length<=900000/\∃ o,p6 rows o/\dQ rows o.reverse c)) (Ψ:=λc=>c.b5.length<=900000/\∃ o,p6 rows o/\dQ rows o.reverse c) ?_ λc aa=>⟨λaF=>absurd dd aF,λ_=>aa⟩;have aF:=dd.n;refine .aB (Ξ:=λl=>l=List.replicate rows.length 0) (Tot.mk (by simp [lim]; omega) (by simp)) λa7 aI=>?_;subst aI;refine .aB (Ξ:=λl=>∃ o:List Nat,l=o.map (λ(j:Nat)=>(j:Int))/\o.Nodup/\o.length<=400/\∀ j,j∈o↔∃ r,rows[j]?=some r/\r≠[]) ?_ λbS cG=>?_
 ·refine Tot.count (λs=>s.2) rows.length (λs=>∃ k:Nat,k<=rows.length/\s.2=(k:Int)/\∃ o:List Nat,s.1=o.map (λ(j:Nat)=>(j:Int))/\o.Nodup/\o.length<=k/\∀ j,j∈o↔j<k/\∃ r,rows[j]?=some r/\r≠[]) ⟨0,Nat.zero_le _,rfl,[],rfl,List.nodup_nil,Nat.le_refl 0,λj=>by simp⟩ (by show (rows.length:Int) - 0<_; omega) λs aC=>?_;obtain ⟨l,kT⟩:=s;obtain ⟨k,hk,rfl,o,rfl,fp,zu,hm⟩:=aC;simp only;have hw:aK ((k:Int)+1)=((k+1:Nat):Int):=by rw [cI]; omega
  rw [hw];refine Tot.br (λaT=>?_) (λdU=>.aq ⟨o,rfl,fp,by omega,λj=>?_⟩)
  ·have aT:k<rows.length:=by omega
   rw [sR aT];have r9:rows[k]?=some rows[k]:=List.getElem?_eq_getElem aT;have Vq:k∉o:=λh=>by have:=((hm k).1 h).1; omega
   refine .aB (Ξ:=λl=>∃ gi:List Nat,l=gi.map (λ(j:Nat)=>(j:Int))/\gi.Nodup/\gi.length<=k+1/\∀ j,j∈gi↔j<k+1/\∃ r,rows[j]?=some r/\r≠[]) ?_ λl ak=>.aq ⟨⟨k+1,by omega,rfl,ak⟩,?_,?_⟩
   ·refine Tot.aV (.aB (Ξ:=λl=>∃ gi:List Nat,l=gi.map (λ(j:Nat)=>(j:Int))/\gi.Nodup/\gi.length<=k+1/\∀ j,j∈gi↔j<k+1/\∃ r,rows[j]?=some r/\r≠[]) ?_ λl ak=>.aq ak);refine Tot.br (λau=>?_) (λau=>.aq ⟨o,rfl,fp,by omega,λj=>?_⟩)
    ·refine .aB (Ξ:=λ_=>True) (Tot.ap (by simp [lim]; omega) trivial) λ_ _=>.aq ⟨o++[k],by simp,?_,by simp; omega,λj=>?_⟩
     ·rw [List.nodup_append];exact ⟨fp,by simp,λa aP b av e=>Vq (by rw [<- List.mem_singleton.1 av,<- e]; exact aP)⟩
     ·rw [List.mem_append,hm j,List.mem_singleton];constructor
      ·rintro (⟨h1,af⟩ | rfl)
       ·exact ⟨by omega,af⟩
       ·exact ⟨by omega,_,r9,λe=>by rw [e] at au; simp at au⟩
      ·rintro ⟨h1,af⟩;by_cases e:j=k
       ·exact .inr e
       ·exact .inl ⟨by omega,af⟩
    ·rw [hm j];constructor
     ·rintro ⟨h1,af⟩;exact ⟨by omega,af⟩
     ·rintro ⟨h1,r,af,aI⟩;refine ⟨?_,r,af,aI⟩;have:j≠k:=by
       rintro rfl;rw [r9] at af; cases af;have:(rows[j]).length≠0:=λe=>aI (List.eq_nil_of_length_eq_zero e);omega
      omega
   ·show (k:Int)<((k+1:Nat):Int); omega
   ·show ((k+1:Nat):Int)<=_; omega
  ·have:k=rows.length:=by omega
   subst this;rw [hm j];constructor
   ·exact λh=>h.2
   ·rintro ⟨r,ao,h⟩;exact ⟨(List.getElem?_eq_some_iff.1 ao).1,r,ao,h⟩
 obtain ⟨zR,rfl,VC,acB,zt⟩:=cG;have vg:∀ a∈zR.map (λ(j:Nat)=>(j:Int)),0<=a/\a<rows.length:=by
  intro a aP;obtain ⟨j,ah,rfl⟩:=List.mem_map.1 aP;obtain ⟨r,ao,_⟩:=(zt j).1 ah;have:=(List.getElem?_eq_some_iff.1 ao).1;omega
 rw [YC rows _ vg (by simp; omega)];refine Tot.aV ?_
 -- the order, az places
 obtain ⟨o,a1,hOr⟩:∃ o:List Nat,h' (jv rows) (zR.map λ(j:Nat)=>(j:Int))=o.map (λ(j:Nat)=>(j:Int))/\p6 rows o:=by
  refine ⟨h' (λa b:Nat=>jv rows (a:Int) (b:Int)) zR,?_,?_⟩
  ·exact (EZ (lt:=λa b:Nat=>jv rows (a:Int) (b:Int)) (lt':=jv rows) (f:=λ(j:Nat)=>(j:Int)) (λa b=>rfl) zR).symm
  ·have bk:=OI rows;have au:=sS (λa b:Nat=>jv rows (a:Int) (b:Int)) zR;refine ⟨λi=>(au.mem_iff).trans (zt i),au.nodup_iff.2 VC,?_⟩;have aC:=E0 (lt:=λa b:Nat=>jv rows (a:Int) (b:Int)) ⟨λx=>bk.irrefl _,λx y z=>bk.trans _ _ _,λx y z=>bk.ntrans _ _ _⟩ zR;exact aC.imp λh=>by simpa using h
 rw [a1];have zu:=hOr.len;refine .aB (Ξ:=λc=>c.b5.length<=900000/\∃ o,p6 rows o/\dQ rows o.reverse c) ?_ λc aa=>.aq aa;refine Tot.count (λs=>s.2) o.length (λs=>∃ k:Nat,k<=o.length/\s.2=(k:Int)/\s.1.b5.length<=1000 * k/\dQ rows (o.take k).reverse s.1) ⟨0,Nat.zero_le _,rfl,Nat.le_refl 0,.nil⟩ (by show (o.length:Int) - 0<_; omega) λs aC=>?_;obtain ⟨c,kT⟩:=s;obtain ⟨k,hk,rfl,ha,h7⟩:=aC;simp only at ha h7 ⊢;have hw:aK ((k:Int)+1)=((k+1:Nat):Int):=by rw [cI]; omega
 rw [hw];refine Tot.br (λaT=>?_) (λdU=>.aq ⟨by show c.b5.length<=900000; omega,o,hOr,?_⟩)
 ·rw [List.length_map] at aT;have aT:k<o.length:=by omega
  have Ir:idx (o.map λ(j:Nat)=>(j:Int)) (k:Int)=some ((o[k]:Nat):Int):=by
   rw [sR (by simpa using aT)]; simp
  rw [Ir];generalize hi:o[k]=i;have NF:i∈o:=by rw [<- hi]; exact List.getElem_mem aT
  obtain ⟨r,ao,acE⟩:=(hOr.mem i).1 NF;have Ew:=hOr.lt NF;have zy:r∈rows:=List.mem_of_getElem? ao;have lL:=dd.rows r zy;have l7:=fj.r r zy;have NT:i∉(o.take k).reverse:=by
   rw [List.mem_reverse];intro h;obtain ⟨j,ah,e⟩:=List.mem_iff_getElem.1 h;rw [List.length_take] at ah;rw [List.getElem_take] at e;have:=(List.getElem_inj (i:=j) (j:=k) (h₀:=by omega) (h₁:=aT) hOr.nd).1 (by rw [e,hi]);omega
  have hlen:=h7.len;refine Tot.aV (.aB (Yl rows fj i r ao lL c (by omega) (h7.rest i Ew NT) x6 λb av=>Sb c.b5 r b lL.mn (by omega) (by omega) (by omega)) λB T1=>?_);obtain ⟨b,rfl,w9,Vs,ra⟩:=T1;have tV:idx rows (i:Int)=some r:=by simp [idx,ao]
  rw [tV];refine Tot.aV (.aB (XT r lL l7 i b (by omega) c hlen.1 (by omega) ra _ (λv b9 k hk=>?_) (λv b9 k hk=>?_)) λx J=>?_)
  ·have w3:idx (c.cS.set i (b:Int)) (i:Int)=some (b:Int):=by
    have:i<c.cS.length:=by omega
    simp [idx,this]
   have aS:decide ((k:Int)<(r.length:Int))=true:=decide_eq_true (by omega);simp only [aS,cond_true,sR hk,w3,Option.bind_some]
  ·have aS:decide ((k:Int)<(r.length:Int))=false:=decide_eq_false hk;simp only [aS,cond_false]
  ·obtain ⟨cx,ak⟩:=J;refine .aq ⟨⟨k+1,by omega,rfl,?_,?_⟩,?_,?_⟩
   ·show x.2.length<=1000 * (k+1); omega
   ·rw [List.take_add_one,List.getElem?_eq_getElem aT,hi];show dQ rows ((o.take k)++[i]).reverse _;rw [List.reverse_append];exact .cons ao NT h7 ⟨w9,Vs,rfl,cx⟩
   ·show (k:Int)<((k+1:Nat):Int); omega
   ·show ((k+1:Nat):Int)<=_; omega
 ·rw [List.length_map] at dU;have:k=o.length:=by omega
  subst this;rw [List.take_length] at h7;exact h7
def zQ (b9:List Int):List Nat:=(List.range b9.length).filter λk=>decide (b9.getD k 0≠0)
def Pw (rows:List fF) (i:Nat):Nat:=(rows[i]?.map List.length).getD 0
structure Inv (rows:List fF) (l:List Nat) (c:fA):Prop where
 own:∀ i∈l,∃ (r:fF) (b:Nat),rows[i]?=some r/\c.cS[i]?=some (b:Int)/\∀ p∈r,b+p.At.toNat<c.b5.length/\c.b5.getD (b+p.At.toNat) 0=(i:Int)+1/\c.b8.getD (b+p.At.toNat) 0=p.b8
 KJ:∀ k,c.b5.getD k 0≠0->∃ i∈l,∃ (r:fF) (b:Nat),rows[i]?=some r/\c.cS[i]?=some (b:Int)/\∃ p∈r,k=b+p.At.toNat/\c.b5.getD k 0=(i:Int)+1
 zero:∀ k,c.b5.getD k 0=0->c.b8.getD k 0=0
 last:c.b5.length=0\/c.b5.getD (c.b5.length - 1) 0≠0
 least:∀ i∈l,∀ b:Nat,c.cS[i]?=some (b:Int)->∀ eC,eC<b->∃ (r:fF) (p:ca) (sd:Nat),rows[i]?=some r/\p∈r/\sd∈l/\jv rows (sd:Int) (i:Int)=true/\c.b5.getD (eC+p.At.toNat) 0=(sd:Int)+1
 hn:(zQ c.b5).length=(l.map (Pw rows)).sum
theorem JN {b9:List Int}{k:Nat}:k∈zQ b9↔b9.getD k 0≠0:=by
 unfold zQ;rw [List.mem_filter,List.mem_range];constructor
 ·intro h; simpa using h.2
 ·intro h;refine ⟨Classical.byContradiction λhk=>h ?_,by simpa using h⟩;rw [List.getD_eq_getElem?_getD,List.getElem?_eq_none (by omega)]; rfl
theorem OM (b9:List Int):(zQ b9).Nodup:=List.nodup_range.sublist List.filter_sublist
theorem dQ.inv {rows:List fF}(dd:p9 rows) {l:List Nat}{c:fA}(h:dQ rows l c) (IL:l.Pairwise λ(a b:Nat)=>jv rows (a:Int) (b:Int)=false):Inv rows l c:=by
 induction h with
 | nil=>exact ⟨λ_ h=>absurd h (by simp),λk h=>absurd rfl h,λ_ _=>rfl,.inl rfl,λ_ h=>absurd h (by simp),rfl⟩
 | @cons i b l c fT r ao hi h7 aC aU =>
  have NX:=List.pairwise_cons.1 IL;have I:=aU NX.2;have lL:=dd.rows r (List.mem_of_getElem? ao);have cx:=aC.put;have hlen:=h7.len;have tW:i<c.cS.length:=by rw [hlen.2]; exact (List.getElem?_eq_some_iff.1 ao).1
  have w3:fT.cS[i]?=some (b:Int):=by rw [aC.base]; simp [tW]
  have w4:∀ j,j≠i->fT.cS[j]?=c.cS[j]?:=λj ah=>by rw [aC.base,List.getElem?_set_ne (Ne.symm ah)]
  have dr:∀ j∈l,j≠i:=λj ah e=>hi (e ▸ ah);have free:∀ k,c.b5.getD k 0≠0->∀ p∈r,b+p.At.toNat≠k:=λk hk p au e=>hk (e ▸ aC.fit p au);have keep:∀ k,c.b5.getD k 0≠0->fT.b5.getD k 0=c.b5.getD k 0:=λk hk=>cx.Be k (free k hk);refine ⟨λj ah=>?_,λk hk=>?_,λk hk=>?_,?_,λj ah hg nA eC aT=>?_,?_⟩
  ·rcases List.mem_cons.1 ah with rfl | ah
   ·exact ⟨r,b,ao,w3,λp au=>⟨cx.Ol p au,cx.iD p au,cx.val p au⟩⟩
   ·obtain ⟨dn,eC,h1,af,aI⟩:=I.own j ah;refine ⟨dn,eC,h1,by rw [w4 j (dr j ah)]; exact af,λp au=>?_⟩;obtain ⟨g1,g2,g3⟩:=aI p au;have NU:c.b5.getD (eC+p.At.toNat) 0≠0:=by rw [g2]; omega
    exact ⟨Nat.lt_of_lt_of_le g1 cx.lo,by rw [keep _ NU]; exact g2,by rw [cx.KH _ (free _ NU)]; exact g3⟩
  ·by_cases au:∃ p∈r,b+p.At.toNat=k
   ·obtain ⟨p,au,rfl⟩:=au;exact ⟨i,by simp,r,b,ao,w3,p,au,rfl,cx.iD p au⟩
   ·have e:=cx.Be k λp BW e=>au ⟨p,BW,e⟩;rw [e] at hk ⊢;obtain ⟨j,ah,dn,eC,h1,af,aI⟩:=I.KJ k hk;exact ⟨j,by simp [ah],dn,eC,h1,by rw [w4 j (dr j ah)]; exact af,aI⟩
  ·by_cases au:∃ p∈r,b+p.At.toNat=k
   ·obtain ⟨p,au,rfl⟩:=au;rw [cx.iD p au] at hk; omega
   ·have aF:∀ p∈r,b+p.At.toNat≠k:=λp BW e=>au ⟨p,BW,e⟩;rw [cx.Be k aF] at hk;rw [cx.KH k aF];exact I.zero k hk
  ·rcases cx.hi with e | ⟨p,au,e⟩
   ·rcases I.last with aR | aR
    ·exact .inl (by omega)
    ·exact .inr (by rw [e,keep _ aR]; exact aR)
   ·refine .inr ?_;rw [e];show fT.b5.getD (b+p.At.toNat+1 - 1) 0≠0;rw [Nat.add_sub_cancel,cx.iD p au]; omega
  ·rcases List.mem_cons.1 ah with rfl | ah
   ·rw [w3] at nA;have iM:b=hg:=by injection nA with e; omega
    subst iM;have NS:=aC.least eC aT;obtain ⟨p,au,aY⟩:∃ p∈r,c.b5.getD (eC+p.At.toNat) 0≠0 :=
     Classical.byContradiction λaF=>NS λp au=>Classical.byContradiction λaY=>aF ⟨p,au,aY⟩
    obtain ⟨sd,Ip,_,_,_,_,_,_,_,e⟩:=I.KJ _ aY;refine ⟨r,p,sd,ao,au,by simp [Ip],?_,by rw [keep _ aY]; exact e⟩;have h1:=NX.1 sd Ip;cases af:jv rows (sd:Int) (j:Int) with
    | true=>rfl
    | false=>exact absurd (JI af h1) (by have:=dr sd Ip; omega)
   ·rw [w4 j (dr j ah)] at nA;obtain ⟨dn,p,sd,h1,af,aI,bK,cG⟩:=I.least j ah hg nA eC aT;exact ⟨dn,p,sd,h1,af,by simp [aI],bK,by rw [keep _ (by rw [cG]; omega)]; exact cG⟩
  ·have BY:(zQ fT.b5).Perm (r.map (λp=>b+p.At.toNat)++zQ c.b5):=by
    refine (List.perm_ext_iff_of_nodup (OM _) ?_).2 λk=>?_
    ·rw [List.nodup_append];refine ⟨?_,OM _,λx J y ax e=>?_⟩
     ·unfold List.Nodup;rw [List.pairwise_map];have:=lL.nd;unfold List.Nodup at this;rw [List.pairwise_map] at this;refine this.imp_of_mem λ{p q} au bg dr=>?_;have h1:=lL.mn p au;have af:=lL.mn q bg;omega
     ·obtain ⟨p,au,rfl⟩:=List.mem_map.1 J;have h1:=JN.1 ax;rw [<- e] at h1;exact h1 (aC.fit p au)
    ·rw [JN,List.mem_append,JN,List.mem_map];by_cases au:∃ p∈r,b+p.At.toNat=k
     ·obtain ⟨p,au,rfl⟩:=au;rw [cx.iD p au];exact ⟨λ_=>.inl ⟨p,au,rfl⟩,λ_=>by omega⟩
     ·rw [cx.Be k λp BW e=>au ⟨p,BW,e⟩];exact ⟨.inr,λh=>h.resolve_left au⟩
   rw [BY.length_eq,List.length_append,List.length_map,I.hn,List.map_cons,List.sum_cons];simp [Pw,ao]
def lF (r:fF) (n:Int):Int × Bool:=match r.find? λp=>decide (p.At=n) with
 | some p=>(p.b8,true)
 | none=>(0,false)
theorem get_none {r:fF}{n:Int}(h:∀ p∈r,p.At≠n):lF r n=(0,false):=by
 unfold lF;rw [List.find?_eq_none.2 λp au=>by simpa using h p au]
theorem get_some {r:fF}(ao:ly r) {p:ca}(au:p∈r):lF r p.At=(p.b8,true):=by
 unfold lF;cases h:r.find? λq=>decide (q.At=p.At) with
 | none=>exact absurd (List.find?_eq_none.1 h p au) (by simp)
 | some q =>
  have h1:q.At=p.At:=by simpa using List.find?_some h
  have af:=List.mem_of_find?_eq_some h;obtain ⟨i,hi,cA⟩:=List.mem_iff_getElem.1 af;obtain ⟨j,ah,cf⟩:=List.mem_iff_getElem.1 au;have:=(List.getElem_inj (h₀:=by simpa using hi) (h₁:=by simpa using ah) ao.nd).1 (by simp only [List.getElem_map]; rw [cA,cf]; exact h1);subst this;rw [cA] at cf;rw [cf]
theorem g19 (r:fF) (n:Int) (ak:r.length<=100000):xX r n=some (lF r n):=by
 suffices h:Tot (xX r n) λx=>x=lF r n by
  obtain ⟨x,J,e⟩:=h; rw [J,e]
 unfold xX;refine Tot.aB (Ξ:=hK (λ_=>lF r n=(0,false)) (λx=>x=lF r n)) ?_ λx J=>?_
 ·refine Tot.count (λs=>s) r.length (λs=>∃ k:Nat,k<=r.length/\s=(k:Int)/\∀ p∈r.take k,p.At≠n) ⟨0,Nat.zero_le _,rfl,λ_ h=>absurd h (by simp)⟩ (by show (r.length:Int) - 0<_; omega) λs aC=>?_;obtain ⟨k,hk,rfl,aF⟩:=aC;refine Tot.br (λh=>?_) (λh=>.aq ?_)
  ·have aT:k<r.length:=by omega
   rw [sR aT];refine Tot.aV (Tot.br (λe=>.aq ?_) (λe=>.aq ⟨⟨k+1,by omega,by rw [cI]; omega,λp au=>?_⟩,by show (k:Int)<aK _; rw [cI]; omega,by show aK _<=_; rw [cI]; omega⟩))
   ·show ((r[k]).b8,true)=lF r n;unfold lF;have aW:r.find? (λp=>decide (p.At=n))=some r[k]:=by
     rw [List.find?_eq_some_iff_getElem];refine ⟨by simpa using e,k,aT,rfl,λj ah=>?_⟩;have:=aF (r[j]'(by omega)) (List.mem_iff_getElem.2 ⟨j,by rw [List.length_take]; omega,by rw [List.getElem_take]⟩);simpa using this
    rw [aW]
   ·rw [KD aT] at au;rcases List.mem_append.1 au with au | au
    ·exact aF p au
    ·rw [List.mem_singleton.1 au]; exact e
  ·have:k=r.length:=by omega
   subst this;rw [List.take_length] at aF;exact get_none aF
 ·rcases x with x | x
  ·exact .aq (Eq.symm J)
  ·exact .aq J
def q9 (rows:List fF) (a n:Int):Int × Bool:=match idx rows a with
 | some r=>lF r n
 | none=>(0,false)
theorem Tx {rows:List fF}(dd:p9 rows) {o:List Nat}(hO:p6 rows o) {c:fA}(h7:dQ rows o.reverse c) (bf:Inv rows o.reverse c) (aa:c.b5.length<=900000) (a n:Int):rn c a n=some (q9 rows a n):=by
 have hlen:=h7.len
 suffices h:Tot (rn c a n) λx=>x=q9 rows a n by
  obtain ⟨x,J,e⟩:=h; rw [J,e]
 have OU:(∀ r,idx rows a=some r->∀ p∈r,p.At≠n)->q9 rows a n=(0,false):=by
  intro h;unfold q9;cases hi:idx rows a with
  | none=>rfl
  | some r=>exact get_none (h r hi)
 have out:(a<0\/(c.cS.length:Int)<=a)->idx rows a=none:=by
  intro h;unfold idx;rcases h with h | h
  ·rw [if_neg (by omega)]
  ·split
   ·exact List.getElem?_eq_none (by omega)
   ·rfl
 -- where the pairs of a row stand
 have at_:∀ r,idx rows a=some r->∀ p∈r,0<=a/\∃ b:Nat,c.cS[a.toNat]?=some (b:Int)/\b+p.At.toNat<c.b5.length/\c.b5.getD (b+p.At.toNat) 0=(a.toNat:Int)+1/\c.b8.getD (b+p.At.toNat) 0=p.b8:=by
  intro r ao p au;have aR:0<=a:=by
   by_cases aR:0<=a
   ·exact aR
   ·rw [idx,if_neg aR] at ao; cases ao
  have ec:rows[a.toNat]?=some r:=by rw [idx,if_pos aR] at ao; exact ao
  obtain ⟨dn,b,h1,af,aI⟩:=bf.own a.toNat (List.mem_reverse.2 ((hO.mem _).2 ⟨r,ec,λe=>by rw [e] at au; simp at au⟩));rw [ec] at h1; cases h1;exact ⟨aR,b,af,aI p au⟩
 have fH:∀ r,idx rows a=some r->∀ p∈r,0<=p.At/\p.At<=999:=by
  intro r ao p au;have:r∈rows:=by
   unfold idx at ao
   split at ao
   ·exact List.mem_of_getElem? ao
   ·cases ao
  exact (dd.rows r this).mn p au
 unfold rn;refine .aB (Ξ:=λx:Bool=>(x=true->(a<0\/(c.cS.length:Int)<=a)\/n<0\/(c.b5.length:Int)<=n)/\(x=false->0<=a/\a<c.cS.length/\0<=n/\n<c.b5.length)) ?_ λx J=>Tot.bF (λh=>?_) (λh=>?_)
 ·refine Tot.br (λh=>.aq ⟨λ_=>.inl (.inl h),λh=>(by cases h)⟩) (λh1=>Tot.br (λh=>.aq ⟨λ_=>.inl (.inr h),λh=>(by cases h)⟩) (λaf=>Tot.br (λh=>.aq ⟨λ_=>.inr (.inl h),λh=>(by cases h)⟩) (λaI=>.aq ⟨λh=>.inr (.inr (of_decide_eq_true h)),λh=>?_⟩)));have:=of_decide_eq_false h;omega
 ·refine .aq (Eq.symm (OU λr ao p au e=>?_));obtain ⟨aR,b,av,h1,_⟩:=at_ r ao p au;have af:=fH r ao p au;rcases J.1 h with aQ | aQ | aQ
  ·rw [out aQ] at ao; cases ao
  ·omega
  ·omega
 ·obtain ⟨aR,h1,af,aI⟩:=J.2 h;have halt:a.toNat<rows.length:=by omega
  -- the base
  obtain ⟨b,av,gG⟩:∃ b:Nat,c.cS[a.toNat]?=some (b:Int)/\b<=900000:=by
   by_cases hm:a.toNat∈o
   ·obtain ⟨dn,b,g1,g2,g3⟩:=bf.own a.toNat (List.mem_reverse.2 hm);refine ⟨b,g2,?_⟩;obtain ⟨r,cA,cf⟩:=(hO.mem _).1 hm;rw [cA] at g1; cases g1;obtain ⟨p,au⟩:=List.exists_mem_of_ne_nil _ cf;have:=(g3 p au).1;omega
   ·exact ⟨0,h7.rest _ halt (by simpa using hm),by omega⟩
  have w3:idx c.cS a=some (b:Int):=by rw [idx,if_pos aR]; exact av
  rw [w3];have hw:aK ((b:Int)+n)=((b+n.toNat:Nat):Int):=by rw [cI]; omega
  have Wc:aK (a+1)=a+1:=by rw [cI]; have:=dd.n; omega
  refine Tot.aV ?_;rw [hw,Wc];refine .aB (Ξ:=λx:Bool=>(x=true->∀ r,idx rows a=some r->∀ p∈r,p.At≠n)/\(x=false->b+n.toNat<c.b5.length/\c.b5.getD (b+n.toNat) 0=a+1)) (Tot.br (λh=>.aq ⟨λ_ r ao p au e=>?_,λh=>(by cases h)⟩) (λh=>?_)) λx J=>Tot.bF (λh=>.aq (Eq.symm (OU (J.1 h)))) (λh=>?_)
  ·obtain ⟨_,eC,cj,g1,_⟩:=at_ r ao p au;rw [av] at cj;have:b=eC:=by injection cj with cj; omega
   subst this;subst e;omega
  ·have ak:b+n.toNat<c.b5.length:=by omega
   rw [sR ak];have aO:c.b5.getD (b+n.toNat) 0=c.b5[b+n.toNat]:=by rw [List.getD_eq_getElem?_getD,List.getElem?_eq_getElem ak]; rfl
   rw [<- aO];refine Tot.aV (.aq ⟨λh r ao p au e=>?_,λh=>⟨ak,by simpa using h⟩⟩);obtain ⟨_,eC,cj,_,g2,_⟩:=at_ r ao p au;rw [av] at cj;have:b=eC:=by injection cj with cj; omega
   subst this;subst e;rw [g2] at h;have:¬ ((a.toNat:Int)+1=a+1):=by simpa using h
   omega
  ·obtain ⟨ak,he⟩:=J.2 h;have pz:b+n.toNat<c.b8.length:=by omega
   rw [sR pz];refine Tot.aV (.aq ?_);obtain ⟨i,hi,r,eC,cA,cf,p,au,fP,mR⟩:=bf.KJ (b+n.toNat) (by rw [he]; omega);rw [he] at mR;have Vi:i=a.toNat:=by omega
   subst Vi;rw [av] at cf;have:b=eC:=by injection cf with cf; omega
   subst this;have sM:idx rows a=some r:=by rw [idx,if_pos aR]; exact cA
   have EG:=fH r sM p au;have t_:p.At=n:=by omega
   obtain ⟨_,eC,cj,_,_,g3⟩:=at_ r sM p au;rw [av] at cj;have:b=eC:=by injection cj with cj; omega
   subst this;unfold q9;rw [sM];show _=lF r n;have NC:=get_some (dd.rows r (List.mem_of_getElem? cA)) au;rw [t_,<- g3,t_,List.getD_eq_getElem?_getD,List.getElem?_eq_getElem pz] at NC;exact NC.symm
structure j6 (x:Sym):Prop where
 lit:x.Lit=true->x.Name.size=1/\0<lB x.Name 0/\lB x.Name 0<=255/\x.bR=0
 num:0<=x.bR/\x.bR<=50000
theorem JY (x:Sym) (a b:Bool):Par (ur x a b) λr=>r=true->j6 x:=by
 unfold ur;refine Par.bF (λak=>?_) (λak=>?_)
 ·refine .aB (Ξ:=λc=>c=false->x.Name.size=1/\x.bR=0) ?_ λc aa=>Par.bF (λ_=>.aq λh=>by cases h) (λaf=>?_)
  ·refine Par.bF (λ_=>.aq λh=>by cases h) (λ_=>Par.qe (λ_=>.aq λh=>by cases h) (λh1=>.aq λaf=>⟨by omega,?_⟩));simpa using af
  ·obtain ⟨h1,aI⟩:=aa af;refine .aB (Ξ:=λc=>c=lB x.Name 0) (λc aa=>?_) λc aa=>?_
   ·unfold kp at aa
    split at aa
    ·exact (Option.some.inj aa).symm
    ·cases aa
   ·subst aa;refine .aB (Ξ:=λr=>r.2=true->0<lB x.Name 0/\lB x.Name 0<=255) ?_ λr ao=>.aq λh=>⟨λ_=>⟨h1,(ao h).1,(ao h).2,aI⟩,by omega⟩;unfold z7;refine Par.br (λh=>.aq λ_=>by omega) (λ_=>Par.br (λh=>.aq λ_=>by omega) (λ_=>Par.br (λh=>.aq λ_=>by omega) (λ_=>?_)));refine .aB (Ξ:=λc=>c=true->lB x.Name 0=92\/lB x.Name 0=39) (Par.br (λh=>.aq λ_=>.inl h) (λ_=>.aq λh=>.inr (of_decide_eq_true h))) λc aa=>Par.bF (λh=>.aq λ_=>by rcases aa h with h | h <;> omega) (λ_=>?_);refine .aB (Ξ:=λr:Int × Bool=>r.2=true->0<lB x.Name 0/\lB x.Name 0<=255) (Par.br (λh=>.aq λaQ=>?_) (λ_=>.aq λh=>by cases h)) λr ao=>.aq ao;have:lB x.Name 0<=126:=of_decide_eq_true aQ;omega
 ·refine .aB (Ξ:=λc=>c=true->0<=x.bR/\x.bR<=50000) ?_ λc aa=>.aq λh=>⟨λaQ=>(by rw [ak] at aQ; cases aQ),aa h⟩;refine .aB (Ξ:=λ_=>True) (λ_ _=>trivial) λc _=>Par.bF (λ_=>Par.br (λh=>.aq λ_=>by omega) (λ_=>Par.bF (λ_=>Par.br (λh=>.aq λaQ=>⟨by omega,of_decide_eq_true aQ⟩) (λ_=>.aq λh=>by cases h)) (λ_=>.aq λh=>by cases h))) (λ_=>.aq λh=>by cases h)
theorem Pd (x:Sym):Par (uu x) λr=>r=true->j6 x:=by
 unfold uu;refine .aB (Ξ:=λr=>r=true->j6 x) ?_ λr ao=>.aq ao;refine Par.bF (λ_=>Par.bF (λh=>.aq λaQ=>?_) (λ_=>.aq λh=>by cases h)) (λ_=>.aq λh=>by cases h);have h1:x.Lit=false:=by simpa using h
 have af:x.bR=0:=of_decide_eq_true aQ;exact ⟨λh=>(by rw [h1] at h; cases h),by omega⟩
theorem Xw (d:Decl) (aF:d.eL.length<=1000000):Par (xU d) λr=>r=true->∀ x∈d.eL,j6 x:=by
 unfold xU;refine .aB (Ξ:=λ_=>True) (λ_ _=>trivial) λc _=>Par.bF (λ_=>.aq λh=>by cases h) (λ_=>?_);refine .aB (Par.scan d.eL (by omega) (λx=>j6 x) (λr=>r=false) (λs y aR h1 hi hm=>?_) (λs aC=>by simp [aC])) λx J=>?_
 ·refine Par.br (λ_=>?_) (λh=>absurd h1 h);rw [hi];have hw:aK (s+1)=s+1:=by rw [cI]; omega
  rw [hw];exact .aB (Ξ:=λz=>z=y) (.aq rfl) λz aY=>by
   subst aY;exact .aB (JY _ _ _) λc aa=>Par.bF (λ_=>.aq rfl) (λaf=>.aq ⟨rfl,aa (by simpa using af)⟩)
 ·rcases x with _ | r
  ·exact .aq λ_=>J
  ·exact .aq λh=>by have:r=false:=J; rw [this] at h; cases h
theorem Xx (a:Alt) (aF:a.hx.length<=1000000):Par (xV a) λr=>r=true->(∀ p∈a.hx,j6 p.Sym)/\j6 a.Prec:=by
 unfold xV;refine .aB (Par.scan a.hx (by omega) (λp=>j6 p.Sym) (λr=>r=false) (λs y aR h1 hi hm=>?_) (λs aC=>by simp [aC])) λx J=>?_
 ·refine Par.br (λ_=>?_) (λh=>absurd h1 h);rw [hi];have hw:aK (s+1)=s+1:=by rw [cI]; omega
  rw [hw];refine .aB (Ξ:=λz=>z=y) (.aq rfl) λz aY=>?_;subst aY;refine .aB (Ξ:=λc=>c=false->j6 z.Sym) ?_ λc aa=>Par.bF (λ_=>.aq rfl) (λaf=>.aq ⟨rfl,aa af⟩);refine Par.br (λhe=>?_) (λdr=>?_)
  ·refine .aB (JY _ _ _) λc aa=>Par.bF (λ_=>.aq λh=>by cases h) (λaf=>?_);have dd:=aa (by simpa using af);exact λ_ _ _=>dd
  ·refine Par.qe (λ_=>?_) (λh=>absurd h dr);refine .aB (Pd _) λc aa=>Par.bF (λ_=>.aq λh=>by cases h) (λaf=>?_);have dd:=aa (by simpa using af);exact λ_ _ _=>dd
 ·rcases x with _ | r
  ·have J:∀ p∈a.hx,j6 p.Sym:=J;refine .aB (Ξ:=λc=>c=true->j6 a.Prec) ?_ λc aa=>.aq λh=>⟨J,aa h⟩;refine .aB (Pd _) λc aa=>Par.bF (λaf=>.aq λ_=>aa af) (λ_=>.aB (JY _ _ _) λc aa=>.aq aa)
  ·exact .aq λh=>by have:r=false:=J; rw [this] at h; cases h
structure Lh (s:Source):Prop where
 decls:∀ d∈s.Decls,∀ x∈d.eL,j6 x
 rules:∀ r∈s.dG,∀ a∈r.eK,(∀ p∈a.hx,j6 p.Sym)/\j6 a.Prec
theorem Xs (s:Source) (av:rN s):Par (xS s) λr=>r=true->Lh s:=by
 unfold xS;refine .aB (Ξ:=hK (λ_=>True) (λr=>r=false)) ?_ λx J=>?_
 ·refine Par.loop (λ_=>True) trivial λj _=>?_;refine Par.br (λ_=>.aB (Ξ:=λ_=>True) (λ_ _=>trivial) λ_ _=>Par.bF (λ_=>.aq rfl) (λ_=>.aq trivial)) (λ_=>.aq trivial)
 ·rcases x with _ | r
  ·refine .aB (Par.scan s.Decls (by have:=av.zb; omega) (λd=>∀ x∈d.eL,j6 x) (λr=>r=false) (λi y aR h1 hi hm=>?_) (λs aC=>by simp [aC])) λx J=>?_
   ·refine Par.br (λ_=>?_) (λh=>absurd h1 h);rw [hi];have hw:aK (i+1)=i+1:=by have:=av.zb; rw [cI]; omega
    rw [hw];refine .aB (Ξ:=λz=>z=y) (.aq rfl) λz aY=>?_;subst aY;exact .aB (Xw z (by have:=(av.decls z hm).n; omega)) λc aa=>Par.bF (λ_=>.aq rfl) (λaf=>.aq ⟨rfl,aa (by simpa using af)⟩)
   ·rcases x with _ | r
    ·have aS:∀ d∈s.Decls,∀ x∈d.eL,j6 x:=J;refine .aB (Par.scan s.dG (by have:=av.aH; omega) (λr=>∀ a∈r.eK,(∀ p∈a.hx,j6 p.Sym)/\j6 a.Prec) (λr=>r=false) (λi y aR h1 hi hm=>?_) (λs aC=>by simp [aC])) λx J=>?_
     ·refine Par.br (λ_=>?_) (λh=>absurd h1 h);rw [hi];have hw:aK (i+1)=i+1:=by have:=av.aH; rw [cI]; omega
      rw [hw];refine .aB (Ξ:=λz=>z=y) (.aq rfl) λz aY=>?_;subst aY;have l7:=(av.rules z hm);refine .aB (Ξ:=λ_=>True) (λ_ _=>trivial) λc _=>Par.bF (λ_=>.aq rfl) (λ_=>?_);refine .aB (Par.scan z.eK (by have:=l7.n; omega) (λa=>(∀ p∈a.hx,j6 p.Sym)/\j6 a.Prec) (λr=>r=false) (λk y aR h1 hi hm=>?_) (λs aC=>by simp [aC])) λx J=>?_
      ·refine Par.br (λ_=>?_) (λh=>absurd h1 h);rw [hi];have hw:aK (k+1)=k+1:=by have:=l7.n; rw [cI]; omega
       rw [hw];refine .aB (Ξ:=λz=>z=y) (.aq rfl) λz aY=>?_;subst aY;exact .aB (Xx z (by have:=(l7.alts z hm).n; omega)) λc aa=>Par.bF (λ_=>.aq rfl) (λaf=>.aq ⟨rfl,aa (by simpa using af)⟩)
      ·rcases x with _ | r
       ·exact .aq ⟨rfl,J⟩
       ·exact .aq J
     ·rcases x with _ | r
      ·exact .aq λ_=>⟨aS,J⟩
      ·exact .aq λh=>by have:r=false:=J; rw [this] at h; cases h
    ·exact .aq λh=>by have:r=false:=J; rw [this] at h; cases h
  ·exact .aq λh=>by have:r=false:=J; rw [this] at h; cases h
structure yV (T:List bX) (G:List Bool):Prop where
 Ej:G.length=T.length
 lo:3<=T.length
 hi:T.length<=lim
 Cz:∀ t∈T,t.Name.size<=dK/\(t.Lit=true->t.Name.size=1)
 le:∀ t∈T,t.bR<=50000
structure tl (T:List bX) (G:List Bool):Prop where
 aS:∀ (i:Nat) (t:bX),i<3->T[i]?=some t->t.bR<=0
 un:∀ (i j:Nat) (s t:bX),T[i]?=some s->T[j]?=some t->0<s.bR->s.bR=t.bR->i=j
 gE:∀ (i:Nat) (t:bX),3<=i->T[i]?=some t->(G[i]?=some true->0<t.bR)/\(G[i]?=some false->t.bR=0)
structure fD (m:fJ):Prop where
 a:yV m.aG.ba m.cu
 b:m.cZ=0->tl m.aG.ba m.cu
 fx:∀ y∈m.cb,y.size<=dK
theorem vx {α:Type}{l:List α}{i:Int}{y:α}(h:idx l i=some y):0<=i/\i.toNat<l.length/\l[i.toNat]?=some y:=by
 unfold idx at h
 split at h
 ·rename_i aR;exact ⟨aR,(List.getElem?_eq_some_iff.1 h).1,h⟩
 ·cases h
theorem yV.set {T:List bX}{G:List Bool}(h:yV T G) {k:Nat}{t t':bX}(hk:T[k]?=some t) (aF:t'.Name=t.Name) (ak:t'.Lit=t.Lit) (hu:t'.bR<=50000) {K9:List Bool}(c_:K9.length=G.length):yV (T.set k t') K9:=by
 have hm:=List.mem_of_getElem? hk;have key:∀ {P:bX->Prop},(∀ s∈T,P s)->P t'->∀ s∈T.set k t',P s:=λh1 af s aC=>by
  rcases List.mem_or_eq_of_mem_set aC with h | h
  ·exact h1 s h
  ·rw [h]; exact af
 exact ⟨by rw [c_,List.length_set]; exact h.Ej,by rw [List.length_set]; exact h.lo,by rw [List.length_set]; exact h.hi,key h.Cz (by rw [aF,ak]; exact h.Cz t hm),key h.le hu⟩
theorem yh {α:Type}{l:List α}{k:Nat}{x:α}(hk:k<l.length) (i:Nat):(l.set k x)[i]?=if i=k then some x else l[i]?:=by
 rw [List.getElem?_set];by_cases e:k=i
 ·subst e; simp [hk]
 ·simp [e,Ne.symm e]
theorem tl.FR {T:List bX}{G:List Bool}(h:tl T G) {k:Nat}{t t':bX}(hk:T[k]?=some t) (hu:t'.bR=t.bR):tl (T.set k t') G:=by
 have aT:=(List.getElem?_eq_some_iff.1 hk).1;have key:∀ (i:Nat) (s:bX),(T.set k t')[i]?=some s->∃ cT,T[i]?=some cT/\cT.bR=s.bR:=by
  intro i s aC;rw [yh aT] at aC;by_cases e:i=k
  ·rw [if_pos e] at aC;cases aC;exact ⟨t,by rw [e]; exact hk,hu.symm⟩
  ·rw [if_neg e] at aC;exact ⟨s,aC,rfl⟩
 refine ⟨λi s hi aC=>?_,λi j s s2 aC lf aR he=>?_,λi s hi aC=>?_⟩
 ·obtain ⟨cT,h1,af⟩:=key i s aC;rw [<- af]; exact h.aS i cT hi h1
 ·obtain ⟨cT,h1,af⟩:=key i s aC;obtain ⟨Ye,aI,bK⟩:=key j s2 lf;exact h.un i j cT Ye h1 aI (by omega) (by omega)
 ·obtain ⟨cT,h1,af⟩:=key i s aC;rw [<- af]; exact h.gE i cT hi h1
theorem tl.Ym {T:List bX}{G:List Bool}(h:tl T G) {k:Nat}{t t':bX}(hk:T[k]?=some t) (aI:3<=k) (aO:k<G.length) (aR:0<t'.bR) (aF:∀ (i:Nat) (s:bX),T[i]?=some s->s.bR≠t'.bR):tl (T.set k t') (G.set k true):=by
 have aT:=(List.getElem?_eq_some_iff.1 hk).1;refine ⟨λi s hi aC=>?_,λi j s s2 aC lf au he=>?_,λi s hi aC=>?_⟩
 ·rw [yh aT,if_neg (by omega)] at aC;exact h.aS i s hi aC
 ·rw [yh aT] at aC lf;by_cases cA:i=k
  ·rw [if_pos cA] at aC; cases aC;by_cases cf:j=k
   ·omega
   ·rw [if_neg cf] at lf;exact absurd he.symm (aF j s2 lf)
  ·rw [if_neg cA] at aC;by_cases cf:j=k
   ·rw [if_pos cf] at lf; cases lf;exact absurd he (aF i s aC)
   ·rw [if_neg cf] at lf;exact h.un i j s s2 aC lf au he
 ·rw [yh aT] at aC;rw [yh aO];by_cases cA:i=k
  ·rw [if_pos cA] at aC ⊢;cases aC;exact ⟨λ_=>aR,λh=>by cases h⟩
  ·rw [if_neg cA] at aC ⊢;exact h.gE i s hi aC
theorem sY (m:fJ) (a:Int) (n:ByteArray):Par (nU m a n) λm'=>rM m m'/\m'.cZ≠0:=.of (t105 m a n)
theorem fD.fail {m m':fJ}(h:fD m) (aC:rM m m'/\m'.cZ≠0):fD m':=⟨by rw [aC.1.g,aC.1.gE]; exact h.a,λe=>absurd e aC.2,by rw [aC.1.fx]; exact h.fx⟩
theorem Xu (m:fJ) (x:Sym) (aI:3<=m.aG.ba.length) (h:m.aG.ba.length<=lim):Par (uq m x) λr=>r=-1\/(1<=r/\r≠2):=by
 have ak:lim=1000000000000\/lim<=1000000000000000:=by unfold lim; omega
 unfold uq;refine .aB (Ξ:=hK (λ_=>True) (λr:Int=>1<=r/\r≠2)) ?_ λr ao=>?_
 ·refine Par.loop (λs=>1<=s/\s<=m.aG.ba.length) ⟨by decide,by omega⟩ λs aC=>?_
  ·refine Par.br (λaT=>?_) (λ_=>.aq trivial);refine .aB (Ξ:=λc=>c=true->s≠2) ?_ λc aa=>Par.bF (λaQ=>.aq ⟨aC.1,aa aQ⟩) (λ_=>.aq ⟨by rw [cI]; omega,by rw [cI]; omega⟩);refine .go λy _=>Par.bF (λ_=>.go λz _=>Par.bF (λ_=>.aq λaQ=>by simpa using aQ) (λ_=>.aq λh=>by cases h)) (λ_=>.aq λh=>by cases h)
 ·rcases r with _ | r
  ·exact .aq (.inl rfl)
  ·exact .aq (.inr ao)
theorem Pb (m:fJ) (n:Int) (aI:3<=m.aG.ba.length) (h:m.aG.ba.length<=lim):Par (vN m n) λr=>r<0->∀ (i:Nat) (t:bX),3<=i->m.aG.ba[i]?=some t->t.bR≠n:=by
 have ak:lim=1000000000000\/lim<=1000000000000000:=by unfold lim; omega
 unfold vN;refine .aB (Ξ:=hK (λ_=>∀ (i:Nat) (t:bX),3<=i->m.aG.ba[i]?=some t->t.bR≠n) (λr:Int=>0<=r)) ?_ λr ao=>?_
 ·refine Par.loop (λs=>3<=s/\s<=m.aG.ba.length/\∀ (i:Nat) (t:bX),3<=i->(i:Int)<s->m.aG.ba[i]?=some t->t.bR≠n) ⟨by decide,by omega,λi t h1 af=>by omega⟩ λs aC=>?_;obtain ⟨h1,af,aC⟩:=aC;refine Par.br (λaT=>?_) (λdU=>.aq λi t hi aw=>aC i t hi ?_ aw)
  ·refine .go λy ax=>?_;obtain ⟨_,_,ax⟩:=vx ax;have hw:aK (s+1)=s+1:=by rw [cI]; omega
   rw [hw];refine Par.br (λe=>.aq (show (0:Int)<=s by omega)) (λe=>.aq ⟨by omega,by omega,λi t hi zr aw=>?_⟩);by_cases cf:i=s.toNat
   ·subst cf;rw [ax] at aw; cases aw; exact e
   ·exact aC i t hi (by omega) aw
  ·have:=(List.getElem?_eq_some_iff.1 aw).1;omega
 ·rcases r with _ | r
  ·exact .aq λ_=>ao
  ·exact .aq λh=>by have:(0:Int)<=r:=ao; omega
theorem Dm {α:Type}{l:List α}{x:α}(i:Nat) {y:α}(h:(l++[x])[i]?=some y):(i<l.length/\l[i]?=some y)\/(i=l.length/\y=x):=by
 by_cases hi:i<l.length
 ·rw [List.getElem?_append_left hi] at h;exact .inl ⟨hi,h⟩
 ·rw [List.getElem?_append_right (by omega)] at h;by_cases e:i - l.length=0
  ·rw [e] at h;simp at h;exact .inr ⟨by omega,h.symm⟩
  ·have:([x]:List α)[i - l.length]?=none:=by rw [List.getElem?_eq_none]; simp; omega
   rw [this] at h; cases h
theorem Pa (m:fJ) (x:Sym) (hm:fD m) (J:j6 x) (aC:x.Name.size<=dK):Par (vM m x) λr=>fD r.2/\(r.1=1\/3<=r.1):=by
 unfold vM;have ak:lim<=1000000000000000:=by unfold lim; omega
 refine .aB (Xu m x hm.a.lo hm.a.hi) λr ao=>Par.br (λh=>.aq ⟨hm,?_⟩) (λ_=>?_)
 ·show r=1\/3<=r;omega
 refine .aB (Ξ:=λj:fJ × Int=>j.1.aG=m.aG/\j.1.cu=m.cu/\j.1.cb=m.cb/\fD j.1/\j.2<=50000/\(j.1.cZ=0->(x.Lit=true->0<j.2/\∀ (i:Nat) (t:bX),m.aG.ba[i]?=some t->t.bR≠j.2)/\(x.Lit=false->j.2=0))) ?_ λj ah=>?_
 ·refine Par.bF (λoc=>?_) (λoc=>.aq ⟨rfl,rfl,rfl,hm,by show (0:Int)<=_; decide,λ_=>⟨λh=>(by rw [oc] at h; cases h),λ_=>rfl⟩⟩);obtain ⟨_,h1,af,_⟩:=J.lit oc;refine .aB (Ξ:=λc=>c=lB x.Name 0) (λc aa=>?_) λc aa=>?_
  ·unfold kp at aa
   split at aa
   ·exact (Option.some.inj aa).symm
   ·cases aa
  subst aa;have hw:aK (lB x.Name 0)=lB x.Name 0:=by rw [cI]; omega
  rw [hw];refine .aB (Pb m (lB x.Name 0) hm.a.lo hm.a.hi) λo a1=>?_;refine .aB (Ξ:=λj:fJ=>j.aG=m.aG/\j.cu=m.cu/\j.cb=m.cb/\fD j/\(j.cZ=0->m.cZ=0/\o<0)) (Par.br (λh=>.aB (sY m x.At x.Name) λm' aQ=>.aq ⟨aQ.1.g,aQ.1.gE,aQ.1.fx,hm.fail aQ,λe=>absurd e aQ.2⟩) (λh=>.aq ⟨rfl,rfl,rfl,hm,λe=>⟨e,by omega⟩⟩)) λj ah=>.aq ⟨ah.1,ah.2.1,ah.2.2.1,ah.2.2.2.1,by show lB x.Name 0<=_; omega,λe=>⟨λ_=>⟨h1,λi t aw=>?_⟩,λh=>(by rw [oc] at h; cases h)⟩⟩;obtain ⟨cA,cf⟩:=ah.2.2.2.2 e;by_cases aI:3<=i
  ·exact a1 cf i t aI aw
  ·have:=(hm.b cA).aS i t (by omega) aw;show t.bR≠lB x.Name 0;omega
 ·obtain ⟨aO,r4,vh,dL,hle,he⟩:=ah;have Es:j.1.cZ=0->tl m.aG.ba m.cu:=λe=>by have:=dL.b e; rwa [aO,r4] at this
  refine Par.ap λsK=>Par.ap λ_=>.aq ?_;rw [aO] at sK;rw [aO,r4,vh];simp only [List.length_cons,List.length_nil] at sK;have aI:=hm.a.lo;have Im:=hm.a.Ej;refine ⟨⟨⟨by simp [Im],by show 3<=(m.aG.ba++[_]).length; simp; omega,by show (m.aG.ba++[_]).length<=_; simp; omega,λt aw=>?_,λt aw=>?_⟩,λhz=>?_,hm.fx⟩,?_⟩
  ·rcases List.mem_append.1 aw with aw | aw
   ·exact hm.a.Cz t aw
   ·rw [List.mem_singleton.1 aw];exact ⟨aC,λh=>(J.lit h).1⟩
  ·rcases List.mem_append.1 aw with aw | aw
   ·exact hm.a.le t aw
   ·rw [List.mem_singleton.1 aw]; exact hle
  ·have Mh:j.1.cZ=0:=hz;have av:=Es Mh;obtain ⟨Ih,BJ⟩:=he Mh;refine ⟨λi t hi aw=>?_,λi k s t aC aw aR heq=>?_,λi t hi aw=>?_⟩
   ·rcases Dm i aw with ⟨h1,af⟩ | ⟨h1,_⟩
    ·exact av.aS i t hi af
    ·omega
   ·rcases Dm i aC with ⟨h1,af⟩ | ⟨h1,af⟩
    ·rcases Dm k aw with ⟨bK,cG⟩ | ⟨bK,cG⟩
     ·exact av.un i k s t af cG aR heq
     ·subst cG;have heq:s.bR=j.2:=heq;cases oc:x.Lit with
      | true=>exact absurd heq ((Ih oc).2 i s af)
      | false=>have:=BJ oc; omega
    ·subst af;rcases Dm k aw with ⟨bK,cG⟩ | ⟨bK,cG⟩
     ·have heq:j.2=t.bR:=heq;have aR:0<j.2:=aR;cases oc:x.Lit with
      | true=>exact absurd heq.symm ((Ih oc).2 k t cG)
      | false=>have:=BJ oc; omega
     ·omega
   ·have T_:(m.cu++[x.Lit])[i]?=if i=m.aG.ba.length then some x.Lit else m.cu[i]?:=by
     by_cases e:i=m.aG.ba.length
     ·rw [if_pos e,e,<- Im,List.getElem?_append_right (Nat.le_refl _)]; simp
     ·have:=(List.getElem?_eq_some_iff.1 aw).1;simp at this;rw [if_neg e,List.getElem?_append_left (by omega)]
    show ((m.cu++[x.Lit])[i]?=some true->0<t.bR)/\((m.cu++[x.Lit])[i]?=some false->t.bR=0);rw [T_];rcases Dm i aw with ⟨h1,af⟩ | ⟨h1,af⟩
    ·rw [if_neg (by omega)];exact av.gE i t hi af
    ·rw [if_pos h1];subst af;exact ⟨λh=>(Ih (Option.some.inj h)).1,λh=>BJ (Option.some.inj h)⟩
  ·right;show 3<=aK (((m.aG.ba++[_]).length:Int) - 1);simp only [List.length_append,List.length_cons,List.length_nil];rw [cI]; omega
theorem xt {α:Type}{l:List α}{i:Int}{y:α}(h:idx l i=some y):y∈l:=List.mem_of_getElem? (vx h).2.2
theorem fD.FR {m:fJ}(h:fD m) {k:Nat}{t t':bX}(hk:m.aG.ba[k]?=some t) (aF:t'.Name=t.Name) (ak:t'.Lit=t.Lit) (hu:t'.bR=t.bR):yV (m.aG.ba.set k t') m.cu/\(m.cZ=0->tl (m.aG.ba.set k t') m.cu) :=
 ⟨h.a.set hk aF ak (by rw [hu]; exact h.a.le t (List.mem_of_getElem? hk)) rfl,λe=>(h.b e).FR hk hu⟩
theorem fD.Hr {m m':fJ}(h:fD m) (aC:rM m m'/\m'.cZ≠0):fD (⟨(⟨m.aG.ba,m'.aG.b1,m'.aG.bh,m'.aG.cC,m'.aG.cK⟩:bO),m'.cu,m'.cL,m'.cb,m'.cZ,m'.dp,m'.dm,m'.cr,m'.b_⟩:fJ) :=
 ⟨by show yV m.aG.ba m'.cu; rw [aC.1.gE]; exact h.a,λe=>absurd e aC.2,by show ∀ y∈m'.cb,_; rw [aC.1.fx]; exact h.fx⟩
theorem Xt (m:fJ) (d:Decl) (x:Sym) (hm:fD m) (J:j6 x) (aC:x.Name.size<=dK):Par (vI m d x) fD:=by
 unfold vI;refine Par.bF (λ_=>?_) (λ_=>?_)
 ·refine .aB (Ξ:=λ_=>True) (λ_ _=>trivial) λk _=>.aB (Ξ:=fD) ?_ λm' hm=>.aq hm;refine Par.br (λ_=>Par.ap λ_=>.aq ⟨hm.a,hm.b,hm.fx⟩) (λ_=>?_);refine .go λy _=>.aB (Ξ:=fD) (Par.bF (λ_=>.aB (sY m _ _) λm' h=>.aq (hm.fail h)) (λ_=>.aq hm)) λm' hm=>.aq hm
 ·refine .aB (Pa m x hm J aC) λr ao=>?_;obtain ⟨ao,kt⟩:=ao;refine .go λy ax=>?_;refine .aB (Ξ:=fD) ?_ λeN q_=>?_
  ·refine Par.bF (λ_=>?_) (λ_=>.aq ao);refine .aB (Ξ:=fD) (Par.bF (λ_=>.aB (sY r.2 _ _) λm' h=>.aq (ao.Hr h)) (λ_=>.aq ao)) λde sC=>?_;refine .go λz aY=>?_;obtain ⟨_,_,aY⟩:=vx aY;rw [List.set_set];obtain ⟨h1,af⟩:=sC.FR (t':=(⟨z.Name,z.Lit,z.bR,de.cr,aK (d.Kind - 1),z.Tag⟩:bX)) aY rfl rfl rfl;exact .aq ⟨h1,af,sC.fx⟩
  refine .go λy _=>?_;refine .aB (Ξ:=fD) ?_ λe_ u3=>?_
  ·refine Par.br (λsL=>?_) (λ_=>.aq q_);refine .aB (Ξ:=λc:Bool=>c=false->r.1≠1/\∀ (i:Nat) (t:bX),3<=i->eN.aG.ba[i]?=some t->t.bR≠x.bR) ?_ λc aa=>?_
   ·refine Par.br (λ_=>.aq λh=>by cases h) (λh1=>.go λgE _=>Par.bF (λ_=>.aq λh=>by cases h) (λ_=>.aB (Pb eN x.bR q_.a.lo q_.a.hi) λo a1=>.aq λh=>⟨h1,a1 (by have:=of_decide_eq_false h; omega)⟩))
   refine .aB (Ξ:=λj=>fD j/\(j.cZ=0->r.1≠1/\∀ (i:Nat) (t:bX),3<=i->j.aG.ba[i]?=some t->t.bR≠x.bR)) (Par.bF (λ_=>.aB (sY eN _ _) λm' h=>.aq ⟨q_.Hr h,λe=>absurd e h.2⟩) (λh=>.aq ⟨q_,λ_=>aa h⟩)) λdY rV=>?_;obtain ⟨rV,aF⟩:=rV;refine .go λz aY=>.go λgE r4=>.aq ?_;obtain ⟨aR,aT,aY⟩:=vx aY;obtain ⟨_,Vw,r4⟩:=vx r4;have hle:=J.num;refine ⟨rV.a.set (t':=(⟨z.Name,z.Lit,x.bR,z.Level,z.fu,z.Tag⟩:bX)) aY rfl rfl hle.2 (by simp),λe=>?_,rV.fx⟩;obtain ⟨aI,bK⟩:=aF e;have av:=rV.b e;refine av.Ym (t':=(⟨z.Name,z.Lit,x.bR,z.Level,z.fu,z.Tag⟩:bX)) aY (by omega) Vw sL λi t aw=>?_;by_cases abD:3<=i
   ·grind
   ·have:=av.aS i t (by omega) aw
    grind
  refine .go λy _=>.aB (Ξ:=fD) ?_ λj ah=>.aq ah;refine Par.bF (λ_=>?_) (λ_=>.aq u3);refine .aB (Ξ:=λ_=>True) (λ_ _=>trivial) λc _=>?_;refine .aB (Ξ:=fD) (Par.bF (λ_=>.aB (sY e_ _ _) λm' h=>.aq (u3.Hr h)) (λ_=>.aq u3)) λnf Bq=>?_;refine .go λz aY=>?_;obtain ⟨_,_,aY⟩:=vx aY;obtain ⟨h1,af⟩:=Bq.FR (t':=(⟨z.Name,z.Lit,z.bR,z.Level,z.fu,d.Tag⟩:bX)) aY rfl rfl rfl;exact .aq ⟨h1,af,Bq.fx⟩
theorem Pc (m:fJ) (x:Sym) (hm:fD m) (J:j6 x) (aC:x.Name.size<=dK):Par (s3 m x) λr=>fD r.2:=by
 unfold s3;refine Par.bF (λ_=>.aB (Pa m x hm J aC) λr ao=>.aq ao.1) (λ_=>.aB (Ξ:=λ_=>True) (λ_ _=>trivial) λk _=>Par.bF (λ_=>.aq hm) (λ_=>.aB (Ξ:=λ_=>True) (λ_ _=>trivial) λt _=>Par.bF (λ_=>.aB (sY m _ _) λm' h=>.aq (hm.fail h)) (λ_=>.aq hm)))
theorem Xv (m:fJ) (left:ByteArray) (a:Alt) (hm:fD m) (av:wi a) (aP:(∀ p∈a.hx,j6 p.Sym)/\j6 a.Prec):Par (vJ m left a) fD:=by
 have aF:=av.n;unfold vJ;refine .aB (Ξ:=λ_=>True) (λ_ _=>trivial) λa8 _=>?_;refine .aB (Ξ:=λr:fJ × List Int × ByteArray × Int=>fD r.1) ?_ λa7 aI=>?_
 ·refine Par.loop (λs=>fD s.1/\0<=s.2.2.2.2) ⟨hm,Int.le_refl 0⟩ λs aC=>?_;obtain ⟨m1,rt,bF,at_,i⟩:=s;obtain ⟨aC,aR⟩:=aC;simp only at aC aR ⊢;refine Par.br (λaT=>?_) (λ_=>.aq aC);refine .aB (Ξ:=λj:fJ × List Int × ByteArray × Int=>fD j.1) ?_ λj ah=>.aq ⟨ah,by show 0<=aK (i+1); rw [cI]; omega⟩;refine .go λy ax=>.aB (Ξ:=λj:fJ × List Int × ByteArray × Int=>fD j.1) ?_ λj ah=>.aq ah;have ER:=(xt ax);refine .aB (Ξ:=λj:fJ × List Int × ByteArray × Int=>fD j.1) ?_ λj ah=>.aq ah;refine Par.bF (λ_=>?_) (λ_=>?_)
  ·exact .aB (Pc m1 y.Sym aC (aP.1 y ER) (av.parts y ER).1) λr ao=>Par.ap λ_=>.aq ao
  ·exact .aB (Ξ:=λ_=>True) (λ_ _=>trivial) λj _=>.aq ⟨aC.a,aC.b,aC.fx⟩
 ·refine .aB (Ξ:=λ_=>True) (λ_ _=>trivial) λhq _=>?_;refine .aB (Ξ:=λj:fJ × Int=>fD j.1) ?_ λj ah=>Par.ap λ_=>Par.ap λ_=>.aq ⟨ah.a,ah.b,ah.fx⟩;refine Par.bF (λ_=>?_) (λ_=>.aq aI);refine .aB (Ξ:=λ_=>True) (λ_ _=>trivial) λc _=>.aB (Ξ:=λj:fJ × Int=>fD j.1) ?_ λj ah=>.aq ah;exact Par.bF (λ_=>.aB (Pc a7.1 a.Prec aI aP.2 av.prec) λr ao=>.aq ao) (λ_=>.aB (sY a7.1 _ _) λm' h=>.aq (aI.fail h))
structure uP (g:bO):Prop where
 aS:∀ (i:Nat) (t:bX),i<3->g.ba[i]?=some t->t.bR<=0
 pos:∀ (i:Nat) (t:bX),3<=i->g.ba[i]?=some t->0<t.bR/\t.bR<=100000
 un:∀ (i j:Nat) (s t:bX),g.ba[i]?=some s->g.ba[j]?=some t->0<s.bR->s.bR=t.bR->i=j
 Cz:∀ t∈g.ba,t.Name.size<=dK/\(t.Lit=true->t.Name.size=1)
 dz:∀ x∈g.b1,x.Name.size<=4 * dK
theorem XB (s:Source) (av:rN s):Par (vW s) λr=>r.2.1=0->uP r.1:=by
 have U8:=av.zb;have B1:=av.aH;unfold vW;refine .aB (Xs s av) λc aa=>Par.bF (λ_=>.aq λh=>absurd h (by decide)) (λiq=>?_);have ok:Lh s:=aa (by simpa using iq);refine .aB (Ξ:=λl=>l=List.replicate 3 false) (λa e=>by unfold ni at e; split at e <;> cases e; rfl) λa7 js=>?_;subst js
 -- declarations
 refine .aB (Ξ:=λr:fJ × ByteArray=>fD r.1) ?_ λbS cG=>?_
 ·refine Par.loop (λz=>fD z.1/\0<=z.2.2) ⟨⟨⟨rfl,Nat.le_refl 3,by show 3<=lim; unfold lim; omega,λt aw=>?_,λt aw=>?_⟩,λ_=>⟨λi t hi aw=>?_,λi j a b aP av aR he=>?_,λi t hi aw=>?_⟩,λy ax=>by cases ax⟩,Int.le_refl 0⟩ λz aY=>?_
  ·have aw:t∈[_,_,_]:=aw;simp only [List.mem_cons,List.not_mem_nil,or_false] at aw;rcases aw with rfl | rfl | rfl <;> exact ⟨by decide,λh=>by cases h⟩
  ·have aw:t∈[_,_,_]:=aw;simp only [List.mem_cons,List.not_mem_nil,or_false] at aw;rcases aw with rfl | rfl | rfl <;> decide
  ·have aw:t∈[_,_,_]:=List.mem_of_getElem? aw;simp only [List.mem_cons,List.not_mem_nil,or_false] at aw;rcases aw with rfl | rfl | rfl <;> decide
  ·have aP:a∈[_,_,_]:=List.mem_of_getElem? aP;simp only [List.mem_cons,List.not_mem_nil,or_false] at aP;rcases aP with rfl | rfl | rfl <;> exact absurd aR (by decide)
  ·have:=(List.getElem?_eq_some_iff.1 aw).1;have:i<3:=this;omega
  ·obtain ⟨m,st,i⟩:=z;obtain ⟨hm,aR⟩:=aY;simp only at hm aR ⊢;refine Par.br (λaT=>?_) (λ_=>.aq hm);refine .go λd aS=>?_;have jX:=xt aS;refine .aB (Ξ:=λ_=>True) (λ_ _=>trivial) λ_ _=>.aB (Ξ:=λ_=>True) (λ_ _=>trivial) λju _=>?_;refine .aB (Ξ:=λr:fJ × ByteArray=>fD r.1) ?_ λr ao=>.aq ⟨ao,by show 0<=aK (i+1); rw [cI]; omega⟩;refine Par.loop (λz=>fD z.1/\0<=z.2.2) ⟨⟨hm.a,hm.b,hm.fx⟩,Int.le_refl 0⟩ λz aY=>?_;obtain ⟨m,st,k⟩:=z;obtain ⟨hm,HC⟩:=aY;simp only at hm HC ⊢;have zn:=(av.decls d jX).n;refine Par.br (λxb=>?_) (λ_=>.aq hm);refine .aB (Ξ:=λr:fJ × ByteArray=>fD r.1) ?_ λr ao=>.aq ⟨ao,by show 0<=aK (k+1); rw [cI]; omega⟩;refine Par.bF (λ_=>.go λx J=>?_) (λ_=>?_)
   ·have zE:=xt J;exact .aB (Xt m d x hm (ok.decls d jX x zE) ((av.decls d jX).syms x zE)) λm' ir=>.aq ir
   ·refine .aB (Ξ:=fD) (Par.bF (λ_=>.go λ_ _=>.go λ_ _=>.aB (sY m _ _) λm' h=>.aq (hm.fail h)) (λ_=>.aq hm)) λm' ir=>.go λ_ _=>.aq ir
 -- what stands on the left
 refine .aB (Ξ:=fD) ?_ λcY HG=>?_
 ·refine Par.loop (λz=>fD z.1/\0<=z.2) ⟨cG,Int.le_refl 0⟩ λz aY=>?_;obtain ⟨m,i⟩:=z;obtain ⟨hm,aR⟩:=aY;simp only at hm aR ⊢;refine Par.br (λaT=>?_) (λ_=>.aq hm);refine .aB (Ξ:=fD) ?_ λr ao=>.aq ⟨ao,by show 0<=aK (i+1); rw [cI]; omega⟩;refine .go λr ao=>.aB (Ξ:=λ_=>True) (λ_ _=>trivial) λ_ _=>?_;refine .aB (Ξ:=fD) (Par.bF (λ_=>.aB (sY m _ _) λm' h=>.aq (hm.fail h)) (λ_=>.aq hm)) λiP pk=>?_;refine .aB (Ξ:=λ_=>True) (λ_ _=>trivial) λ_ _=>?_;refine .aB (Ξ:=λl:List ByteArray=>∀ y∈l,y.size<=dK) (Par.bF (λ_=>Par.ap λ_=>.aq λy ax=>?_) (λ_=>.aq pk.fx)) λl ak=>.aq ⟨pk.a,pk.b,ak⟩;rcases List.mem_append.1 ax with ax | ax
  ·exact pk.fx y ax
  ·rw [List.mem_singleton.1 ax]; exact (av.rules r (xt ao)).left
 -- types and starts
 refine .aB (Ξ:=fD) ?_ λhd tF=>?_
 ·refine Par.loop (λz=>fD z.1) HG λz hm=>?_;obtain ⟨m,i⟩:=z;simp only at hm ⊢;refine Par.br (λaT=>?_) (λ_=>.aq hm);refine .aB (Ξ:=fD) ?_ λr ao=>.aq ao;refine Par.loop (λz=>fD z.1) hm λz hm=>?_;obtain ⟨m,k⟩:=z;simp only at hm ⊢;refine .go λd _=>Par.br (λaT=>?_) (λ_=>.aq hm);refine .aB (Ξ:=fD) ?_ λr ao=>.aq ao;refine .go λ_ _=>.go λ_ _=>.aB (Ξ:=λ_=>True) (λ_ _=>trivial) λ_ _=>?_;exact .aB (Ξ:=fD) (Par.bF (λ_=>.aB (sY m _ _) λm' h=>.aq (hm.fail h)) (λ_=>.aq hm)) λm' ir=>.aq ir
 refine .aB (Ξ:=λ_=>True) (λ_ _=>trivial) λxA _=>.aB (Ξ:=λ_=>True) (λ_ _=>trivial) λmH _=>?_
 -- the alternatives
 refine .aB (Ξ:=fD) ?_ λbu pn=>?_
 ·refine Par.loop (λz=>fD z.1/\0<=z.2) ⟨⟨tF.a,tF.b,tF.fx⟩,Int.le_refl 0⟩ λz aY=>?_;obtain ⟨m,i⟩:=z;obtain ⟨hm,aR⟩:=aY;simp only at hm aR ⊢;refine Par.br (λaT=>?_) (λ_=>.aq hm);refine .aB (Ξ:=fD) ?_ λr ao=>.aq ⟨ao,by show 0<=aK (i+1); rw [cI]; omega⟩;refine Par.loop (λz=>fD z.1/\0<=z.2) ⟨hm,Int.le_refl 0⟩ λz aY=>?_;obtain ⟨m,k⟩:=z;obtain ⟨hm,HC⟩:=aY;simp only at hm HC ⊢;refine .go λd aS=>Par.br (λxb=>?_) (λ_=>.aq hm);have jX:=xt aS;have zn:=(av.rules d jX).n;refine .go λd1 Nq=>.go λd2 zm=>.go λa aP=>?_;rw [aS] at Nq zm;cases Nq; cases zm;have Ng:=xt aP;exact .aB (Xv m d.Left a hm ((av.rules d jX).alts a Ng) (ok.rules d jX a Ng)) λm' ir=>.aq ⟨ir,by show 0<=aK (k+1); rw [cI]; omega⟩
 refine Par.qe (λh=>.aq λaQ=>absurd aQ h) (λhe=>?_);have IT:=pn.b he
 -- nonterminals
 refine .aB (Ξ:=λl:List fE=>1<=l.length/\∀ x∈l,x.Name.size<=4 * dK) ?_ λuK HJ=>?_
 ·refine Par.loop (λz=>1<=z.1.length/\∀ x∈z.1,x.Name.size<=4 * dK) ⟨Nat.le_refl 1,λx J=>?_⟩ λz aY=>?_
  ·rw [List.mem_singleton.1 J]; decide
  ·refine Par.bF (λ_=>.go λy ax=>.go λ_ _=>.aB (Ξ:=λ_=>True) (λ_ _=>trivial) λ_ _=>Par.ap λ_=>.aq ⟨by show 1<=(z.1++[_]).length; simp,λx J=>?_⟩) (λ_=>.aq aY);rcases List.mem_append.1 J with J | J
   ·exact aY.2 x J
   ·rw [List.mem_singleton.1 J];have:=pn.fx y (xt ax);show y.size<=4 * dK;omega
 refine .aB (Ξ:=λl:List fE=>l.length<=24->∀ x∈l,x.Name.size<=4 * dK) ?_ λk1 MT=>?_
 ·refine Par.loop (λz=>(z.1.length<=24->∀ x∈z.1,x.Name.size<=4 * dK)/\0<=z.2/\z.2<=z.1.length) ⟨λ_=>HJ.2,by show (0:Int)<=1; decide,by have:=HJ.1; show (1:Int)<=(uK.length:Int); omega⟩ λz aY=>?_;obtain ⟨l,i⟩:=z;obtain ⟨ak,aR,hi⟩:=aY;simp only at ak aR hi ⊢;refine Par.br (λhle=>.go λy ax=>?_) (λ_=>.aq ak);refine Par.cat (Par.ap λsK=>.aq ⟨λhlen x J=>?_,by show 0<=aK (i+1); unfold lim at sK; simp only [List.length_cons,List.length_nil] at sK; rw [cI]; omega,by show aK (i+1)<=(((l++[_]).length:Nat):Int); unfold lim at sK; simp only [List.length_cons,List.length_nil,List.length_append] at sK ⊢; rw [cI]; omega⟩);have hlen:(l++[_]).length<=24:=hlen;simp only [List.length_append,List.length_cons,List.length_nil] at hlen;rcases List.mem_append.1 J with J | J
  ·exact ak (by omega) x J
  ·rw [List.mem_singleton.1 J];have fY:=(t110 i aR (by omega)).eq ax;show (_++y).size<=4 * dK;rw [ByteArray.size_append];show 1+y.size<=4 * dK;simp only [dK]; omega
 -- numbers
 have dL:=pn.a;have sK:bu.aG.ba.length<=1000000000000000:=by have:=dL.hi; unfold lim at this; omega
 refine .aB (Ξ:=λl:List bX=>∃ (i next:Int),l.length=bu.aG.ba.length/\(l.length:Int)<=i/\(∀ (j:Nat) (t:bX),l[j]?=some t->∃ t0,bu.aG.ba[j]?=some t0/\t.Name=t0.Name/\t.Lit=t0.Lit/\((t.bR=t0.bR/\(¬ (3<=j/\(j:Int)<i)\/bu.cu[j]?=some true))\/(57346<=t.bR/\t.bR<next/\3<=j/\(j:Int)<i)))/\(∀ (j k:Nat) (s t:bX),l[j]?=some s->l[k]?=some t->57346<=s.bR->s.bR=t.bR->j=k)/\57346<=next/\next<=57343+i/\i<=l.length) ?_ λmg MU=>?_
 ·refine Par.loop (λz=>z.1.length=bu.aG.ba.length/\(∀ (j:Nat) (t:bX),z.1[j]?=some t->∃ t0,bu.aG.ba[j]?=some t0/\t.Name=t0.Name/\t.Lit=t0.Lit/\((t.bR=t0.bR/\(¬ (3<=j/\(j:Int)<z.2.2)\/bu.cu[j]?=some true))\/(57346<=t.bR/\t.bR<z.2.1/\3<=j/\(j:Int)<z.2.2)))/\(∀ (j k:Nat) (s t:bX),z.1[j]?=some s->z.1[k]?=some t->57346<=s.bR->s.bR=t.bR->j=k)/\57346<=z.2.1/\z.2.1<=57343+z.2.2/\3<=z.2.2/\z.2.2<=z.1.length) ⟨rfl,λj t aw=>⟨t,aw,rfl,rfl,.inl ⟨rfl,.inl (by show ¬ (3<=j/\(j:Int)<3); omega)⟩⟩,λj k s t aC aw aR he=>?_,by show (57346:Int)<=57346; decide,by show (57346:Int)<=57343+3; decide,Int.le_refl 3,by have:=dL.lo; show (3:Int)<=(bu.aG.ba.length:Nat); omega⟩ λz aY=>?_
  ·have:=dL.le s (List.mem_of_getElem? aC); omega
  obtain ⟨l,next,i⟩:=z;obtain ⟨ak,fj,rY,k',xd,Vh,tW⟩:=aY;simp only at ak fj rY k' xd Vh tW ⊢;have hw:aK (i+1)=i+1:=by rw [cI]; omega
  have Wf:aK (next+1)=next+1:=by rw [cI]; omega
  rw [hw,Wf];refine Par.br (λaT=>?_) (λdU=>.aq ⟨i,next,ak,by omega,fj,rY,k',xd,tW⟩);have Ew:i.toNat<l.length:=by omega
  refine .aB (Ξ:=λj:List bX × Int=>j.1.length=bu.aG.ba.length/\(∀ (k:Nat) (t:bX),j.1[k]?=some t->∃ t0,bu.aG.ba[k]?=some t0/\t.Name=t0.Name/\t.Lit=t0.Lit/\((t.bR=t0.bR/\(¬ (3<=k/\(k:Int)<i+1)\/bu.cu[k]?=some true))\/(57346<=t.bR/\t.bR<j.2/\3<=k/\(k:Int)<i+1)))/\(∀ (a k:Nat) (s t:bX),j.1[a]?=some s->j.1[k]?=some t->57346<=s.bR->s.bR=t.bR->a=k)/\57346<=j.2/\j.2<=57343+(i+1)) ?_ λj ah=>.aq ⟨ah.1,ah.2.1,ah.2.2.1,ah.2.2.2.1,ah.2.2.2.2,by show 3<=i+1; omega,by show i+1<=(j.1.length:Nat); rw [ah.1,<- ak]; omega⟩;refine .go λgE r4=>.aB (Ξ:=λj:List bX × Int=>j.1.length=bu.aG.ba.length/\(∀ (k:Nat) (t:bX),j.1[k]?=some t->∃ t0,bu.aG.ba[k]?=some t0/\t.Name=t0.Name/\t.Lit=t0.Lit/\((t.bR=t0.bR/\(¬ (3<=k/\(k:Int)<i+1)\/bu.cu[k]?=some true))\/(57346<=t.bR/\t.bR<j.2/\3<=k/\(k:Int)<i+1)))/\(∀ (a k:Nat) (s t:bX),j.1[a]?=some s->j.1[k]?=some t->57346<=s.bR->s.bR=t.bR->a=k)/\57346<=j.2/\j.2<=57343+(i+1)) ?_ λj ah=>.aq ah;obtain ⟨_,_,r4⟩:=vx r4;refine Par.bF (λaO=>.go λy ax=>.aq ?_) (λaO=>.aq ⟨ak,λk t aw=>?_,rY,k',by omega⟩)
  ·obtain ⟨_,_,ax⟩:=vx ax;obtain ⟨t0,hz,cA,cf,fP⟩:=fj _ y ax;have acq:y.bR<next:=by
    rcases fP with ⟨fP,_⟩ | fP
    ·have:=dL.le t0 (List.mem_of_getElem? hz); omega
    ·exact fP.2.1
   have l6:∀ (k:Nat) (t:bX),l[k]?=some t->t.bR<next:=λk t aw=>by
    obtain ⟨t1,f0,_,_,f3⟩:=fj k t aw;rcases f3 with ⟨f3,_⟩ | f3
    ·have:=dL.le t1 (List.mem_of_getElem? f0); omega
    ·exact f3.2.1
   refine ⟨by show (l.set _ _).length=_; rw [List.length_set]; exact ak,λk t aw=>?_,λa k s t aC aw aR he=>?_,by show 57346<=next+1; omega,by show next+1<=_; omega⟩
   ·have aw:(l.set i.toNat _)[k]?=some t:=aw;rw [yh Ew] at aw;by_cases e:k=i.toNat
    ·rw [if_pos e] at aw;cases aw;subst e;exact ⟨t0,hz,cA,cf,.inr ⟨k',by show next<next+1; omega,by omega,by omega⟩⟩
    ·rw [if_neg e] at aw;obtain ⟨t1,f0,f1,f2,f3⟩:=fj k t aw;refine ⟨t1,f0,f1,f2,?_⟩;rcases f3 with ⟨f3,f4⟩ | f3
     ·exact .inl ⟨f3,f4.imp (λh=>by omega) id⟩
     ·exact .inr ⟨f3.1,by show t.bR<next+1; omega,f3.2.2.1,by omega⟩
   ·have aC:(l.set i.toNat _)[a]?=some s:=aC;have aw:(l.set i.toNat _)[k]?=some t:=aw;rw [yh Ew] at aC aw;by_cases e:a=i.toNat
    ·rw [if_pos e] at aC;cases aC;by_cases cj:k=i.toNat
     ·omega
     ·rw [if_neg cj] at aw;have h1:=l6 k t aw;have he:next=t.bR:=he;omega
    ·rw [if_neg e] at aC;by_cases cj:k=i.toNat
     ·rw [if_pos cj] at aw;cases aw;have h1:=l6 a s aC;have he:s.bR=next:=he;omega
     ·rw [if_neg cj] at aw;exact rY a k s t aC aw aR he
  ·obtain ⟨t1,f0,f1,f2,f3⟩:=fj k t aw;refine ⟨t1,f0,f1,f2,?_⟩;rcases f3 with ⟨f3,f4⟩ | f3
   ·by_cases e:k=i.toNat
    ·refine .inl ⟨f3,.inr ?_⟩;rw [e,r4];simpa using aO
    ·exact .inl ⟨f3,f4.imp (λh=>by omega) id⟩
   ·exact .inr ⟨f3.1,f3.2.1,f3.2.2.1,by omega⟩
 -- limits
 refine .aB (Ξ:=λc=>c=false->mg.length<=40/\k1.length<=24) ?_ λuY HD=>?_
 ·exact Par.br (λ_=>.aq λh=>by cases h) (λh1=>Par.br (λ_=>.aq λh=>by cases h) (λaf=>.aq λh=>by omega))
 refine .aB (Ξ:=λc=>c=false->uY=false) ?_ λAH HE=>?_
 ·refine Par.loop (λz=>z.1=false->uY=false) id λz aY=>?_;refine Par.bF (λ_=>?_) (λ_=>.aq aY);exact .aB (Ξ:=λc=>c=false->uY=false) (Par.bF (λ_=>.aq λh=>by cases h) (λh=>.go λ_ _=>.aq λ_=>aY h)) λc aa=>.aq aa
 refine Par.bF (λ_=>.aq λh=>absurd h (by decide)) (λaa=>.aq λ_=>?_);obtain ⟨hW,iv⟩:=HD (HE aa);obtain ⟨i,next,ak,dU,fj,rY,k',xd,tW⟩:=MU;refine ⟨λj t ah aw=>?_,λj t ah aw=>?_,λj k s t aC aw aR BJ=>?_,λt aw=>?_,MT iv⟩
 ·obtain ⟨t0,hz,_,_,fP⟩:=fj j t aw;rcases fP with ⟨fP,_⟩ | fP
  ·rw [fP]; exact IT.aS j t0 ah hz
  ·omega
 ·have eZ:j<mg.length:=(List.getElem?_eq_some_iff.1 aw).1;obtain ⟨t0,hz,_,_,fP⟩:=fj j t aw;rcases fP with ⟨fP,mR⟩ | fP
  ·rcases mR with mR | mR
   ·omega
   ·have h1:=(IT.gE j t0 ah hz).1 mR;have af:=dL.le t0 (List.mem_of_getElem? hz);omega
  ·omega
 ·by_cases HI:57346<=s.bR
  ·exact rY j k s t aC aw HI BJ
  ·obtain ⟨e0,hz,_,_,fP⟩:=fj j s aC;obtain ⟨t0,f0,_,_,f3⟩:=fj k t aw;rcases fP with ⟨fP,_⟩ | fP
   ·rcases f3 with ⟨f3,_⟩ | f3
    ·exact IT.un j k e0 t0 hz f0 (by omega) (by omega)
    ·omega
   ·omega
 ·obtain ⟨j,ah,rfl⟩:=List.mem_iff_getElem.1 aw;obtain ⟨t0,hz,cA,cf,_⟩:=fj j _ (List.getElem?_eq_getElem ah);have:=dL.Cz t0 (List.mem_of_getElem? hz);rw [cA,cf]; exact this
def vB (a b:ca):Bool:=decide (a.At<b.At)||(decide (a.At=b.At)&&decide (a.b8<b.b8))
theorem JJ {a b:ca}:vB a b=true↔(a.At<b.At\/(a.At=b.At/\a.b8<b.b8)):=by simp [vB]
theorem JK {a b:ca}:vB a b=false↔¬ (a.At<b.At\/(a.At=b.At/\a.b8<b.b8)):=by
 rw [<- JJ]; simp
theorem O8:Ord vB where
 swo:=⟨λx=>by rw [JK]; omega,λx y z h1 af=>by rw [JJ] at *; omega,λx y z h1 af=>by rw [JK] at *; omega⟩
 ji x y h1 af:=by
  rw [JK] at h1 af;obtain ⟨a8,x2⟩:=x;obtain ⟨bx,y2⟩:=y;simp only at h1 af;have:a8=bx:=by omega
  have:x2=y2:=by omega
  subst_vars; rfl
theorem RA {α:Type} [DecidableEq α] {lt:α->α->Bool}(h:Ord lt) {l:List α}(aF:l.Nodup):fS lt (h' lt l):=by
 have h1:=E0 h.swo l;have af:(h' lt l).Nodup:=(sS lt l).nodup_iff.2 aF;refine List.Pairwise.imp (λ{a b} BA=>?_) (h1.and af);cases bY:lt a b with
 | true=>rfl
 | false=>exact absurd (h.ji _ _ bY (by simpa using BA.1)) BA.2
def wm (T:List bX) (p:ca):Prop:=∃ (k:Nat) (t:bX),T[k]?=some t/\0<t.bR/\p=⟨t.bR,(k:Int)⟩
theorem wm.val {T:List bX}{p:ca}(h:wm T p):∃ (k:Nat) (t:bX),T[k]?=some t/\p.b8=(k:Int)/\p.At=t.bR/\0<t.bR:=by
 obtain ⟨k,t,h1,af,rfl⟩:=h;exact ⟨k,t,h1,rfl,rfl,af⟩
theorem R5 (a b:Int):∃ v,ux a b=some v/\(v<0↔a<b)/\(v=0↔a=b):=by
 have e:∀ a,vV a=some false:=λa=>by simp [vV]
 unfold ux;simp only [e,Option.bind_some,cond_false];by_cases h1:a<b
 ·exact ⟨-1,by simp [h1],by omega,by omega⟩
 ·by_cases af:b<a
  ·exact ⟨1,by simp [h1,af],by omega,by omega⟩
  ·exact ⟨0,by simp [h1,af],by omega,by omega⟩
theorem RZ (g:bO) (aO:uP g) (ak:g.ba.length<=1000):Tot (Ac g) λl=>fS vB l/\l.length<=1000/\∀ p,p∈l↔wm g.ba p:=by
 unfold Ac;refine .aB (Ξ:=λl:List ca=>(l.length<=1000/\∀ p,p∈l↔wm g.ba p)/\l.Pairwise λa b=>a.b8<b.b8) ?_ λl ak=>?_
 ·refine Tot.upto (λs=>s.2) g.ba.length (λk s=>(s.1.length<=k/\∀ p,p∈s.1↔(wm g.ba p/\p.b8<(k:Int)))/\s.1.Pairwise λa b=>a.b8<b.b8) rfl (by omega) ⟨⟨Nat.le_refl 0,λp=>⟨λh=>(by cases h),λh=>by obtain ⟨k,t,_,e,_⟩:=h.1.val; omega⟩⟩,.nil⟩ λk s hk he bf=>?_;obtain ⟨l,i⟩:=s;obtain ⟨⟨h1,af⟩,cG⟩:=bf;simp only at he h1 af cG ⊢;subst he;rw [eQ k (by omega)];refine Tot.br (λaT=>?_) (λdU=>.aq ⟨⟨by omega,λp=>(af p).trans ⟨λh=>h.1,λh=>⟨h,?_⟩⟩⟩,cG⟩)
  ·have aT:k<g.ba.length:=by omega
   rw [eu aT];have ob:g.ba[k]?=some g.ba[k]:=List.getElem?_eq_getElem aT;refine .aB (Ξ:=λo:List ca=>(o.length<=k+1/\∀ p,p∈o↔(wm g.ba p/\p.b8<((k+1:Nat):Int)))/\o.Pairwise λa b=>a.b8<b.b8) ?_ λo a1=>.aq ⟨aT,rfl,a1⟩;simp only [Option.bind_some];refine .aB (Ξ:=λo:List ca=>(o.length<=k+1/\∀ p,p∈o↔(wm g.ba p/\p.b8<((k+1:Nat):Int)))/\o.Pairwise λa b=>a.b8<b.b8) ?_ λo a1=>.aq a1;refine Tot.br (λau=>.aB (Ξ:=λ_=>True) (Tot.ap (by simp [lim]; omega) trivial) λ_ _=>.aq ⟨⟨by simp; omega,λp=>?_⟩,?_⟩) (λau=>.aq ⟨⟨by omega,λp=>?_⟩,cG⟩)
   ·rw [List.mem_append,List.mem_singleton,af];constructor
    ·rintro (h | rfl)
     ·exact ⟨h.1,by omega⟩
     ·exact ⟨⟨k,_,ob,au,rfl⟩,by show (k:Int)<((k+1:Nat):Int); omega⟩
    ·rintro ⟨h,hv⟩;obtain ⟨j,t,aI,bK,rfl⟩:=h;simp only at hv;by_cases e:j=k
     ·subst e;rw [ob] at aI; cases aI;exact .inr rfl
     ·exact .inl ⟨⟨j,t,aI,bK,rfl⟩,by show (j:Int)<k; omega⟩
   ·refine List.pairwise_append.2 ⟨cG,List.pairwise_singleton ..,λa aP b av=>?_⟩;rw [List.mem_singleton.1 av];exact ((af a).1 aP).2
   ·rw [af];constructor
    ·rintro ⟨h,hv⟩;exact ⟨h,by omega⟩
    ·rintro ⟨h,hv⟩;obtain ⟨j,t,aI,bK,rfl⟩:=h;simp only at hv;refine ⟨⟨j,t,aI,bK,rfl⟩,?_⟩;show (j:Int)<k;by_cases e:j=k
     ·subst e;rw [ob] at aI; cases aI;exact absurd bK au
     ·omega
  ·obtain ⟨j,t,aI,_,rfl⟩:=h;have:=(List.getElem?_eq_some_iff.1 aI).1;show (j:Int)<k;omega
 ·obtain ⟨ak,IL⟩:=ak;have aC:pV (λa b=>CX a b) l=some (h' vB l):=by
   refine YG O8 (λa aP b av=>?_) (by omega);obtain ⟨v,hv,h1,af⟩:=R5 a.At b.At;refine ⟨v,by unfold CX; rw [hv]; rfl,h1.trans ?_⟩;rw [JJ];constructor
   ·exact .inl
   ·rintro (h | ⟨h,aQ⟩)
    ·exact h
    ·exfalso;obtain ⟨i,s,cA,cf,rfl⟩:=(ak.2 a).1 aP;obtain ⟨j,t,fP,mR,rfl⟩:=(ak.2 b).1 av;simp only at h aQ;have:=aO.un i j s t cA fP cf h;omega
  rw [aC];refine .aq ⟨RA O8 (IL.imp λ{a b} h e=>by subst e; omega),by rw [(sS vB l).length_eq]; exact ak.1,λp=>((sS vB l).mem_iff).trans (ak.2 p)⟩
theorem Qp:Al=some true:=by kernel_rfl
end Go.Proofs
