/- Parts of the proof that the last text states. -/
import Derived.Test.YtfndjemfpidfpaaGreatDoorE7
namespace Go.Proofs
open Go Go.Own
set_option maxRecDepth 100000
set_option linter.unusedVariables false
theorem aah (m:e') (x:Sym) (aL:m.cg.length=m.az.aX.length) (aF:3<=m.az.aX.length) (h:m.az.aX.length<=100000000000) (ah:m.bX.length<=100000000000) (J:lx x) (au:x.Lit=true\/∀ y∈m.bX,y≠x.Name) :
  Tot (sN m x) λr=>Grow m r.2 1/\0<=r.1/\r.1<r.2.az.aX.length:=by
 unfold sN;have nM:Grow m m 1:=⟨aL,Nat.le_refl _,Nat.le_succ _,Nat.le_succ _,rfl,rfl,rfl,rfl,λ_ h=>h⟩;refine Tot.bC (λ_=>?_) (λoS=>?_)
 ·exact .aC (t104 m x aL h J) λr ⟨ak,aI,h1⟩=>.al ⟨ak,aI,h1⟩
 ·have au:∀ y∈m.bX,y≠x.Name:=au.resolve_left (by rw [oS]; decide);refine .aC (t76 m x.Name (by simp only [kP]; omega)) λk hk=>Tot.bA (λaI=>?_) (λ_=>?_)
  ·rcases hk with ⟨rfl,_⟩ | ⟨h1,af,aF⟩
   ·exact absurd aI (by decide)
   ·exact absurd rfl (au _ (List.mem_of_getElem? aF))
  ·refine .aC (t75 m x (by simp only [kP]; omega)) λt au=>Tot.bA (λ_=>?_) (λaI=>.al ⟨nM,?_⟩)
   ·refine .aC (t74 m _ _) λbn hm=>.al ⟨hm.1.grow aL 1,Int.le_refl 0,?_⟩;show (0:Int)<(bn.az.aX.length:Int);rw [hm.1.g]; omega
   ·show 0<=t/\t<(m.az.aX.length:Int);rcases au with au | au <;> omega
structure AF (T:Nat) (N:Int) (p:Prod):Prop where
 left:0<=p.Left/\p.Left<=N
 right:∀ s∈p.ez,oE T N s
 prec:-1<=p.Prec/\p.Prec<T
 args:∀ s∈p.v7,oE T N s
 code:p.Code.size<=1000
theorem AF.mono {T T':Nat}{N j5:Int}{p:Prod}(h:AF T N p) (c0:T<=T') (bc:N<=j5):AF T' j5 p :=
 ⟨⟨h.left.1,by have:=h.left.2; omega⟩,λs av=>(h.right s av).mono c0 bc,⟨h.prec.1,by have:=h.prec.2; omega⟩,λs av=>(h.args s av).mono c0 bc,h.code⟩
structure kK (m:e') (T L I Q:Nat):Prop where
 gg:m.cg.length=m.az.aX.length
 lo:3<=m.az.aX.length
 hi:m.az.aX.length<=T
 ty:m.cx.length<=T
 eY:m.bX.length=L
 gR:0<=m.bU/\m.bU<=I
 zY:m.az.a8.length<=Q
 gN:∀ p∈m.az.a8,AF m.az.aX.length (L+m.bU) p
 lvl:0<=m.b_
 jl:∀ t∈m.az.aX,0<=t.Level
theorem kK.mono {m:e'}{T L I Q T' I' LM:Nat}(h:kK m T L I Q) (c0:T<=T') (a':I<=I') (eu:Q<=LM):kK m T' L I' LM :=
 ⟨h.gg,h.lo,by have:=h.hi; omega,by have:=h.ty; omega,h.eY,⟨h.gR.1,by have:=h.gR.2; omega⟩,by have:=h.zY; omega,h.gN,h.lvl,h.jl⟩
theorem kK.grow {m bn:e'}{T L I Q k:Nat}(h:kK m T L I Q) (g:Grow m bn k):kK bn (T+k) L I Q :=
 ⟨g.gg,by have:=h.lo; have:=g.lo; omega,by have:=h.hi; have:=g.hi; omega,by have:=h.ty; have:=g.ty; omega,by rw [g.eY]; exact h.eY,by rw [g.gR]; exact h.gR,by rw [g.gN]; exact h.zY,
  by rw [g.gN,g.gR]; exact λp aw=>(h.gN p aw).mono g.lo (by omega),by rw [g.lvl]; exact h.lvl,g.jl h.lvl h.jl⟩
theorem t77 (m:e') (left:ByteArray) (a:Alt) {T L I Q:Nat}(hm:kK m T L I Q) (c0:T<=10000000000) (ji:L<=10000000000) (a':I<=10000000000) (eu:Q<=10000000000) (ao:yf a) (dD:DD a) :
  Tot (vF m left a) λbn=>kK bn (T+1001) L (I+1000) (Q+1001)/\1<=bn.az.a8.length:=by
 unfold vF;have aA:=ao.n;refine .aC (t76 m left (by rw [hm.eY]; simp only [kP]; omega)) λaY iT=>?_;have aec:-1<=aY/\aY<L:=by rw [<- hm.eY]; rcases iT with h | h <;> omega
 refine Tot.aC (Ξ:=λa6=>kK a6.1 (T+1000) L (I+1000) (Q+1000)/\(∀ s∈a6.2.1,oE a6.1.az.aX.length (L+a6.1.bU) s)/\a6.2.1.length<=1000/\a6.2.2.1.size<=1000) ?_ λa6 kz=>?_
 ·refine Tot.count (λs=>s.2.2.2.2) a.Parts.length (λs=>0<=s.2.2.2.2/\s.2.2.2.2<=a.Parts.length/\kK s.1 (T+s.2.2.2.2.toNat) L (I+s.2.2.2.2.toNat) (Q+s.2.2.2.2.toNat)/\(∀ y∈s.2.1,oE s.1.az.aX.length (L+s.1.bU) y)/\s.2.1.length<=s.2.2.2.2.toNat/\s.2.2.1.size<=1000) ⟨by show (0:Int)<=0; omega,by show (0:Int)<=_; omega,hm,by simp,Nat.le_refl 0,Nat.zero_le _⟩ (by show (a.Parts.length:Int) - 0<_; omega) λs av=>?_;obtain ⟨m1,rt,bC,at_,i⟩:=s;obtain ⟨aI,h1,ag,ak,ah,y1⟩:=av;simp only at aI h1 ag ak ah y1 ⊢;have hw:aS (i+1)=i+1:=by rw [cP]; omega
  have bP:(i+1).toNat=i.toNat+1:=by omega
  refine Tot.bA (λaK=>?_) (λ_=>.al ⟨ag.mono (by omega) (by omega) (by omega),ak,by show rt.length<=1000; omega,y1⟩);refine Tot.aC (Ξ:=λj=>kK j.1 (T+(i.toNat+1)) L (I+(i.toNat+1)) (Q+(i.toNat+1))/\(∀ y∈j.2.1,oE j.1.az.aX.length (L+j.1.bU) y)/\j.2.1.length<=i.toNat+1/\j.2.2.1.size<=1000) ?_ λj EI=>?_
  ·refine Tot.aC (Tot.gX (Φ:=λy=>y∈a.Parts) aI aK λy _ ai=>ai) λy ai=>?_;refine Tot.aC (Ξ:=λj=>kK j.1 (T+(i.toNat+1)) L (I+(i.toNat+1)) (Q+(i.toNat+1))/\(∀ y∈j.2.1,oE j.1.az.aX.length (L+j.1.bU) y)/\j.2.1.length<=i.toNat+1/\j.2.2.1.size<=1000) ?_ λj IT=>.al IT;refine Tot.aC (Ξ:=λj=>kK j.1 (T+(i.toNat+1)) L (I+(i.toNat+1)) (Q+(i.toNat+1))/\(∀ y∈j.2.1,oE j.1.az.aX.length (L+j.1.bU) y)/\j.2.1.length<=i.toNat+1/\j.2.2.1.size<=1000) ?_ λj IT=>.al IT;refine Tot.bC (λ_=>?_) (λ_=>?_)
   ·have br:=ag.hi;refine .aC (t106 m1 y.Sym ag.gg ag.lo (by omega) (by rw [ag.eY]; omega) (dD.parts y ai)) λr ⟨aL,Oi⟩=>?_;refine .aC (Ξ:=λ_=>True) (Tot.ap (by simp [lim]; omega) trivial) λ_ _=>.al ⟨(ag.grow aL).mono (by omega) (by omega) (by omega),λz aT=>?_,by simp; omega,y1⟩;rcases List.mem_append.1 aT with aT | aT
    ·exact (ak z aT).mono aL.lo (by show (L:Int)+m1.bU<=L+r.2.bU; rw [aL.gR]; omega)
    ·rw [List.mem_singleton.1 aT];rw [ag.eY] at Oi;exact Oi.mono (Nat.le_refl _) (by show (L:Int)<=L+r.2.bU; rw [aL.gR]; have:=ag.gR.1; omega)
   ·refine Tot.aC (Ξ:=λj=>kK (⟨(⟨m1.az.aX,m1.az.bF,j.1,m1.az.ca,m1.az.cm⟩:bt),m1.cg,m1.cx,m1.bX,m1.cM,m1.c_,m1.c8,m1.b_,j.2.1⟩:de) (T+(i.toNat+1)) L (I+(i.toNat+1)) (Q+(i.toNat+1))/\(∀ y∈j.2.2.1,oE m1.az.aX.length (L+j.2.1) y)/\j.2.2.1.length<=i.toNat+1/\j.2.2.2.1.size<=1000) ?_ λj Wp=>.al Wp;refine Tot.bC (λ_=>.al ⟨⟨ag.gg,ag.lo,by have:=ag.hi; show m1.az.aX.length<=_; omega,by have:=ag.ty; show m1.cx.length<=_; omega,ag.eY,⟨ag.gR.1,by have:=ag.gR.2; show m1.bU<=_; omega⟩,by have:=ag.zY; show m1.az.a8.length<=_; omega,ag.gN,ag.lvl,ag.jl⟩,ak,by show rt.length<=_; omega,(ao.parts y ai).2⟩) (λ_=>?_);have EH:=ag.gR;have u1:=ag.eY;have ze:=ag.zY;have fj:aS (m1.bU+1)=m1.bU+1:=by rw [cP]; omega
    have e9:aS (((m1.bX.length:Int))+(m1.bU+1))=L+(m1.bU+1):=by rw [cP,u1]; omega
    have vN:aS (1000+(m1.bX.length:Int))=1000+L:=by rw [cP,u1]; omega
    have vO:aS (1000+(L:Int)+(m1.bU+1))=1000+(L:Int)+(m1.bU+1):=by rw [cP]; omega
    rw [fj,e9,vN,vO];refine .aC (Ξ:=λ_=>True) (Tot.ap (by simp [lim]; omega) trivial) λ_ _=>.aC (Ξ:=λ_=>True) (Tot.ap (by simp [lim]; omega) trivial) λ_ _=>.aC (Ξ:=λ_=>True) (Tot.ap (by simp [lim]; omega) trivial) λ_ _=>.al ⟨⟨ag.gg,ag.lo,?_,?_,ag.eY,?_,?_,?_,ag.lvl,ag.jl⟩,?_,?_,y1⟩
    ·have:=ag.hi; show m1.az.aX.length<=_; omega
    ·have:=ag.ty; show m1.cx.length<=_; omega
    ·show 0<=m1.bU+1/\m1.bU+1<=((I+(i.toNat+1):Nat):Int); omega
    ·show (m1.az.a8++[_]).length<=_; simp; omega
    ·intro p aw;rcases List.mem_append.1 aw with aw | aw
     ·exact (ag.gN p aw).mono (Nat.le_refl _) (by show (L:Int)+m1.bU<=L+(m1.bU+1); omega)
     ·rw [List.mem_singleton.1 aw];refine ⟨?_,by simp,?_,λz aT=>(ak z (by simpa using aT)).mono (Nat.le_refl _) (by show (L:Int)+m1.bU<=L+(m1.bU+1); omega),(ao.parts y ai).2⟩
      ·show 0<=(L:Int)+(m1.bU+1)/\(L:Int)+(m1.bU+1)<=L+(m1.bU+1); omega
      ·have:=ag.lo; show (-1:Int)<=-1/\(-1:Int)<(m1.az.aX.length:Int); omega
    ·intro z aT;rcases List.mem_append.1 aT with aT | aT
     ·exact (ak z aT).mono (Nat.le_refl _) (by show (L:Int)+m1.bU<=L+(m1.bU+1); omega)
     ·rw [List.mem_singleton.1 aT];exact .inr (by show 1000<=1000+(L:Int)+(m1.bU+1)/\1000+(L:Int)+(m1.bU+1)<=1000+((L:Int)+(m1.bU+1)); omega)
    ·show (rt++[_]).length<=_; simp; omega
  ·rw [hw];refine .al ⟨⟨?_,?_,?_,EI.2.1,?_,EI.2.2.2⟩,?_,?_⟩
   ·show (0:Int)<=i+1; omega
   ·show i+1<=(a.Parts.length:Int); omega
   ·show kK j.1 (T+(i+1).toNat) L (I+(i+1).toNat) (Q+(i+1).toNat);rw [bP]; exact EI.1
   ·show j.2.1.length<=(i+1).toNat;rw [bP]; exact EI.2.2.1
   ·show i<i+1; omega
   ·show i+1<=(a.Parts.length:Int); omega
 ·obtain ⟨ag,ak,ah,y1⟩:=kz;have lF:=ag.lo;have EH:=ag.gR;refine Tot.aC (Ξ:=λp=>-1<=p/\p<(a6.1.az.aX.length:Int)) ?_ λgN Ja=>?_
  ·refine Tot.count (λs=>s.2) a6.2.1.length (λs=>0<=s.2/\s.2<=a6.2.1.length/\-1<=s.1/\s.1<(a6.1.az.aX.length:Int)) ⟨by show (0:Int)<=0; omega,by show (0:Int)<=_; omega,by show (-1:Int)<=-1; omega,by show (-1:Int)<_; omega⟩ (by show (a6.2.1.length:Int) - 0<_; omega) λs av=>?_;obtain ⟨aI,h1,af,aF⟩:=av;have hw:aS (s.2+1)=s.2+1:=by rw [cP]; omega
   rw [hw];refine Tot.bA (λaK=>?_) (λ_=>.al ⟨af,aF⟩);refine Tot.aC (Ξ:=λp=>-1<=p/\p<(a6.1.az.aX.length:Int)) ?_ λp aw=>.al ⟨⟨?_,?_,aw.1,aw.2⟩,?_,?_⟩
   ·refine .aC (Tot.gX (Φ:=λy=>idx a6.2.1 s.2=some y/\y∈a6.2.1) aI aK λy h1 af=>⟨h1,af⟩) λy ai=>?_;refine .aC (Ξ:=λp=>-1<=p/\p<(a6.1.az.aX.length:Int)) ?_ λp aw=>.al aw;refine Tot.bA (λaK=>?_) (λ_=>.al ⟨af,aF⟩);rw [ai.1];refine Tot.sm (.al ?_);rcases ak y ai.2 with h | h
    ·omega
    ·omega
   ·show (0:Int)<=s.2+1; omega
   ·show s.2+1<=(a6.2.1.length:Int); omega
   ·show s.2<s.2+1; omega
   ·show s.2+1<=(a6.2.1.length:Int); omega
  ·refine Tot.aC (Ξ:=λj=>Grow a6.1 j.1 1/\-1<=j.2/\j.2<(j.1.az.aX.length:Int)) ?_ λj y6=>?_
   ·have nM:Grow a6.1 a6.1 1:=⟨ag.gg,Nat.le_refl _,Nat.le_succ _,Nat.le_succ _,rfl,rfl,rfl,rfl,λ_ h=>h⟩;refine Tot.bC (λ_=>?_) (λ_=>.al ⟨nM,Ja⟩);refine Tot.aC (Ξ:=λc=>c=true->a.Prec.Lit=true\/∀ y∈a6.1.bX,y≠a.Prec.Name) ?_ λc aa=>?_
    ·refine Tot.bC (λh=>.al λ_=>.inl h) (λ_=>?_);refine .aC (t76 a6.1 a.Prec.Name (by rw [ag.eY]; simp only [kP]; omega)) λk hk=>.al λaK=>?_;have aK:=of_decide_eq_true aK;rcases hk with ⟨_,h⟩ | h
     ·exact .inr h
     ·omega
    ·refine Tot.aC (Ξ:=λj=>Grow a6.1 j.1 1/\-1<=j.2/\j.2<(j.1.az.aX.length:Int)) ?_ λj ag=>.al ag;have br:=ag.hi;refine Tot.bC (λh=>?_) (λ_=>?_)
     ·refine .aC (aah a6.1 a.Prec ag.gg ag.lo (by omega) (by rw [ag.eY]; omega) dD.prec (aa h)) λr ak=>.al ⟨ak.1,?_,ak.2.2⟩;have:=ak.2.1; show -1<=r.1; omega
     ·refine .aC (t74 a6.1 _ _) λbn hT=>.al ⟨hT.1.grow ag.gg 1,by show (-1:Int)<=-1; omega,?_⟩;show (-1:Int)<(bn.az.aX.length:Int); omega
   ·have hT:=ag.grow y6.1;have ze:=hT.zY;refine .aC (Ξ:=λ_=>True) (Tot.ap (by simp [lim]; omega) trivial) λ_ _=>.aC (Ξ:=λ_=>True) (Tot.ap (by simp [lim]; omega) trivial) λ_ _=>.al ⟨⟨hT.gg,hT.lo,?_,?_,hT.eY,⟨hT.gR.1,?_⟩,?_,?_,hT.lvl,hT.jl⟩,by simp⟩
    ·have:=hT.hi; show j.1.az.aX.length<=_; omega
    ·have:=hT.ty; show j.1.cx.length<=_; omega
    ·have:=hT.gR.2; show j.1.bU<=_; omega
    ·show (j.1.az.a8++[_]).length<=_; simp; omega
    ·intro p aw;rcases List.mem_append.1 aw with aw | aw
     ·exact hT.gN p aw
     ·rw [List.mem_singleton.1 aw];have adT:=hT.gR;refine ⟨?_,λz aT=>?_,y6.2,λz aT=>(ak z (by simpa using aT)).mono y6.1.lo (by show (L:Int)+a6.1.bU<=L+j.1.bU; rw [y6.1.gR]; omega),y1⟩
      ·show 0<=aS (1+aY)/\aS (1+aY)<=(L:Int)+j.1.bU;rw [cP]; omega
      ·exact (ak z aT).mono y6.1.lo (by show (L:Int)+a6.1.bU<=L+j.1.bU; rw [y6.1.gR]; omega)
theorem Qo (l:List Int):(strOfNums l).size=l.length:=strOfNums_size ..
theorem t10 (n:Int) (aI:0<=n) (h1:n<=1000000000000):Tot (nS n) λs=>(s.size:Int)<=n+2:=by
 unfold nS;have hu:IntKind.u64.wrap n=n:=by rw [IntKind.wrap_u64]; omega
 refine Tot.aC (Ξ:=λj=>j=n) (Tot.bA (λh=>absurd h (by omega)) (λ_=>.al hu)) λj ag=>?_;subst ag;refine Tot.aC (Ξ:=λs=>(s.size:Int)<=j+1) ?_ λs av=>Tot.bA (λh=>absurd h (by omega)) (λ_=>.al (by omega));refine Tot.loop (λs=>0<=s.1/\s.1+s.2.size<=j+1/\(s.2.size=0->s.1<=j)) (λs=>s.1.toNat+(if s.2.size=0 then 1 else 0)) ⟨aI,by show j+((0:Nat):Int)<=_; omega,λ_=>Int.le_refl _⟩ (by show j.toNat+(if (0:Nat)=0 then 1 else 0)<1000000000000000000; simp; omega) λs av=>?_
 obtain ⟨m,t⟩:=s;obtain ⟨g0,g1,g2⟩:=av;simp only at g0 g1 g2 ⊢;refine Tot.aC (Ξ:=λc=>c=true->0<m\/t.size=0) ?_ λc aa=>Tot.bC (λlD=>?_) (λ_=>.al ?_)
 ·refine Tot.bA (λh=>.al λ_=>.inl h) (λ_=>.al λh=>.inr ?_);have:=of_decide_eq_true h;rw [this]; rfl
 ·have aa:=aa lD;refine .aC (Ξ:=λx=>x=m.tmod 10) (Tot.o7 (by decide) rfl) λx J=>?_;refine .aC (Ξ:=λy=>y.size=t.size+1) (Tot.cat ?_ ?_) λy ai=>.aC (Ξ:=λz=>z=m / 10) (Tot.o5 (by decide) ?_) λz aT=>.al ?_
  ·rw [Qo]; simp; omega
  ·rw [ByteArray.size_append,Qo]; simp; omega
  ·rw [Int.tdiv_eq_ediv_of_nonneg g0,IntKind.wrap_u64]; omega
  ·subst aT;refine ⟨⟨?_,?_,?_⟩,?_⟩
   ·show 0<=m / 10; omega
   ·show m / 10+(y.size:Int)<=_; rw [ai]; omega
   ·intro h; have h:y.size=0:=h; omega
   ·show (m / 10).toNat+(if y.size=0 then 1 else 0)<m.toNat+(if t.size=0 then 1 else 0);rw [if_neg (by omega)]
    split <;> omega
 ·show (t.size:Int)<=j+1; omega
structure fp (g:bt):Prop where
 iC:3<=g.aX.length/\g.aX.length<=40
 ev:1<=g.bF.length/\g.bF.length<=24
 k2:1<=g.a8.length/\g.a8.length<=60
 gN:∀ p∈g.a8,AF g.aX.length (g.bF.length - 1) p
 aN:∀ p∈g.a8,p.ez.length<=8
 jl:∀ t∈g.aX,0<=t.Level
structure h8 (m:e') (T L:Nat):Prop where
 gg:m.cg.length=m.az.aX.length
 lo:3<=m.az.aX.length
 hi:m.az.aX.length<=3+T
 ty:m.cx.length<=T
 eY:m.bX.length<=L
 gN:m.az.a8=[]
 gR:m.bU=0
 lvl:0<=m.b_
 jl:∀ t∈m.az.aX,0<=t.Level
theorem h8.mono {m:e'}{T L T' L':Nat}(h:h8 m T L) (c0:T<=T') (ji:L<=L'):h8 m T' L' :=
 ⟨h.gg,h.lo,by have:=h.hi; omega,by have:=h.ty; omega,by have:=h.eY; omega,h.gN,h.gR,h.lvl,h.jl⟩
theorem h8.grow {m bn:e'}{T L k:Nat}(h:h8 m T L) (g:Grow m bn k):h8 bn (T+k) L :=
 ⟨g.gg,by have:=h.lo; have:=g.lo; omega,by have:=h.hi; have:=g.hi; omega,by have:=h.ty; have:=g.ty; omega,by rw [g.eY]; exact h.eY,g.gN.trans h.gN,g.gR.trans h.gR,by rw [g.lvl]; exact h.lvl,g.jl h.lvl h.jl⟩
theorem h8.same {m bn:e'}{T L:Nat}(h:h8 m T L) (g:ra m bn):h8 bn T L:=by
 have:=h.grow (g.grow h.gg 0);exact this
theorem t16 (a n:Int) (h:0<n) (aA:n<=9223372036854775807):Tot (vz a n) λr=>0<=r/\r<n:=by
 unfold vz;have h1:-n<a.tmod n:=by
  by_cases aQ:0<=a
  ·have:=Int.tmod_nonneg n aQ; omega
  ·have af:(-a).tmod n<n:=Int.tmod_lt_of_pos _ h;rw [Int.neg_tmod] at af;omega
 have af:a.tmod n<n:=Int.tmod_lt_of_pos a h;refine .aC (Ξ:=λx=>x=a.tmod n) (Tot.rem (by omega) rfl) λx J=>?_;subst J;refine Tot.aC (Ξ:=λr=>0<=r/\r<n) (Tot.bA (λaF=>.al ?_) (λaF=>.al (by omega))) λr ak=>.al ak;rw [cP]; omega
theorem LK:j6 false ⟨#[]⟩:=⟨by decide,by decide,λh=>by cases h⟩
theorem t20 (k:Int) (h:0<=k):Tot (vA k) λx=>j6 x.Lit x.Name/\x.Lit=true/\x.bW=0:=by
 unfold vA;refine .aC (Ξ:=λx=>x=⟨#[112,113,114,115]⟩) (.al rfl) λaY h1=>.aC (Ξ:=λr=>r=k.tmod 4) (Tot.rem (by decide) rfl) λx2 af=>.aC (Ξ:=λr=>r=k.tmod 4) (Tot.rem (by decide) rfl) λa6 aF=>?_;subst af aF;have e:k.tmod 4=k % 4:=Int.tmod_eq_emod_of_nonneg h;rw [e];have hw:aS (k % 4+1)=k % 4+1:=by rw [cP]; omega
 rw [hw];subst h1;have aT:((⟨#[112,113,114,115]⟩:ByteArray).size:Int)=4:=rfl;refine .aC (Ξ:=λx=>x.size=1/\∀ b∈cV x,b∈([112,113,114,115]:List UInt8)) (Tot.cut (by rw [aT]; omega) ⟨by grind [TA],λb ao=>?_⟩) λbT bk=>.al ⟨⟨by show bT.size<=1000; omega,λb ao=>?_,λ_ b ao=>?_⟩,rfl,rfl⟩
 ·rw [A0] at ao;exact List.mem_of_mem_drop (List.mem_of_mem_take ao)
 ·have:=bk.2 b ao;revert b;exact λb _ h=>(by decide:∀ b∈([112,113,114,115]:List UInt8),wh b) b h
 ·have:=bk.2 b ao;exact (by decide:∀ b∈([112,113,114,115]:List UInt8),112<=b.toNat/\b.toNat<=115) b this
theorem t18 (k:Int) (aI:0<=k) (h1:k<=4):Tot (CF k) (j6 false):=by
 have:k=0\/k=1\/k=2\/k=3\/k=4:=by omega
 have key:∀ u:ByteArray,u.size<=1000->hP u->j6 false u:=λu h1 af=>⟨h1,af,λh=>by cases h⟩;rcases this with rfl | rfl | rfl | rfl | rfl <;> exact ⟨_,rfl,key _ (by decide +kernel) (by decide +kernel)⟩
theorem t19 (k n:Int) (h:0<n) (aA:n<=100):Tot (CG k n) λx=>j6 x.Lit x.Name:=by
 unfold CG;refine .aC (t16 k 14 (by decide) (by decide)) λaY h1=>Tot.bA (λb2=>?_) (λb2=>Tot.bC (λ_=>.al ?_) (λ_=>?_))
 ·refine .aC (Ξ:=λr=>0<=r/\r<=4) (Tot.rem (by omega) ?_) λa6 aF=>.aC (t18 a6 aF.1 aF.2) λbT bk=>.al bk;have e:=Int.tmod_eq_emod_of_nonneg (a:=aY) (b:=n) h1.1;have bP:=Int.emod_nonneg aY (b:=n) (by omega);have cu:aY % n<=aY:=by
   by_cases J:aY<n
   ·rw [Int.emod_eq_of_lt h1.1 J]; exact Int.le_refl _
   ·have:=Int.emod_lt_of_pos aY h; omega
  omega
 ·exact ⟨by decide,by decide,λh=>by cases h⟩
 ·refine .aC (t20 _ ?_) λx J=>.al J.1
  grind [cP]
structure Aw (n:Nat) (d:Decl):Prop where
 tag:d.Tag.size=0
 n:d.eJ.length<=n
 syms:∀ x∈d.eJ,j6 x.Lit x.Name
theorem t17 (l:List Int):Tot (zE l) λr=>r.length<=4/\∀ d∈r,Aw 10 d:=by
 unfold zE;refine Tot.aC (Ξ:=λr=>r.length<=4/\∀ d∈r,Aw 10 d) ?_ λr ak=>.al ak;refine Tot.count (λs=>s.2) 4 (λs=>0<=s.2/\s.2<=4/\s.1.length<=s.2.toNat/\∀ d∈s.1,Aw (1+s.2.toNat) d) ⟨Int.le_refl 0,by decide,Nat.le_refl 0,λd aP=>absurd aP (by simp)⟩ (by decide) λs av=>?_;obtain ⟨r,i⟩:=s;obtain ⟨aI,bk,ah,aP⟩:=av;simp only at aI bk ah aP ⊢;have hw:aS (i+1)=i+1:=by rw [cP]; omega
 rw [hw];refine .aC (Ξ:=λc=>c=true->i<l.length/\i<4) (Tot.bA (λh=>.al λaf=>⟨h,of_decide_eq_true af⟩) (λ_=>.al λh=>by cases h)) λc aa=>Tot.bC (λlD=>?_) (λ_=>.al ⟨by omega,λd ju=>⟨(aP d ju).tag,by have:=(aP d ju).n; omega,(aP d ju).syms⟩⟩);obtain ⟨hi,adR⟩:=aa lD;refine Tot.aC (Ξ:=λj=>j.length<=i.toNat+1/\∀ d∈j,Aw (1+(i.toNat+1)) d) ?_ λj ag=>.al ⟨⟨?_,?_,?_,?_⟩,?_,?_⟩
 ·refine .aC (Tot.gX (Φ:=λ_=>True) aI hi λ_ _ _=>trivial) λcq _=>.aC (t16 cq 8 (by decide) (by decide)) λcz oP=>.aC (Ξ:=λ_=>True) (Tot.rem (by decide) trivial) λbY _=>?_;have pM:∀ d∈r,Aw (1+(i.toNat+1)) d:=λd ju=>⟨(aP d ju).tag,by have:=(aP d ju).n; omega,(aP d ju).syms⟩;refine Tot.bC (λ_=>.al ⟨by omega,pM⟩) (λ_=>?_);refine .aC (Ξ:=λc=>c=true->0<(r.length:Int)) (Tot.bC (λ_=>.al λh=>of_decide_eq_true h) (λ_=>.al λh=>by cases h)) λc aa=>Tot.bC (λtD=>?_) (λ_=>?_)
  ·have oU:=aa tD;have Jm:aS ((r.length:Int) - 1)=(r.length:Int) - 1:=by rw [cP]; omega
   rw [Jm];refine .aC (Tot.gX (Φ:=λy=>y∈r) (by omega) (by omega) λ_ _ h=>h) λd ju=>.aC (t20 i aI) λx J=>.aC (Ξ:=λ_=>True) (Tot.ap (by have:=(aP d ju).n; simp [lim]; omega) trivial) λ_ _=>.al ⟨by simp; omega,λMM y3=>?_⟩;rcases O' y3 with h | rfl
   ·grind
   ·refine ⟨(aP d ju).tag,?_,λy ai=>?_⟩
    ·have:=(aP d ju).n
     grind
    ·rcases List.mem_append.1 ai with ai | ai
     ·exact (aP d ju).syms y ai
     grind
  ·refine .aC (Ξ:=λ_=>True) (Tot.rem (by decide) trivial) λeg _=>.aC (t20 i aI) λx J=>.aC (Ξ:=λ_=>True) (Tot.ap (by simp [lim]; omega) trivial) λ_ _=>.al ⟨by simp; omega,λMM y3=>?_⟩;rcases List.mem_append.1 y3 with h | h
   ·grind
   ·rw [List.mem_singleton.1 h];refine ⟨rfl,by show 1<=_; omega,λy ai=>?_⟩
    grind
 all_goals grind
structure lV (n:Nat) (r:fP):Prop where
 left:j6 false r.Left
 n:r.fm.length<=n
 alts:∀ a∈r.fm,yf a
theorem lV.mono {n m:Nat}{r:fP}(h:lV n r) (hm:n<=m):lV m r:=⟨h.left,Nat.le_trans h.n hm,h.alts⟩
theorem lV.add {n:Nat}{r:fP}{a:Alt}(h:lV n r) (aQ:yf a):lV (n+1) (⟨r.Left,r.fm++[a],r.At⟩:fP):=by
 refine ⟨h.left,by have:=h.n; show (r.fm++[a]).length<=_; simp; omega,λb ao=>?_⟩;rcases List.mem_append.1 ao with ao | ao
 ·exact h.alts b ao
 grind
theorem L1 {l:List fP}{i n:Nat}{r:fP}(h:∀ x∈l,lV n x) (ak:lV n r):∀ x∈l.set i r,lV n x:=by grind
theorem t6 (x:qi):Tot (zO x) s7:=by
 unfold zO;refine .aC (t16 x.bF 4 (by decide) (by decide)) λaY h1=>.aC (t17 x.qq) λx2 af=>?_;have rH:aS (1+aY)=1+aY:=by rw [cP]; omega
 rw [rH];refine .aC (Ξ:=λl=>l=List.replicate (1+aY).toNat false) (Tot.mk (by simp [lim]; omega) rfl) λa6 aF=>?_;have adi:a6.length=(1+aY).toNat:=by rw [aF]; simp
 refine Tot.aC (Ξ:=λl=>(l.length:Int)=1+aY/\∀ r∈l,lV 0 r) ?_ λcv b2=>?_
 ·refine Tot.count (λs=>s.2) (1+aY) (λs=>0<=s.2/\s.2<=1+aY/\(s.1.length:Int)=s.2/\∀ r∈s.1,lV 0 r) ⟨Int.le_refl 0,by show 0<=1+aY; omega,rfl,λd aP=>absurd aP (by simp)⟩ (by show 1+aY - 0<_; omega) λs av=>?_;obtain ⟨l,i⟩:=s;obtain ⟨g0,g1,ah,cX⟩:=av;simp only at g0 g1 ah cX ⊢;have hw:aS (i+1)=i+1:=by rw [cP]; omega
  rw [hw];refine Tot.bA (λaK=>?_) (λ_=>.al ⟨by omega,cX⟩);refine .aC (t18 i g0 (by omega)) λcq pH=>.aC (Ξ:=λ_=>True) (Tot.ap (by simp [lim]; omega) trivial) λ_ _=>.al ⟨⟨?_,?_,?_,λr ak=>?_⟩,?_,?_⟩
  ·grind
  ·grind
  ·grind
  ·rcases List.mem_append.1 ak with ak | ak
   ·grind
   ·rw [List.mem_singleton.1 ak];exact ⟨pH,Nat.le_refl 0,λa aQ=>absurd aQ (by simp)⟩
  ·grind
  grind
 refine Tot.aC (Ξ:=λr=>(r.1.length:Int)=1+aY/\(r.2.length:Int)=1+aY/\∀ y∈r.1,lV 9 y) ?_ λdF wJ=>?_
 ·refine Tot.count (λs=>s.2.2) 9 (λs=>0<=s.2.2/\s.2.2<=9/\(s.1.length:Int)=1+aY/\(s.2.1.length:Int)=1+aY/\∀ y∈s.1,lV s.2.2.toNat y) ⟨Int.le_refl 0,by show (0:Int)<=9; decide,b2.1,by show (a6.length:Int)=_; omega,b2.2⟩ (by show (9:Int) - 0<_; decide) λs av=>?_;obtain ⟨l,ao,i⟩:=s;obtain ⟨g0,g1,ah,IP,cX⟩:=av;simp only at g0 g1 ah IP cX ⊢;have hw:aS (i+1)=i+1:=by rw [cP]; omega
  rw [hw];refine .aC (Ξ:=λc=>c=true->i<x.ef.length/\i<9) (Tot.bA (λh=>.al λaf=>⟨h,of_decide_eq_true af⟩) (λ_=>.al λh=>by cases h)) λc aa=>Tot.bC (λlD=>?_) (λ_=>.al ⟨ah,IP,λy ai=>(cX y ai).mono (by omega)⟩);obtain ⟨hi,adS⟩:=aa lD;have oT:i.toNat<x.ef.length:=by omega
  have Wn:idx x.ef i=some x.ef[i.toNat]:=by simp [idx,g0,oT]
  rw [Wn];generalize x.ef[i.toNat]=d;have NC:∀ y∈l,lV (i.toNat+1) y:=λy ai=>(cX y ai).mono (by omega);refine Tot.aC (Ξ:=λj=>(j.1.length:Int)=1+aY/\(j.2.length:Int)=1+aY/\∀ y∈j.1,lV (i.toNat+1) y) ?_ λj ag=>.al ⟨⟨?_,?_,ag.1,ag.2.1,?_⟩,?_,?_⟩
  ·refine Tot.sm (Tot.bA (λ_=>.al ⟨ah,IP,NC⟩) (λcN=>Tot.sm ?_));refine .aC (Tot.gX (Φ:=λ_=>True) (by decide) (by omega) λ_ _ _=>trivial) λhl _=>.aC (t16 hl (1+aY) (by omega) (by omega)) λgp Nl=>?_;have nC:∀ c:ByteArray,c.size<=1000->(j6 false ⟨#[]⟩/\c.size<=1000):=λc aa=>⟨⟨by decide,by decide,λh=>by cases h⟩,aa⟩;refine Tot.aC (Ξ:=λr=>r.1.length<=10/\∀ p∈r.1,j6 p.Sym.Lit p.Sym.Name/\p.Code.size<=1000) ?_ λeT Ut=>?_
   ·refine Tot.count (λs=>s.2.2) 5 (λs=>1<=s.2.2/\s.2.2<=5/\(s.1.length:Int)<=2 * (s.2.2 - 1)/\∀ p∈s.1,j6 p.Sym.Lit p.Sym.Name/\p.Code.size<=1000) ⟨Int.le_refl 1,by decide,by decide,λp aw=>absurd aw (by simp)⟩ (by decide) λs av=>?_;obtain ⟨ps,pl,k⟩:=s;obtain ⟨k0,mA,Ya,J2⟩:=av;simp only at k0 mA Ya J2 ⊢;have tM:aS (k+1)=k+1:=by rw [cP]; omega
    rw [tM];refine .aC (Ξ:=λc=>c=true->k<d.length/\k<5) (Tot.sm (Tot.bA (λh=>.al λaf=>⟨h,of_decide_eq_true af⟩) (λ_=>.al λh=>by cases h))) λc aa=>Tot.bC (λlD=>?_) (λ_=>.al ⟨by show ps.length<=10; omega,J2⟩);obtain ⟨hk,adV⟩:=aa lD;refine Tot.aC (Ξ:=λj=>(j.1.length:Int)<=2 * k/\∀ p∈j.1,j6 p.Sym.Lit p.Sym.Name/\p.Code.size<=1000) ?_ λj ag=>.al ⟨⟨?_,?_,?_,ag.2⟩,?_,?_⟩
    ·refine Tot.sm (.aC (Tot.gX (Φ:=λ_=>True) (by omega) hk λ_ _ _=>trivial) λqf _=>.aC (t19 qf (1+aY) (by omega) (by omega)) λe1 HW=>?_);refine .aC (Ξ:=λ_=>True) (Tot.bC (λ_=>Tot.bC (λ_=>.al trivial) (λ_=>.al trivial)) (λ_=>.al trivial)) λ_ _=>.aC (Ξ:=λ_=>True) (Tot.ap (by simp [lim]; omega) trivial) λ_ _=>?_;have ba:∀ p∈ps++[(⟨e1,⟨#[]⟩,0⟩:Part)],j6 p.Sym.Lit p.Sym.Name/\p.Code.size<=1000:=λp aw=>by
      rcases List.mem_append.1 aw with h | h
      ·exact J2 p h
      ·rw [List.mem_singleton.1 h]; exact ⟨HW,Nat.zero_le _⟩
     refine .aC (Ξ:=λ_=>True) ?_ λabo _=>?_
     ·refine Tot.bA (λh=>Tot.bC (λ_=>.aC (Tot.gX (Φ:=λ_=>True) g0 h λ_ _ _=>trivial) λ_ _=>.aC (Ξ:=λ_=>True) (Tot.rem (by decide) trivial) λ_ _=>.al trivial) (λ_=>.al trivial)) (λ_=>.al trivial)
     ·refine Tot.aC (Ξ:=λl=>(l.length:Int)<=2 * k/\∀ p∈l,j6 p.Sym.Lit p.Sym.Name/\p.Code.size<=1000) ?_ λj ag=>.al ag;refine Tot.bC (λ_=>?_) (λ_=>.al ⟨by simp; omega,ba⟩);refine .aC (Ξ:=λ_=>True) (Tot.ap (by simp [lim]; omega) trivial) λ_ _=>.al ⟨by simp; omega,λp aw=>?_⟩;rcases List.mem_append.1 aw with aw | aw
      ·grind
      ·rw [List.mem_singleton.1 aw];exact nC _ (by decide)
    all_goals grind
   ·refine .aC (Ξ:=λ_=>True) (Tot.bA (λh=>.aC (Tot.gX (Φ:=λ_=>True) g0 h λ_ _ _=>trivial) λ_ _=>.aC (Ξ:=λ_=>True) (Tot.rem (by decide) trivial) λ_ _=>.al trivial) (λ_=>.al trivial)) λabn _=>?_;refine Tot.aC (Ξ:=λl=>l.length<=20/\∀ p∈l,j6 p.Sym.Lit p.Sym.Name/\p.Code.size<=1000) ?_ λoo Ux=>?_
    ·refine Tot.bC (λ_=>?_) (λ_=>.al ⟨by omega,Ut.2⟩);refine .aC (Ξ:=λ_=>True) (Tot.ap (by simp [lim]; omega) trivial) λ_ _=>.al ⟨by simp; omega,λp aw=>?_⟩;rcases List.mem_append.1 aw with aw | aw
     ·grind
     ·rw [List.mem_singleton.1 aw];exact nC _ (by decide)
    ·refine Tot.aC (Ξ:=λl=>(l.length:Int)=1+aY) ?_ λMx Uz=>?_
     ·refine .aC (Tot.gX (Φ:=λ_=>True) Nl.1 (by omega) λ_ _ _=>trivial) λ_ _=>Tot.bC (λ_=>.al (by simp; omega)) (λ_=>.al (by simp; omega))
     ·refine .aC (Tot.gX (Φ:=λy=>y∈l) Nl.1 (by omega) λ_ _ h=>h) λlQ UA=>?_;have qL:=cX lQ UA;refine .aC (Ξ:=λ_=>True) (Tot.ap (by have:=qL.n; simp [lim]; omega) trivial) λ_ _=>.al ⟨by show ((l.set _ _).length:Int)=_; simp; omega,Uz,L1 NC (qL.add ⟨by show oo.length<=_; omega,Ux.2,LK⟩)⟩
  all_goals grind
 refine Tot.aC (Ξ:=λl=>(l.length:Int)=1+aY/\∀ y∈l,lV 20 y) ?_ λvS UC=>.al ⟨Nat.zero_le _,?_,λd aP=>?_,?_,λr ak=>?_⟩
 ·refine Tot.count (λs=>s.2) (1+aY) (λs=>0<=s.2/\s.2<=1+aY/\(s.1.length:Int)=1+aY/\∀ y∈s.1,lV (9+s.2.toNat) y) ⟨Int.le_refl 0,by show 0<=1+aY; omega,wJ.1,wJ.2.2⟩ (by show 1+aY - 0<_; omega) λs av=>?_;obtain ⟨l,i⟩:=s;obtain ⟨g0,g1,ah,cX⟩:=av;simp only at g0 g1 ah cX ⊢;have hw:aS (i+1)=i+1:=by rw [cP]; omega
  rw [hw];refine Tot.bA (λaK=>?_) (λ_=>.al ⟨ah,λy ai=>(cX y ai).mono (by omega)⟩);refine Tot.aC (Ξ:=λl=>(l.length:Int)=1+aY/\∀ y∈l,lV (9+i.toNat+1) y) ?_ λj ag=>.al ⟨⟨?_,?_,ag.1,?_⟩,?_,?_⟩
  ·refine .aC (Ξ:=λ_=>True) ?_ λabp _=>?_
   ·refine .aC (Tot.gX (Φ:=λ_=>True) g0 (by omega) λ_ _ _=>trivial) λvU _=>Tot.bC (λ_=>.al trivial) (λ_=>.aC (Tot.gX (Φ:=λ_=>True) g0 (by omega) λ_ _ _=>trivial) λ_ _=>Tot.bC (λ_=>.al trivial) (λ_=>.al trivial))
   ·refine Tot.aC (Ξ:=λl=>(l.length:Int)=1+aY/\∀ y∈l,lV (9+i.toNat+1) y) ?_ λj ag=>.al ag;refine Tot.bC (λ_=>?_) (λ_=>.al ⟨ah,λy ai=>(cX y ai).mono (by omega)⟩);refine .aC (Tot.gX (Φ:=λy=>y∈l) g0 (by omega) λ_ _ h=>h) λjn Er=>.aC (t20 i g0) λjH UH=>?_;have J:=cX jn Er;refine .aC (Ξ:=λ_=>True) (Tot.ap (by have:=J.n; simp [lim]; omega) trivial) λ_ _=>.al ⟨by simp; omega,L1 (λy ai=>(cX y ai).mono (by omega)) (J.add ⟨by show 1<=_; omega,λp aw=>?_,LK⟩)⟩;have aw:p∈[(⟨jH,⟨#[]⟩,0⟩:Part)]:=aw;rw [List.mem_singleton.1 aw];exact ⟨UH.1,Nat.zero_le _⟩
  all_goals grind
 ·grind
 ·have:=af.2 d aP;exact ⟨by rw [this.tag]; exact Nat.zero_le _,by have:=this.n; omega,this.syms⟩
 ·grind
 ·have:=UC.2 r ak;exact ⟨this.left,by have:=this.n; omega,this.alts⟩
end Go.Proofs
namespace Go.Own
open Go Go.Sort
set_option linter.unusedSectionVars false
variable [cw]
variable {α:Type} [DecidableEq α]
structure Ord (lt:α->α->Bool):Prop where
 swo:SWO lt
 iX:∀ x y,lt x y=false->lt y x=false->x=y
def fo (lt:α->α->Bool) (l:List α):Prop:=l.Pairwise λa b=>lt a b=true
omit [DecidableEq α] in
theorem fo.nd {lt:α->α->Bool}(h:Ord lt) {l:List α}(ah:fo lt l):l.Nodup:=ah.imp λ{a b} wK e=>by
 subst e;rw [h.swo.irrefl] at wK; cases wK
omit [DecidableEq α] in
theorem fo.uniq {lt:α->α->Bool}(h:Ord lt) {l m:List α}(ah:fo lt l) (hm:fo lt m) (he:∀ x,x∈l↔x∈m):l=m :=
 List.Perm.eq_of_pairwise (le:=λa b=>lt a b=true) (λa b _ _ h1 af=>by have:=h.swo.trans _ _ _ h1 af; rw [h.swo.irrefl] at this; cases this) ah hm ((List.perm_ext_iff_of_nodup (ah.nd h) (hm.nd h)).2 he)
omit [DecidableEq α] in
theorem vr {l m:List α}(aP:l.Nodup) (hm:∀ x∈l,x∈m):l.length<=m.length:=by
 classical
 induction l generalizing m with
 | nil=>exact Nat.zero_le _
 | cons x l aJ =>
  have J:=hm x (by simp);have pM:=List.nodup_cons.1 aP;have:=aJ (m:=m.erase x) pM.2 λy ai=>(List.mem_erase_of_ne (λe=>pM.1 (by rw [<- e]; exact ai))).2 (hm y (by simp [ai]));have ah:=List.length_erase_of_mem J;have aw:=List.length_pos_of_mem J;simp only [List.length_cons];omega
theorem ZZ {lt:α->α->Bool}(h:Ord lt) {hh:α->α->Option Int}{l:List α}(aa:∀ a∈l,∀ b∈l,∃ v,hh a b=some v/\(v<0↔lt a b=true)) (aA:l.length<4611686018427387904):vL hh l=some (jX (nP hh) l)/\∀ a∈l,∀ b∈l,nP hh a b=lt a b:=by
 have aK:∀ a∈l,∀ b∈l,nP hh a b=lt a b:=by
  intro a aQ b ao;obtain ⟨v,hv,h⟩:=aa a aQ b ao;unfold nP;simp only [hv,Option.getD_some];cases hk:lt a b with
  | true=>exact decide_eq_true (h.2 hk)
  | false=>exact decide_eq_false λbr=>by rw [h.1 br] at hk; cases hk
 refine ⟨?_,aK⟩;unfold vL;rw [if_pos];simp only [Bool.and_eq_true,decide_eq_true_eq,List.all_eq_true];refine ⟨⟨λa aQ b ao=>?_,?_⟩,aA⟩
 ·obtain ⟨v,hv,_⟩:=aa a aQ b ao;rw [hv]; rfl
 ·unfold Cy;simp only [List.all_eq_true,Bool.and_eq_true,Bool.or_eq_true,Bool.not_eq_true',decide_eq_true_eq];intro a aQ;refine ⟨by rw [aK a aQ a aQ]; exact h.swo.irrefl a,λb ao=>⟨?_,λc aa=>⟨?_,?_⟩⟩⟩
  ·rw [aK a aQ b ao,aK b ao a aQ];cases h1:lt a b with
   | true=>exact .inl (.inl rfl)
   | false =>
    cases af:lt b a with
    | true=>exact .inl (.inr rfl)
    | false=>exact .inr (h.iX _ _ h1 af)
  ·rw [aK a aQ b ao,aK b ao c aa,aK a aQ c aa];cases h1:lt a b with
   | false=>exact .inl rfl
   | true =>
    cases af:lt b c with
    | false=>exact .inl rfl
    | true=>exact .inr (h.swo.trans _ _ _ h1 af)
  ·rw [aK a aQ b ao,aK b ao c aa,aK a aQ c aa];cases h1:lt a b with
   | true=>exact .inl (.inl rfl)
   | false =>
    cases af:lt b c with
    | true=>exact .inl (.inr rfl)
    | false=>exact .inr (h.swo.ntrans _ _ _ h1 af)
omit [DecidableEq α] in
theorem OH {lt lt':α->α->Bool}(x:α):∀ l:List α,(∀ y∈l,lt y x=lt' y x)->ins lt x l=ins lt' x l
 | [],_=>rfl
 | y::l,h=>by
  simp only [ins,h y (by simp)];rw [OH x l λz aT=>h z (by simp [aT])]
omit [DecidableEq α] in
theorem ON {lt lt':α->α->Bool}:∀ l:List α,(∀ a∈l,∀ b∈l,lt a b=lt' a b)->jX lt l=jX lt' l
 | [],_=>rfl
 | x::l,h=>by
  simp only [jX];rw [ON l λa aQ b ao=>h a (by simp [aQ]) b (by simp [ao])];exact OH x _ λy ai=>h y (by simp [(zn lt' l).mem_iff.1 ai]) x (by simp)
theorem ZY {lt:α->α->Bool}(h:Ord lt) {hh:α->α->Option Int}{l:List α}(aa:∀ a∈l,∀ b∈l,∃ v,hh a b=some v/\(v<0↔lt a b=true)) (aA:l.length<4611686018427387904):vL hh l=some (jX lt l):=by
 obtain ⟨h1,af⟩:=ZZ h aa aA;rw [h1,ON l af]
theorem MN {lt:α->α->Bool}(h:Ord lt):∀ (l:List α) (p:Option α),l.Pairwise (λa b=>(!lt b a)=true)->(∀ a,p=some a->∀ x∈l,lt x a=false)->fo lt (oK p l)/\∀ x,x∈oK p l↔(x∈l/\p≠some x)
 | [],p,_,_=>⟨List.Pairwise.nil,λx=>by simp [oK]⟩
 | a::l,p,av,aw=>by
  obtain ⟨h1,af⟩:=List.pairwise_cons.1 av;have aJ:=MN h l (some a) af λb ao x J=>by
   cases ao;simpa using h1 x J
  unfold oK;by_cases e:p=some a
  ·rw [if_pos e];refine ⟨aJ.1,λx=>?_⟩;rw [aJ.2 x,e];constructor
   ·exact λJ=>⟨by simp [J.1],J.2⟩
   ·rintro ⟨J,aA⟩;refine ⟨?_,aA⟩;rcases List.mem_cons.1 J with rfl | J
    ·exact absurd rfl aA
    ·exact J
  ·rw [if_neg e];refine ⟨List.pairwise_cons.2 ⟨λx J=>?_,aJ.1⟩,λx=>?_⟩
   ·obtain ⟨iT,gC⟩:=(aJ.2 x).1 J;cases Vz:lt a x with
    | true=>rfl
    | false =>
     have:=h.iX a x Vz (by simpa using h1 x iT);exact absurd (by rw [this]) gC
   ·rw [List.mem_cons,aJ.2 x,List.mem_cons];constructor
    ·rintro (rfl | ⟨J,aA⟩)
     ·exact ⟨.inl rfl,e⟩
     ·refine ⟨.inr J,λbr=>?_⟩;have aF:lt a x=false:=aw x br a (by simp);have bk:lt x a=false:=by simpa using h1 x J
      exact aA (by rw [h.iX a x aF bk])
    ·rintro ⟨J,aA⟩;by_cases JB:x=a
     ·exact .inl JB
     ·exact .inr ⟨J.resolve_left JB,λbr=>JB (Option.some.inj br).symm⟩
theorem TG {lt:α->α->Bool}(h:Ord lt) (l:List α):fo lt (dedup (jX lt l))/\∀ x,x∈dedup (jX lt l)↔x∈l:=by
 obtain ⟨h1,af⟩:=MN h (jX lt l) none (JM h.swo l) λa aQ=>by cases aQ
 refine ⟨h1,λx=>?_⟩;unfold dedup;rw [af x,(zn lt l).mem_iff];simp
end Go.Own
namespace Go.Proofs
open Go Go.Own Go.Sort
set_option maxRecDepth 100000
set_option linter.unusedVariables false
def fS (a b:Item):Bool:=decide (a.Prod<b.Prod\/(a.Prod=b.Prod/\a.cU<b.cU))
theorem Fk {a b:Item}:fS a b=true↔(a.Prod<b.Prod\/(a.Prod=b.Prod/\a.cU<b.cU)):=by simp [fS]
theorem Ck {a b:Item}:fS a b=false↔¬ (a.Prod<b.Prod\/(a.Prod=b.Prod/\a.cU<b.cU)):=by simp [fS]
theorem rU:Ord fS where
 swo:=⟨λx=>by rw [Ck]; omega,λx y z h1 af=>by rw [Fk] at *; omega,λx y z h1 af=>by rw [Ck] at *; omega⟩
 iX x y h1 af:=by
  rw [Ck] at h1 af;obtain ⟨aY,x2⟩:=x;obtain ⟨bV,y2⟩:=y;simp only at h1 af;have:aY=bV:=by omega
  have:x2=y2:=by omega
  subst_vars; rfl
def gu (g:bt) (x:Item):Prop:=∃ q,idx g.a8 x.Prod=some q/\0<=x.cU/\x.cU<=q.ez.length
def eN (g:bt) (x:Item):Int:=match idx g.a8 x.Prod with
 | some q=>(idx q.ez x.cU).getD (-1)
 | none=>-1
theorem mx {α:Type}{l:List α}{i:Int}{y:α}(h:idx l i=some y):0<=i/\i<l.length/\y∈l:=by
 unfold idx at h
 split at h
 ·rename_i aI;obtain ⟨h1,af⟩:=List.getElem?_eq_some_iff.1 h;exact ⟨aI,by omega,List.mem_of_getElem? h⟩
 ·cases h
theorem vh {α:Type}{l:List α}{i:Int}(h:i<0\/(l.length:Int)<=i):idx l i=none:=by
 unfold idx;split
 ·exact List.getElem?_eq_none (by omega)
 ·rfl
theorem lh {α:Type}{l:List α}{i:Int}(aI:0<=i) (h1:i<l.length):∃ y,idx l i=some y/\y∈l:=by
 have aK:i.toNat<l.length:=by omega
 exact ⟨l[i.toNat],by simp [idx,aI,aK],List.getElem_mem aK⟩
theorem dT {α:Type}{l:List α}{k:Nat}(h:k<l.length):idx l (k:Int)=some l[k]:=by simp [idx,h]
theorem MT (g:bt) (x:Item):∃ c,zT g x=some c/\(c=true↔gu g x):=by
 unfold zT;by_cases aI:0<=x.Prod
 ·by_cases h1:x.Prod<g.a8.length
  ·obtain ⟨q,ba,_⟩:=lh aI h1;by_cases af:0<=x.cU
   ·refine ⟨decide (x.cU<=(q.ez.length:Int)),by simp [aI,h1,af,ba],?_⟩;rw [decide_eq_true_eq];exact ⟨λh=>⟨q,ba,af,h⟩,λ⟨ga,w5,_,h⟩=>by rw [ba] at w5; cases w5; exact h⟩
   ·exact ⟨false,by simp [aI,h1,af],λh=>(by cases h),λ⟨_,_,h,_⟩=>absurd h af⟩
  ·exact ⟨false,by simp [aI,h1],λh=>(by cases h),λ⟨_,h,_⟩=>absurd (mx h).2.1 h1⟩
 ·exact ⟨false,by simp [aI],λh=>(by cases h),λ⟨_,h,_⟩=>absurd (mx h).1 aI⟩
theorem HB (g:bt) (x:Item):xM g x=some (eN g x):=by
 unfold xM eN;obtain ⟨c,aa,hi⟩:=MT g x;rw [aa];simp only [Option.bind_some];cases c with
 | false =>
  have aA:¬ gu g x:=λh=>by have:=hi.2 h; cases this
  simp only [Bool.not_false,cond_true,Option.bind_some];cases ba:idx g.a8 x.Prod with
  | none=>rfl
  | some q =>
   have:idx q.ez x.cU=none:=vh (by
    by_cases aI:0<=x.cU
    ·right;by_cases h1:x.cU<=q.ez.length
     ·exact absurd ⟨q,ba,aI,h1⟩ aA
     ·omega
    ·left; omega)
   simp [this]
 | true =>
  obtain ⟨q,ba,aI,h1⟩:=hi.1 rfl;simp only [Bool.not_true,cond_false,ba,Option.bind_some];by_cases he:x.cU=q.ez.length
  ·rw [vh (.inr (by omega))];simp [he]
  ·obtain ⟨s,av,_⟩:=lh (l:=q.ez) (i:=x.cU) aI (by omega);simp [he,av]
theorem Fz {g:bt}(aL:fp g) {x:Item}(h:0<=eN g x):gu g x/\oE g.aX.length (g.bF.length - 1) (eN g x)/\∃ q,idx g.a8 x.Prod=some q/\idx q.ez x.cU=some (eN g x):=by
 cases ba:idx g.a8 x.Prod with
 | none =>
  have:eN g x=-1:=by unfold eN; rw [ba]
  rw [this] at h; exact absurd h (by decide)
 | some q =>
  cases av:idx q.ez x.cU with
  | none =>
   have:eN g x=-1:=by unfold eN; rw [ba]; simp [av]
   rw [this] at h; exact absurd h (by decide)
  | some s =>
   have e:eN g x=s:=by unfold eN; rw [ba]; simp [av]
   rw [e];obtain ⟨aI,h1,hm⟩:=mx av;exact ⟨⟨q,ba,aI,by omega⟩,(aL.gN q (mx ba).2.2).right s hm,q,rfl,av⟩
inductive j3 (g:bt) (l:List Item):Item->Prop
 | base {x:Item}(h:x∈l) (hi:gu g x):j3 g l x
 | step {x:Item}{q:Prod}{p:Nat}(h:j3 g l x) (aw:g.a8[p]?=some q) (aA:eN g x=1000+q.Left) (aI:1000<=eN g x):j3 g l ⟨p,0⟩
theorem OM {g:bt}{p:Nat}{q:Prod}(aw:g.a8[p]?=some q):gu g ⟨p,0⟩:=⟨q,by simp [idx,aw],Int.le_refl _,by show (0:Int)<=_; omega⟩
theorem j3.gu {g:bt}{l:List Item}{x:Item}(h:j3 g l x):gu g x:=by
 cases h with
 | base _ hi=>exact hi
 | step _ aw _ _=>exact OM aw
theorem Pp {g:bt}(aL:fp g) (x:Item):-1<=eN g x/\eN g x<=1023:=by
 by_cases h:0<=eN g x
 ·obtain ⟨_,av,_⟩:=Fz aL h;have:=aL.ev;have:=aL.iC;rcases av with av | av <;> omega
 ·refine ⟨?_,by omega⟩;revert h;unfold eN;cases ba:idx g.a8 x.Prod with
  | none=>intro _; exact Int.le_refl _
  | some q =>
   cases av:idx q.ez x.cU with
   | none=>intro _; simp [av]
   | some s =>
    intro h;have hm:=(aL.gN q (mx ba).2.2).right s (mx av).2.2;simp only [av,Option.getD_some] at h ⊢;rcases hm with hm | hm <;> omega
def gG (m:List Bool):Nat:=(m.filter λb=>b).length
theorem uI:∀ (m:List Bool) (i:Nat),i<m.length->m.getD i false=false->gG (m.set i true)=gG m+1
 | [],i,h,_=>by simp at h
 | b::m,0,_,h=>by
  have:b=false:=by simpa using h
  subst this;simp [gG]
 | b::m,i+1,h,aI=>by
  have:=uI m i (by simpa using h) (by simpa using aI);unfold gG at this ⊢;simp only [List.set_cons_succ,List.filter_cons];cases b <;> simp [this]
theorem Ht (m:List Bool):gG m<=m.length:=List.length_filter_le _ _
theorem nU {α:Type}{r:List α}{k:Nat}(h:k<r.length):r.take (k+1)=r.take k++[r[k]]:=by
 simp_all
theorem ya (k:Nat) (h:k<=1000000000000):aS ((k:Int)+1)=((k+1:Nat):Int):=by
 grind [cP]
def allI (g:bt):List Item:=(List.range g.a8.length).flatMap λp=>(List.range 9).map λd=>(⟨(p:Nat),(d:Nat)⟩:Item)
theorem RR (g:bt):(allI g).length=g.a8.length * 9:=by
 have:∀ l:List Nat,(l.map λ_=>9).sum=l.length * 9:=λl=>by
  induction l with
  | nil=>rfl
  | cons a l aJ=>simp only [List.map_cons,List.sum_cons,aJ,List.length_cons]; omega
 simp [allI,List.length_flatMap,this]
theorem Yh {g:bt}(aL:fp g) {x:Item}(h:gu g x):x∈allI g:=by
 obtain ⟨q,ba,aI,h1⟩:=h;obtain ⟨af,aF,bk⟩:=mx ba;have:=aL.aN q bk;refine List.mem_flatMap.2 ⟨x.Prod.toNat,by simp; omega,List.mem_map.2 ⟨x.cU.toNat,by simp; omega,?_⟩⟩;obtain ⟨a,b⟩:=x;simp only at aI af ⊢;congr 1 <;> omega
theorem r' {g:bt}(aL:fp g) {l:List Item}(ah:fo fS l) (hi:∀ x∈l,gu g x):l.length<=540:=by
 have:=vr (ah.nd rU) λx J=>Yh aL (hi x J);rw [RR] at this;have:=aL.k2;omega
theorem R5 {l:List Item}(ah:fo fS l) {i j:Nat}(hi:i<l.length) (ag:j<l.length) (h:i<j):fS l[i] l[j]=true:=List.pairwise_iff_getElem.1 ah i j hi ag h
theorem Hk (l:List Item) (x:Item) (ah:fo fS l) (aA:l.length<=100000):Tot (xQ l x) λr=>fo fS r/\(∀ y,y∈r↔y∈l\/y=x):=by
 unfold xQ;refine .aC (Ξ:=λz:Int=>∃ k:Nat,z=(k:Int)/\k<=l.length/\(∀ (i:Nat) (h:i<l.length),k<=i->fS x l[i]=true)/\∀ (h:0<k),fS x (l[k - 1]?.getD default)=false) ?_ λz aT=>?_
 ·refine Tot.count (λs=>-s) 1 (λs=>∃ k:Nat,s=(k:Int)/\k<=l.length/\∀ (i:Nat) (h:i<l.length),k<=i->fS x l[i]=true) ⟨l.length,rfl,Nat.le_refl _,λi h hk=>by omega⟩ (by show 1 - -(l.length:Int)<_; omega) λs av=>?_;obtain ⟨k,rfl,hk,w9⟩:=av;refine .aC (Ξ:=λc:Bool=>(c=true->0<k/\fS x (l[k - 1]?.getD default)=true)/\(c=false->∀ (h:0<k),fS x (l[k - 1]?.getD default)=false)) ?_ λc aa=>Tot.bC (λh=>?_) (λh=>.al ⟨k,rfl,hk,w9,aa.2 h⟩)
  ·refine Tot.bA (λh=>?_) (λh=>.al ⟨λaR=>(by cases aR),λ_ aR=>by omega⟩);have eX:k - 1<l.length:=by omega
   have hw:aS ((k:Int) - 1)=((k - 1:Nat):Int):=by rw [cP]; omega
   rw [hw,dT eX,List.getElem?_eq_getElem eX];simp only [Option.bind_some,Option.getD_some];generalize l[k - 1]=y;refine Tot.bA (λh1=>.al ⟨λ_=>⟨by omega,Fk.2 (.inl h1)⟩,λaR=>(by cases aR)⟩) (λh1=>Tot.bA (λaf=>.al ⟨λaF=>⟨by omega,Fk.2 (.inr ⟨af.symm,of_decide_eq_true aF⟩)⟩,λaF _=>?_⟩) (λaf=>.al ⟨λaR=>(by cases aR),λ_ _=>?_⟩))
   ·have:=of_decide_eq_false aF;rw [Ck]; omega
   ·rw [Ck]; omega
  ·obtain ⟨aI,h1⟩:=aa.1 h;refine .al ⟨⟨k - 1,by rw [cP]; omega,by omega,λi hi y8=>?_⟩,by show -(k:Int) < -aS _; rw [cP]; omega,by show -aS _<=1; rw [cP]; omega⟩;by_cases e:i=k - 1
   ·subst e;rw [List.getElem?_eq_getElem hi] at h1;exact h1
   ·exact w9 i hi (by omega)
 ·obtain ⟨k,rfl,hk,w9,lF⟩:=aT;refine .aC (Ξ:=λc:Bool=>(c=true↔(0<k/\l[k - 1]?.getD default=x))) ?_ λc aa=>Tot.bC (λh=>?_) (λh=>?_)
  ·refine Tot.bA (λh=>?_) (λh=>.al ⟨λaR=>(by cases aR),λaR=>by omega⟩);have eX:k - 1<l.length:=by omega
   have hw:aS ((k:Int) - 1)=((k - 1:Nat):Int):=by rw [cP]; omega
   rw [hw,dT eX,List.getElem?_eq_getElem eX];simp only [Option.bind_some,Option.getD_some];generalize l[k - 1]=y;refine .al ?_;obtain ⟨bV,y2⟩:=y;obtain ⟨aY,x2⟩:=x;simp only [Bool.and_true,Bool.and_eq_true,decide_eq_true_eq,Item.mk.injEq];exact ⟨λaR=>⟨by omega,aR⟩,λaR=>aR.2⟩
  ·obtain ⟨aI,h1⟩:=aa.1 h;have eX:k - 1<l.length:=by omega
   rw [List.getElem?_eq_getElem eX] at h1;have J:x∈l:=by rw [<- h1]; exact List.getElem_mem eX
   exact .al ⟨ah,λy=>⟨.inl,λh=>h.elim id λe=>e ▸ J⟩⟩
  ·have cN:∀ (i:Nat) (hi:i<l.length),i<k->fS l[i] x=true:=by
    intro i hi rz;have eX:k - 1<l.length:=by omega
    have lF:=lF (by omega);have aA:l[k - 1]?.getD default≠x:=λe=>by rw [aa.2 ⟨by omega,e⟩] at h; cases h
    rw [List.getElem?_eq_getElem eX] at lF aA;simp only [Option.getD_some] at lF aA;have fK:fS l[k - 1] x=true:=by
     cases br:fS l[k - 1] x with
     | true=>rfl
     | false=>exact absurd (rU.iX _ _ br lF) aA
    by_cases e:i=k - 1
    ·subst e; exact fK
    ·exact rU.swo.trans _ _ _ (R5 ah hi eX (by omega)) fK
   refine .aC (Ξ:=λz=>z=l.take k) (Tot.sub ⟨by omega,by omega,by omega⟩ (by simp)) λz aT=>?_;subst aT;refine .aC (Ξ:=λ_=>True) (Tot.ap (by simp [lim]; omega) trivial) λ_ _=>.aC (Ξ:=λ_=>True) (Tot.ap (by simp [lim]; omega) trivial) λ_ _=>?_;refine .aC (Ξ:=λz=>z=l.drop k) (Tot.sub ⟨by omega,by omega,by omega⟩ ?_) λz aT=>?_
   ·rw [List.take_of_length_le]
    ·congr 1
    ·rw [List.length_drop]; omega
   subst aT;refine .aC (Ξ:=λ_=>True) (Tot.ap (by simp [lim]; omega) trivial) λ_ _=>.al ?_;rw [List.nil_append];constructor
   ·have h1:∀ a∈l.take k,fS a x=true:=by
     intro a aQ;obtain ⟨i,hi,rfl⟩:=List.mem_iff_getElem.1 aQ;rw [List.length_take] at hi;rw [List.getElem_take];exact cN i (by omega) (by omega)
    have af:∀ a∈l.drop k,fS x a=true:=by
     intro a aQ;obtain ⟨i,hi,rfl⟩:=List.mem_iff_getElem.1 aQ;rw [List.length_drop] at hi;rw [List.getElem_drop];exact w9 (k+i) (by omega) (by omega)
    unfold fo;rw [List.append_assoc,List.pairwise_append];refine ⟨List.Pairwise.sublist (List.take_sublist k l) ah,?_,λa aQ b ao=>?_⟩
    ·rw [List.singleton_append,List.pairwise_cons];exact ⟨af,List.Pairwise.sublist (List.drop_sublist k l) ah⟩
    ·rcases List.mem_append.1 ao with ao | ao
     ·rw [List.mem_singleton.1 ao]; exact h1 a aQ
     ·exact rU.swo.trans _ _ _ (h1 a aQ) (af b ao)
   ·intro y;rw [List.append_assoc,List.mem_append,List.mem_append,List.mem_singleton];have hm:y∈l↔y∈l.take k\/y∈l.drop k:=by
     rw [<- List.mem_append,List.take_append_drop]
    rw [hm];constructor
    ·rintro (h | h | h)
     ·exact .inl (.inl h)
     ·exact .inr h
     ·exact .inl (.inr h)
    ·rintro ((h | h) | h)
     ·exact .inl h
     ·exact .inr (.inr h)
     ·exact .inr (.inl h)
theorem AU (g:bt) (aL:fp g) (l:List Item) (ah:l.length<=1000000):Tot (CX g l) λr=>fo fS r/\∀ x,x∈r↔x∈l/\gu g x:=by
 unfold CX;refine .aC (Ξ:=λr=>fo fS r/\∀ x,x∈r↔x∈l/\gu g x) ?_ λr ak=>.al ak;refine Tot.count (λs=>s.2) l.length (λs=>∃ k:Nat,k<=l.length/\s.2=(k:Int)/\fo fS s.1/\∀ x,x∈s.1↔x∈l.take k/\gu g x) ⟨0,Nat.zero_le _,rfl,List.Pairwise.nil,λx=>by simp⟩ (by show (l.length:Int) - 0<_; omega) λs av=>?_;obtain ⟨out,ke⟩:=s;obtain ⟨k,hk,rfl,aQ,hm⟩:=av;simp only at aQ hm ⊢;rw [ya k (by omega)];refine Tot.bA (λaK=>?_) (λdx=>.al ?_)
 ·have aK:k<l.length:=by omega
  rw [dT aK];refine .aC (Ξ:=λo:List Item=>fo fS o/\∀ x,x∈o↔x∈l.take (k+1)/\gu g x) ?_ λo aM=>.al ⟨⟨k+1,by omega,rfl,aM⟩,by show (k:Int)<((k+1:Nat):Int); omega,by show ((k+1:Nat):Int)<=_; omega⟩;obtain ⟨c,aa,hi⟩:=MT g l[k];rw [nU aK];refine Tot.sm ?_;rw [aa];refine Tot.sm (.aC (Ξ:=λo:List Item=>fo fS o/\∀ x,x∈o↔x∈l.take k++[l[k]]/\gu g x) (Tot.bC (λh=>?_) (λh=>.al ⟨aQ,λx=>?_⟩)) λo aM=>.al aM)
  ·have I8:=r' aL aQ λx J=>((hm x).1 J).2;refine Tot.sm (.aC (Hk out _ aQ (by omega)) λo aM=>.al ⟨aM.1,λx=>?_⟩);rw [aM.2 x,List.mem_append,List.mem_singleton,hm x];constructor
   ·rintro (⟨h1,af⟩ | rfl)
    ·exact ⟨.inl h1,af⟩
    ·exact ⟨.inr rfl,hi.1 h⟩
   ·rintro ⟨h1 | rfl,af⟩
    ·exact .inl ⟨h1,af⟩
    ·exact .inr rfl
  ·rw [List.mem_append,List.mem_singleton,hm x];constructor
   ·rintro ⟨h1,af⟩;exact ⟨.inl h1,af⟩
   ·rintro ⟨h1 | rfl,af⟩
    ·exact ⟨h1,af⟩
    ·rw [hi.2 af] at h; cases h
 ·have:k=l.length:=by omega
  subst this;rw [List.take_length] at hm;exact ⟨aQ,hm⟩
def v' (g:bt) (out:List Item) (x:Item):Prop:=1000<=eN g x->∀ (p:Nat) (q:Prod),g.a8[p]?=some q->q.Left=eN g x - 1000->(⟨p,0⟩:Item)∈out
theorem D8 (g:bt) (aL:fp g) (l:List Item) (ah:l.length<=1000000):Tot (vD g l) λr=>fo fS r/\∀ x,x∈r↔j3 g l x:=by
 have ze:=aL.k2;unfold vD;refine .aC (AU g aL l ah) λaY h1=>.aC (Ξ:=λr=>fo fS r/\∀ x,x∈r↔j3 g l x) ?_ λr ak=>.al ak;obtain ⟨nI,BH⟩:=h1;refine Tot.loop (λs=>fo fS s.1/\(∀ x∈s.1,j3 g l x)/\(∀ x∈l,gu g x->x∈s.1)/\(s.2=(s.1.length:Int)->∀ x∈s.1,v' g s.1 x)) (λs=>2 * (1000 - s.1.length)+(if s.2=(s.1.length:Int) then 0 else 1)) ⟨nI,λx J=>.base ((BH x).1 J).1 ((BH x).1 J).2,λx J hi=>(BH x).2 ⟨J,hi⟩,λh=>by have h:(-1:Int)=_:=h; omega⟩ (by
  show 2 * (1000 - aY.length)+(if (-1:Int)=_ then 0 else 1)<1000000000000000000
  split <;> omega) λs av=>?_
 obtain ⟨out,n⟩:=s;obtain ⟨aQ,gi,qE,hZ⟩:=av;simp only at aQ gi qE hZ ⊢;have I8:=r' aL aQ λx J=>(gi x J).gu;refine Tot.oJ (λcN=>?_) (λhe=>.al ⟨aQ,λx=>⟨gi x,λJ=>?_⟩⟩)
 ·refine .aC (Ξ:=λj:List Item × Int=>j.2=(out.length:Int)/\fo fS j.1/\(∀ x∈j.1,j3 g l x)/\(∀ x∈out,x∈j.1)/\(j.1.length=out.length->∀ x∈j.1,v' g j.1 x)) ?_ λj ag=>?_
  ·refine .aC (Ξ:=λr:List Item=>fo fS r/\(∀ x∈r,j3 g l x)/\(∀ x∈out,x∈r)/\(r.length=out.length->∀ x∈r,v' g r x)) ?_ λr ak=>.al ⟨rfl,ak⟩;refine .aC (Ξ:=λr:List Item=>fo fS r/\(∀ x∈r,j3 g l x)/\(∀ x∈out,x∈r)/\(r.length=out.length->∀ x∈r,v' g r x)) ?_ λr ak=>.al ak;refine Tot.count (λs=>s.2) out.length (λs=>∃ k:Nat,k<=out.length/\s.2=(k:Int)/\s.1=out/\∀ (j:Nat) (h:j<out.length),j<k->v' g out out[j]) ⟨0,Nat.zero_le _,rfl,rfl,λj _ ag=>absurd ag (Nat.not_lt_zero _)⟩ (by show (out.length:Int) - 0<_; omega) λs av=>?_;obtain ⟨cur,ke⟩:=s;obtain ⟨k,hk,rfl,rfl,y4⟩:=av;simp only;rw [ya k (by omega)];refine Tot.bA (λaK=>?_) (λdx=>.al ⟨aQ,gi,λ_ h=>h,λ_ x J=>?_⟩)
   ·have aK:k<cur.length:=by omega
    rw [dT aK];have sG:=gi _ (List.getElem_mem aK);have JC:∀ P:Item->Prop,P cur[k]->∀ (j:Nat) (h:j<cur.length),j=k->P cur[j]:=λP cX j h e=>by subst e; exact cX
    generalize J:cur[k]=x at *;have WH:=Pp aL x;have hw:aS (eN g x - 1000)=eN g x - 1000:=by rw [cP]; omega
    simp only [Option.bind_some,HB g x,hw];refine (.aC (Ξ:=λr:List Item=>fo fS r/\(∀ x∈r,j3 g l x)/\(∀ x∈cur,x∈r)/\v' g r x) ?_ λr ak=>?_)
    ·refine Tot.count (λs=>s.2) g.a8.length (λs=>∃ i:Nat,i<=g.a8.length/\s.2=(i:Int)/\fo fS s.1/\(∀ x∈s.1,j3 g l x)/\(∀ x∈cur,x∈s.1)/\∀ (p:Nat) (q:Prod),p<i->g.a8[p]?=some q->q.Left=eN g x - 1000->(⟨p,0⟩:Item)∈s.1) ⟨0,Nat.zero_le _,rfl,aQ,gi,λ_ h=>h,λp q aw=>absurd aw (Nat.not_lt_zero _)⟩ (by show (g.a8.length:Int) - 0<_; omega) λs av=>?_;obtain ⟨o,xl⟩:=s;obtain ⟨i,hi,rfl,rC,BO,ES,zd⟩:=av;simp only at rC BO ES zd ⊢;rw [ya i (by omega)];refine .aC (Ξ:=λc:Bool=>(c=true->i<g.a8.length/\1000<=eN g x)/\(c=false->g.a8.length<=i\/eN g x<1000)) (Tot.bA (λh=>.al ⟨λaR=>⟨by omega,of_decide_eq_true aR⟩,λaR=>.inr (by have:=of_decide_eq_false aR; omega)⟩) (λh=>.al ⟨λaR=>(by cases aR),λ_=>.inl (by omega)⟩)) λc aa=>Tot.bC (λh=>?_) (λh=>.al ⟨rC,BO,ES,λaI p q aw=>?_⟩)
     ·obtain ⟨wW,aI⟩:=aa.1 h;have BP:g.a8[i]?=some g.a8[i]:=List.getElem?_eq_getElem wW;rw [dT wW];refine .aC (Ξ:=λo:List Item=>fo fS o/\(∀ x∈o,j3 g l x)/\(∀ x∈cur,x∈o)/\∀ (p:Nat) (q:Prod),p<i+1->g.a8[p]?=some q->q.Left=eN g x - 1000->(⟨p,0⟩:Item)∈o) ?_ λo aM=>.al ⟨⟨i+1,by omega,rfl,aM⟩,by show (i:Int)<((i+1:Nat):Int); omega,by show ((i+1:Nat):Int)<=_; omega⟩;refine Tot.sm (.aC (Ξ:=λo:List Item=>fo fS o/\(∀ x∈o,j3 g l x)/\(∀ x∈cur,x∈o)/\∀ (p:Nat) (q:Prod),p<i+1->g.a8[p]?=some q->q.Left=eN g x - 1000->(⟨p,0⟩:Item)∈o) (Tot.bA (λh=>?_) (λh=>.al ⟨rC,BO,ES,λp q aw oa ba=>?_⟩)) λo aM=>.al aM)
      ·have Wx:=r' aL rC λx J=>(BO x J).gu;refine .aC (Hk o ⟨(i:Nat),0⟩ rC (by omega)) λr ak=>.al ⟨ak.1,λy ai=>?_,λy ai=>(ak.2 y).2 (.inl (ES y ai)),λp q aw oa ba=>?_⟩
       ·rcases (ak.2 y).1 ai with ai | rfl
        ·exact BO y ai
        ·exact .step sG BP (by omega) aI
       ·by_cases bP:p=i
        ·subst bP; exact (ak.2 _).2 (.inr rfl)
        ·exact (ak.2 _).2 (.inl (zd p q (by omega) oa ba))
      ·by_cases bP:p=i
       ·subst bP;rw [BP] at oa; cases oa;exact absurd ba h
       ·exact zd p q (by omega) oa ba
     ·rcases aa.2 h with h1 | h1
      ·exact zd p q (by have:=(List.getElem?_eq_some_iff.1 aw).1; omega) aw
      ·omega
    ·obtain ⟨Ob,WU,mw,WW⟩:=ak;have hle:cur.length<=r.length:=vr (aQ.nd rU) mw;refine Tot.oJ (λI6=>.al ⟨Ob,WU,mw,λe=>absurd (by omega) I6⟩) (λheq=>?_);have u4:r.length=cur.length:=by omega
     have WX:r=cur:=by
      have pR:∀ y,y∈cur↔y∈r:=by
       intro y;refine ⟨mw y,λai=>Classical.byContradiction λaA=>?_⟩;have:=vr (l:=y::cur) (m:=r) (List.nodup_cons.2 ⟨aA,aQ.nd rU⟩) λz aT=>by
        rcases List.mem_cons.1 aT with rfl | aT
        ·exact ai
        ·exact mw z aT
       simp at this;omega
      exact (fo.uniq rU aQ Ob pR).symm
     subst WX;refine .al ⟨⟨k+1,by omega,rfl,rfl,λj ag fV=>?_⟩,by show (k:Int)<((k+1:Nat):Int); omega,by show ((k+1:Nat):Int)<=_; omega⟩;by_cases bP:j=k
     ·exact JC (v' g r) WW j ag bP
     ·exact y4 j ag (by omega)
   ·obtain ⟨j,ag,rfl⟩:=List.mem_iff_getElem.1 J;exact y4 j ag (by omega)
  ·obtain ⟨h1,af,aF,bk,b2⟩:=ag;have hle:out.length<=j.1.length:=vr (aQ.nd rU) bk;have eV:=r' aL af λx J=>(aF x J).gu;refine .al ⟨⟨af,aF,λx J hi=>bk x (qE x J hi),λe=>b2 (by show j.1.length=_; have e:j.2=(j.1.length:Int):=e; omega)⟩,?_⟩;show 2 * (1000 - j.1.length)+(if j.2=(j.1.length:Int) then 0 else 1)<2 * (1000 - out.length)+(if n=(out.length:Int) then 0 else 1)
   rw [if_neg cN];split
   ·omega
   ·have:j.1.length≠out.length:=λe=>by omega
    omega
 ·have aa:=hZ he
  induction J with
  | base h hi=>exact qE _ h hi
  | @step x q p h aw aA aI aJ=>exact aa x aJ aI p q aw (by omega)
def DO (g:bt) (l:List Item) (a:Int) (y:Item):Prop:=∃ x,j3 g l x/\eN g x=a/\0<=a/\y=⟨x.Prod,x.cU+1⟩
theorem OL {g:bt}(aL:fp g) {x:Item}(h:0<=eN g x):gu g ⟨x.Prod,x.cU+1⟩:=by
 obtain ⟨_,_,q,ba,av⟩:=Fz aL h;obtain ⟨aI,h1,_⟩:=mx av;exact ⟨q,ba,by show 0<=x.cU+1; omega,by show x.cU+1<=_; omega⟩
theorem X4 {g:bt}(aL:fp g) {x:Item}(h:gu g x):0<=x.cU/\x.cU<=8:=by
 obtain ⟨q,ba,aI,h1⟩:=h;have:=aL.aN q (mx ba).2.2;omega
theorem DO.gu {g:bt}(aL:fp g) {l:List Item}{a:Int}{y:Item}(h:DO g l a y):gu g y:=by
 obtain ⟨x,_,h1,af,rfl⟩:=h;exact OL aL (by omega)
theorem SC (g:bt) (aL:fp g) (l:List Item) (a:Int) (ah:l.length<=1000000):Tot (CP g l a) λr=>fo fS r/\∀ y,y∈r↔DO g l a y:=by
 unfold CP;refine .aC (D8 g aL l ah) λc aa=>.aC (Ξ:=λr=>fo fS r/\∀ y,y∈r↔DO g l a y) ?_ λr ak=>.al ak;have hZ:=r' aL aa.1 λx J=>((aa.2 x).1 J).gu;refine Tot.count (λs=>s.2) c.length (λs=>∃ k:Nat,k<=c.length/\s.2=(k:Int)/\fo fS s.1/\∀ y,y∈s.1↔∃ x∈c.take k,eN g x=a/\0<=a/\y=⟨x.Prod,x.cU+1⟩) ⟨0,Nat.zero_le _,rfl,List.Pairwise.nil,λy=>by simp⟩ (by show (c.length:Int) - 0<_; omega) λs av=>?_;obtain ⟨o,ke⟩:=s;obtain ⟨k,hk,rfl,rC,w2⟩:=av;simp only at rC w2 ⊢;rw [ya k (by omega)];refine Tot.bA (λaK=>?_) (λdx=>.al ⟨rC,λy=>?_⟩)
 ·have aK:k<c.length:=by omega
  have XH:=((aa.2 _).1 (List.getElem_mem aK)).gu;have hJ:c.take (k+1)=c.take k++[c[k]]:=nU aK;rw [dT aK];generalize c[k]=x at *;have aP:=X4 aL XH;have hw:aS (x.cU+1)=x.cU+1:=by rw [cP]; omega
  refine .aC (Ξ:=λo:List Item=>fo fS o/\∀ y,y∈o↔∃ x∈c.take (k+1),eN g x=a/\0<=a/\y=⟨x.Prod,x.cU+1⟩) ?_ λo aM=>.al ⟨⟨k+1,by omega,rfl,aM⟩,by show (k:Int)<((k+1:Nat):Int); omega,by show ((k+1:Nat):Int)<=_; omega⟩;have pR:∀ y,(∃ z∈c.take (k+1),eN g z=a/\0<=a/\y=(⟨z.Prod,z.cU+1⟩:Item))↔(y∈o\/(eN g x=a/\0<=a/\y=⟨x.Prod,x.cU+1⟩)):=by
   intro y;rw [w2 y,hJ];constructor
   ·rintro ⟨z,aT,h⟩;rcases List.mem_append.1 aT with aT | aT
    ·exact .inl ⟨z,aT,h⟩
    ·rw [List.mem_singleton.1 aT] at h; exact .inr h
   ·rintro (⟨z,aT,h⟩ | h)
    ·exact ⟨z,by simp [aT],h⟩
    ·exact ⟨x,by simp,h⟩
  simp only [Option.bind_some,HB g x,hw];refine (.aC (Ξ:=λb:Bool=>b=decide (0<=eN g x/\eN g x=a)) (Tot.bA (λh=>.al (by simp [h])) (λh=>.al (by simp [h]))) λb ao=>?_);subst ao;refine .aC (Ξ:=λo:List Item=>fo fS o/\∀ y,y∈o↔∃ x∈c.take (k+1),eN g x=a/\0<=a/\y=⟨x.Prod,x.cU+1⟩) (Tot.bA (λh=>?_) (λh=>.al ⟨rC,λy=>?_⟩)) λo aM=>.al aM
  ·have I8:=r' aL rC λy ai=>by
    obtain ⟨z,_,h1,af,rfl⟩:=(w2 y).1 ai;exact OL aL (by omega)
   refine (.aC (Hk o _ rC (by omega)) λr ak=>.al ⟨ak.1,λy=>?_⟩);rw [ak.2 y,pR y];constructor
   ·rintro (h1 | h1)
    ·exact .inl h1
    ·exact .inr ⟨h.2,by omega,h1⟩
   ·rintro (h1 | h1)
    ·exact .inl h1
    ·exact .inr h1.2.2
  ·rw [pR y];exact ⟨.inl,λaR=>aR.elim id λaR=>absurd ⟨by omega,aR.1⟩ h⟩
 ·have:k=c.length:=by omega
  subst this;rw [List.take_length] at w2;rw [w2 y];constructor
  ·rintro ⟨x,J,h⟩;exact ⟨x,(aa.2 x).1 J,h⟩
  ·rintro ⟨x,J,h⟩;exact ⟨x,(aa.2 x).2 J,h⟩
def ib (a b:Int):Bool:=decide (a<b)
theorem O_ {a b:Int}:ib a b=true↔a<b:=by simp [ib]
theorem Kf {a b:Int}:ib a b=false↔¬ a<b:=by simp [ib]
theorem FC:Ord ib where
 swo:=⟨λx=>by rw [Kf]; omega,λx y z h1 af=>by rw [O_] at *; omega,λx y z h1 af=>by rw [Kf] at *; omega⟩
 iX:=λx y h1 af=>by rw [Kf] at *; omega
theorem R4 {l:List Int}(ah:fo ib l) {i j:Nat}(hi:i<l.length) (ag:j<l.length) (h:i<j):ib l[i] l[j]=true:=List.pairwise_iff_getElem.1 ah i j hi ag h
theorem Hg (l:List Int) (x:Int) (ah:fo ib l) (aA:l.length<=100000):Tot (qT l x) λr=>fo ib r/\r.length<=l.length+1/\(∀ y,y∈r↔y∈l\/y=x):=by
 unfold qT;refine .aC (Ξ:=λz:Int=>∃ k:Nat,z=(k:Int)/\k<=l.length/\(∀ (i:Nat) (h:i<l.length),k<=i->ib x l[i]=true)/\∀ (h:0<k),ib x (l[k - 1]?.getD default)=false) ?_ λz aT=>?_
 ·refine Tot.count (λs=>-s) 1 (λs=>∃ k:Nat,s=(k:Int)/\k<=l.length/\∀ (i:Nat) (h:i<l.length),k<=i->ib x l[i]=true) ⟨l.length,rfl,Nat.le_refl _,λi h hk=>by omega⟩ (by show 1 - -(l.length:Int)<_; omega) λs av=>?_;obtain ⟨k,rfl,hk,w9⟩:=av;refine .aC (Ξ:=λc:Bool=>(c=true->0<k/\ib x (l[k - 1]?.getD default)=true)/\(c=false->∀ (h:0<k),ib x (l[k - 1]?.getD default)=false)) ?_ λc aa=>Tot.bC (λh=>?_) (λh=>.al ⟨k,rfl,hk,w9,aa.2 h⟩)
  ·refine Tot.bA (λh=>?_) (λh=>.al ⟨λaR=>(by cases aR),λ_ aR=>by omega⟩);have eX:k - 1<l.length:=by omega
   have hw:aS ((k:Int) - 1)=((k - 1:Nat):Int):=by rw [cP]; omega
   rw [hw,dT eX,List.getElem?_eq_getElem eX];simp only [Option.bind_some,Option.getD_some];exact .al ⟨λaR=>⟨by omega,aR⟩,λaR _=>aR⟩
  ·obtain ⟨aI,h1⟩:=aa.1 h;refine .al ⟨⟨k - 1,by rw [cP]; omega,by omega,λi hi y8=>?_⟩,by show -(k:Int) < -aS _; rw [cP]; omega,by show -aS _<=1; rw [cP]; omega⟩
   grind
 ·obtain ⟨k,rfl,hk,w9,lF⟩:=aT;refine .aC (Ξ:=λc:Bool=>(c=true↔(0<k/\l[k - 1]?.getD default=x))) ?_ λc aa=>Tot.bC (λh=>?_) (λh=>?_)
  ·refine Tot.bA (λh=>?_) (λh=>.al ⟨λaR=>(by cases aR),λaR=>by omega⟩);have eX:k - 1<l.length:=by omega
   have hw:aS ((k:Int) - 1)=((k - 1:Nat):Int):=by rw [cP]; omega
   rw [hw,dT eX,List.getElem?_eq_getElem eX];simp only [Option.bind_some,Option.getD_some];generalize l[k - 1]=y;refine .al ?_
   grind
  ·obtain ⟨aI,h1⟩:=aa.1 h;have eX:k - 1<l.length:=by omega
   rw [List.getElem?_eq_getElem eX] at h1;have J:x∈l:=by rw [<- h1]; exact List.getElem_mem eX
   exact .al ⟨ah,by omega,λy=>⟨.inl,λh=>h.elim id λe=>e ▸ J⟩⟩
  ·have cN:∀ (i:Nat) (hi:i<l.length),i<k->ib l[i] x=true:=by
    intro i hi rz;have eX:k - 1<l.length:=by omega
    have lF:=lF (by omega);have aA:l[k - 1]?.getD default≠x:=λe=>by rw [aa.2 ⟨by omega,e⟩] at h; cases h
    rw [List.getElem?_eq_getElem eX] at lF aA;simp only [Option.getD_some] at lF aA;have fK:ib l[k - 1] x=true:=by
     grind [ib]
    by_cases e:i=k - 1
    ·grind
    ·exact FC.swo.trans _ _ _ (R4 ah hi eX (by omega)) fK
   refine .aC (Ξ:=λz=>z=l.take k) (Tot.sub ⟨by omega,by omega,by omega⟩ (by simp)) λz aT=>?_;subst aT;refine .aC (Ξ:=λ_=>True) (Tot.ap (by simp [lim]; omega) trivial) λ_ _=>.aC (Ξ:=λ_=>True) (Tot.ap (by simp [lim]; omega) trivial) λ_ _=>?_;refine .aC (Ξ:=λz=>z=l.drop k) (Tot.sub ⟨by omega,by omega,by omega⟩ ?_) λz aT=>?_
   ·grind [List.take_of_length_le]
   subst aT;refine .aC (Ξ:=λ_=>True) (Tot.ap (by simp [lim]; omega) trivial) λ_ _=>.al ?_;rw [List.nil_append];refine ⟨?_,?_,?_⟩
   ·have h1:∀ a∈l.take k,ib a x=true:=by
     grind [List.mem_iff_getElem]
    have af:∀ a∈l.drop k,ib x a=true:=by
     grind [List.mem_iff_getElem]
    unfold fo;rw [List.append_assoc,List.pairwise_append];refine ⟨List.Pairwise.sublist (List.take_sublist k l) ah,?_,λa aQ b ao=>?_⟩
    ·rw [List.singleton_append,List.pairwise_cons];exact ⟨af,List.Pairwise.sublist (List.drop_sublist k l) ah⟩
    ·rcases List.mem_append.1 ao with ao | ao
     ·grind
     ·exact FC.swo.trans _ _ _ (h1 a aQ) (af b ao)
   ·grind
   grind [List.take_append_drop]
theorem rY {α:Type}{l:List α}{k:Nat}{x:α}(hk:k<l.length) (i:Nat):(l.set k x)[i]?=if i=k then some x else l[i]?:=by
 rw [List.getElem?_set];by_cases e:k=i
 ·subst e; simp [hk]
 ·simp [e,Ne.symm e]
theorem TZ (x y:Item):(decide (x.Prod=y.Prod)&&(decide (x.cU=y.cU)&&true))=decide (x=y):=by
 obtain ⟨aY,x2⟩:=x;obtain ⟨bV,y2⟩:=y;simp
theorem SI (a b:List Item) (h:a.length<=1000000):Tot (CY a b) λc=>(c=true↔a=b):=by
 unfold CY;refine Tot.oJ (λcN=>.al ⟨λh=>(by cases h),λe=>absurd (by rw [e]) cN⟩) (λhe=>?_);have ah:a.length=b.length:=by omega
 refine Tot.aC (Ξ:=iI (λ_=>a=b) (λx:Bool=>x=false/\a≠b)) ?_ λx J=>?_
 ·refine Tot.count (λs=>s) a.length (λs=>∃ k:Nat,k<=a.length/\s=(k:Int)/\∀ (j:Nat) (h:j<a.length),j<k->a[j]=b[j]) ⟨0,Nat.zero_le _,rfl,λj _ ag=>absurd ag (Nat.not_lt_zero _)⟩ (by show (a.length:Int) - 0<_; omega) λs av=>?_;obtain ⟨k,hk,rfl,kS⟩:=av;rw [ek k (by omega)];refine Tot.bA (λaK=>?_) (λdx=>.al ?_)
  ·have aK:k<a.length:=by omega
   have zb:k<b.length:=by omega
   rw [dT aK,dT zb];simp only [Option.bind_some,TZ];refine Tot.oJ (λcN=>.al ⟨rfl,λe=>cN (by subst e; rfl)⟩) (λheq=>.al ⟨⟨k+1,by omega,rfl,λj ag fV=>?_⟩,by show (k:Int)<((k+1:Nat):Int); omega,by show ((k+1:Nat):Int)<=_; omega⟩);by_cases e:j=k
   ·subst e; exact heq
   ·exact kS j ag (by omega)
  ·exact List.ext_getElem ah λi h1 af=>kS i h1 (by omega)
 ·rcases x with _ | x
  ·exact .al ⟨λ_=>J,λ_=>rfl⟩
  ·obtain ⟨rfl,cN⟩:x=false/\a≠b:=J;exact .al ⟨λh=>(by cases h),λh=>absurd h cN⟩
def syms (g:bt):List Int:=(List.range g.aX.length).map (λk:Nat=>(k:Int))++(List.range g.bF.length).map (λk:Nat=>1000+(k:Int))
theorem Mx (g:bt) (aM:fp g):Tot (CO g) λl=>l=syms g:=by
 have c0:=aM.iC;have bc:=aM.ev;unfold CO;refine .aC (Ξ:=λl:List Int=>l=(List.range g.aX.length).map (λk:Nat=>(k:Int))) ?_ λl ah=>?_
 ·refine Tot.upto (λs=>s.2) g.aX.length (λk s=>s.1=(List.range k).map (λk:Nat=>(k:Int))) rfl (by omega) rfl λk s hk he a'=>?_;obtain ⟨l,i⟩:=s;simp only at he a' ⊢;subst he a';rw [ek k (by omega)];refine Tot.bA (λaK=>?_) (λdx=>.al ?_)
  ·refine .aC (Ξ:=λ_=>True) (Tot.ap (by simp [lim]; omega) trivial) λ_ _=>.al ⟨by omega,rfl,?_⟩;show _=(List.range (k+1)).map _;rw [List.range_succ,List.map_append]; rfl
  ·have:k=g.aX.length:=by omega
   subst this; rfl
 ·subst ah;refine .aC (Ξ:=λl:List Int=>l=syms g) ?_ λr ak=>.al ak;refine Tot.upto (λs=>s.2) g.bF.length (λk s=>s.1=(List.range g.aX.length).map (λk:Nat=>(k:Int))++(List.range k).map (λk:Nat=>1000+(k:Int))) rfl (by omega) (by simp) λk s hk he a'=>?_;obtain ⟨l,i⟩:=s;simp only at he a' ⊢;subst he a';rw [ek k (by omega)];refine Tot.bA (λaK=>?_) (λdx=>.al ?_)
  ·refine .aC (Ξ:=λ_=>True) (Tot.ap (by simp [lim]; omega) trivial) λ_ _=>.al ⟨by omega,rfl,?_⟩;have hw:aS (1000+(k:Int))=1000+(k:Int):=by rw [cP]; omega
   show _=_++(List.range (k+1)).map _;rw [hw,List.range_succ,List.map_append,List.append_assoc]; rfl
  ·have:k=g.bF.length:=by omega
   subst this; rfl
theorem Z8 (g:bt):(syms g).length=g.aX.length+g.bF.length:=by simp [syms]
theorem Pa {g:bt}{s:Int}:s∈syms g↔(0<=s/\s<g.aX.length)\/(1000<=s/\s<1000+g.bF.length):=by
 unfold syms;rw [List.mem_append,List.mem_map,List.mem_map];constructor
 ·rintro (⟨k,hk,rfl⟩ | ⟨k,hk,rfl⟩)
  ·rw [List.mem_range] at hk; exact .inl (by omega)
  ·rw [List.mem_range] at hk; exact .inr (by omega)
 ·rintro (h | h)
  ·exact .inl ⟨s.toNat,by rw [List.mem_range]; omega,by omega⟩
  ·exact .inr ⟨(s - 1000).toNat,by rw [List.mem_range]; omega,by omega⟩
theorem Z9 {g:bt}(aM:fp g):(syms g).Nodup:=by
 have au:=aM.iC;unfold syms;rw [List.nodup_append];refine ⟨List.pairwise_map.2 ((List.nodup_range (n:=g.aX.length)).imp λ{a b} h e=>h (by omega)),List.pairwise_map.2 ((List.nodup_range (n:=g.bF.length)).imp λ{a b} h e=>h (by omega)),λa aQ b ao=>?_⟩;obtain ⟨i,hi,rfl⟩:=List.mem_map.1 aQ;obtain ⟨j,ag,rfl⟩:=List.mem_map.1 ao;rw [List.mem_range] at hi;omega
structure yp (g:bt) (K:List Item):Prop where
 a:fo fS K
 i:∀ x∈K,gu g x
theorem yp.len {g:bt}(aM:fp g) {K:List Item}(h:yp g K):K.length<=540:=r' aM h.a h.i
theorem sc (l:List Int) (x:Int) (h:l.length<=1000000):Tot (zK l x) λc=>(c=true↔x∈l):=by
 unfold zK;refine .aC (Ξ:=iI (λ_=>x∉l) (λr:Bool=>r=true/\x∈l)) ?_ λr ak=>?_
 ·refine Tot.upto (λs=>s) l.length (λk s=>x∉l.take k) rfl (by omega) (by simp) λk s hk he a'=>?_;subst he;rw [ek k (by omega)];refine Tot.bA (λaK=>?_) (λdx=>.al ?_)
  ·have aK:k<l.length:=by omega
   rw [dT aK];simp only [Option.bind_some];refine Tot.bA (λe=>.al ⟨rfl,by rw [<- e]; exact List.getElem_mem aK⟩) (λe=>.al ⟨aK,rfl,?_⟩);rw [nU aK,List.mem_append,List.mem_singleton];exact λh=>h.elim a' λh=>e h.symm
  ·rw [List.take_of_length_le (by omega)] at a';exact a'
 ·rcases r with r | r
  ·exact .al ⟨λh=>(by cases h),λh=>absurd h ak⟩
  ·obtain ⟨rfl,h⟩:=ak;exact .al ⟨λ_=>h,λ_=>rfl⟩
theorem SD (m:List State) (k:List Item) (aI:m.length<=1000) (h1:∀ st∈m,st.Kernel.length<=1000000):Tot (CQ m k) λr=>-1<=r/\r<m.length:=by
 unfold CQ;refine .aC (Ξ:=iI (λ_=>True) (λr:Int=>0<=r/\r<m.length)) ?_ λx J=>?_
 ·refine Tot.upto (λs=>s) m.length (λ_ _=>True) rfl (by omega) trivial λj s ag he _=>?_;subst he;rw [ek j (by omega)];refine Tot.bA (λaK=>?_) (λdx=>.al trivial);have aK:j<m.length:=by omega
  rw [dT aK];refine Tot.sm (.aC (SI _ k (h1 _ (List.getElem_mem aK))) λc aa=>Tot.bC (λh=>.al ⟨by omega,by omega⟩) (λh=>.al ⟨aK,rfl,trivial⟩))
 ·rcases x with x | x
  ·exact .al ⟨by omega,by omega⟩
  ·have J:0<=x/\x<m.length:=J;exact .al ⟨by omega,by omega⟩
structure yv (g:bt) (n:Nat) (v:Move):Prop where
 s:v.Sym∈syms g
 t0:0<=v.nA
 t1:v.nA<n
structure lT (g:bt) (m:List State) (q j:Nat):Prop where
 gv:0<m.length
 h3:m.length<=150
 o1:∀ st∈m,yp g st.Kernel
 ms:∀ (i:Nat) (st:State),m[i]?=some st->(st.cE.map (·.Sym)).Sublist (if i<q then syms g else if i=q then (syms g).take j else [])
 aW:∀ st∈m,∀ v∈st.cE,yv g m.length v
structure jJ (g:bt) (m:List State):Prop where
 gv:0<m.length
 h3:m.length<=150
 o1:∀ st∈m,yp g st.Kernel
 tW:∀ st∈m,st.cE.length<=64
 nd:∀ st∈m,(st.cE.map (·.Sym)).Nodup
 aW:∀ st∈m,∀ v∈st.cE,yv g m.length v
theorem yv.up {g:bt}{n ck:Nat}{v:Move}(h:yv g n v) (aA:n<=ck):yv g ck v:=⟨h.s,h.t0,by have:=h.t1; omega⟩
theorem lT.put {g:bt}{m:List State}{q j:Nat}(h:lT g m q j) {st:State}(ba:m[q]?=some st) {v:Move}(hv:yv g m.length v) (ag:(syms g)[j]?=some v.Sym):lT g (m.set q ⟨st.Kernel,st.cE++[v]⟩) q (j+1):=by
 have lf:=(List.getElem?_eq_some_iff.1 ba).1;have hm:=List.mem_of_getElem? ba;refine ⟨by rw [List.length_set]; exact h.gv,by rw [List.length_set]; exact h.h3,λs av=>?_,λi s av=>?_,λs av w hw=>?_⟩
 ·rcases List.mem_or_eq_of_mem_set av with aR | aR
  ·exact h.o1 s aR
  ·rw [aR]; exact h.o1 st hm
 ·rw [rY lf] at av;by_cases e:i=q
  ·subst e;rw [if_pos rfl] at av; cases av;have:=h.ms i st ba;rw [if_neg (by omega),if_pos rfl] at this ⊢;rw [List.map_append,List.take_add_one,ag];exact this.append (List.Sublist.refl _)
  ·rw [if_neg e] at av;have:=h.ms i s av;rw [if_neg e] at this ⊢;exact this
 ·rw [List.length_set];rcases List.mem_or_eq_of_mem_set av with aR | aR
  ·exact h.aW s aR w hw
  ·rw [aR] at hw;rcases List.mem_append.1 hw with hw | hw
   ·exact h.aW st hm w hw
   ·rw [List.mem_singleton.1 hw]; exact hv
theorem lT.more {g:bt}{m:List State}{q j:Nat}(h:lT g m q j) (ah:m.length<150) {K:List Item}(hk:yp g K):lT g (m++[⟨K,[]⟩]) q j:=by
 refine ⟨by simp,by simp; omega,λs av=>?_,λi s av=>?_,λs av w hw=>?_⟩
 ·rcases List.mem_append.1 av with av | av
  ·exact h.o1 s av
  ·rw [List.mem_singleton.1 av]; exact hk
 ·by_cases e:i<m.length
  ·rw [List.getElem?_append_left e] at av; exact h.ms i s av
  ·rw [List.getElem?_append_right (by omega)] at av;have:s=⟨K,[]⟩:=by
    have:=List.mem_of_getElem? av;simpa using this
   rw [this]; exact List.nil_sublist _
 ·rcases List.mem_append.1 av with av | av
  ·exact (h.aW s av w hw).up (by simp)
  ·rw [List.mem_singleton.1 av] at hw; cases hw
theorem lT.mono {g:bt}{m:List State}{q j vm:Nat}(h:lT g m q j) (ag:j<=vm):lT g m q vm:=by
 refine ⟨h.gv,h.h3,h.o1,λi s av=>?_,h.aW⟩;have:=h.ms i s av;split
 ·rename_i e; rw [if_pos e] at this; exact this
 ·rename_i e; rw [if_neg e] at this;split
  ·rename_i b0; rw [if_pos b0] at this;exact this.trans (List.take_sublist_take_left ag)
  ·rename_i b0; rw [if_neg b0] at this; exact this
theorem lT.next {g:bt}{m:List State}{q j:Nat}(h:lT g m q j):lT g m (q+1) 0:=by
 refine ⟨h.gv,h.h3,h.o1,λi s av=>?_,h.aW⟩;have:=h.ms i s av;by_cases e:i<q+1
 ·rw [if_pos e]
  split at this
  ·exact this
  ·split at this
   ·exact this.trans (List.take_sublist _ _)
   ·exact this.trans (List.nil_sublist _)
 ·rw [if_neg (by omega),if_neg (by omega)] at this;rw [if_neg e];exact this.trans (List.nil_sublist _)
theorem uE (g:bt) (aM:fp g):Tot (zI g) λr=>(r.2=0/\jJ g r.1)\/r.2=4:=by
 have c0:=aM.iC;have bc:=aM.ev;have cX:=aM.k2;unfold zI;refine Tot.aC (Mx g aM) λaY h1=>?_;subst h1;have ji:=Z8 g;refine Tot.aC (Ξ:=iI (λm=>lT g m m.length 0) (λr:List State × Int=>r.2=4)) ?_ λx J=>?_
 ·refine Tot.loop (λs=>∃ q:Nat,s.2=(q:Int)/\q<=s.1.length/\lT g s.1 q 0) (λs=>151 - s.2.toNat) ⟨0,rfl,Nat.zero_le _,⟨by simp,by simp,λs av=>?_,λi s av=>?_,λs av v hv=>?_⟩⟩ (by show 151 - 0<1000000000000000000; omega) λs bQ=>?_
  ·rw [List.mem_singleton.1 av];refine ⟨List.pairwise_singleton ..,λx J=>?_⟩;rw [List.mem_singleton.1 J];obtain ⟨q,ba⟩:∃ q,g.a8[0]?=some q:=⟨g.a8[0]'(by omega),List.getElem?_eq_getElem _⟩;exact OM (p:=0) ba
  ·have:=List.mem_of_getElem? av;rw [List.mem_singleton.1 this]; exact List.nil_sublist _
  ·rw [List.mem_singleton.1 av] at hv; cases hv
  obtain ⟨q,he,ba,tr⟩:=bQ;obtain ⟨m,i⟩:=s;simp only at he ba tr ⊢;subst he;have qG:=tr.h3;rw [ek q (by omega)];refine Tot.bA (λaK=>?_) (λdx=>.al ?_)
  ·have aK:q<m.length:=by omega
   rw [dT aK];have dk:=tr.o1 _ (List.getElem_mem aK);refine Tot.sm (Tot.aC (D8 g aM _ (by have:=dk.len aM; omega)) λc aa=>?_);have hZ:=r' aM aa.1 λx J=>((aa.2 x).1 J).gu;refine Tot.aC (Ξ:=λl:List Int=>l.length<=1000) ?_ λRP adD=>?_
   ·refine Tot.upto (λs=>s.2) c.length (λk s=>fo ib s.1/\s.1.length<=k) rfl (by omega) ⟨.nil,Nat.le_refl 0⟩ λk s hk he a'=>?_;obtain ⟨l,i⟩:=s;obtain ⟨g1,g2⟩:=a';simp only at he g1 g2 ⊢;subst he;rw [ek k (by omega)];refine Tot.bA (λaK=>?_) (λdx=>.al (show l.length<=1000 by omega));have aK:k<c.length:=by omega
    rw [dT aK];refine .aC (Ξ:=λl:List Int=>fo ib l/\l.length<=k+1) ?_ λo aM=>.al ⟨aK,rfl,aM⟩;refine Tot.sm ?_;rw [HB g _];refine Tot.sm (.aC (Ξ:=λl:List Int=>fo ib l/\l.length<=k+1) ?_ λo aM=>.al aM);refine Tot.bA (λaw=>.aC (Hg l _ g1 (by omega)) λr ak=>.al ⟨ak.1,by have:=ak.2.1; omega⟩) (λaw=>.al ⟨g1,by omega⟩)
   ·refine Tot.aC (Ξ:=iI (λm=>lT g m q (syms g).length/\q<m.length) (λr:List State × Int=>r.2=4)) ?_ λx J=>?_
    ·refine Tot.upto (λs=>s.2) (syms g).length (λk s=>lT g s.1 q k/\q<s.1.length) rfl (by omega) ⟨tr,aK⟩ λk s hk he a'=>?_;obtain ⟨m,i⟩:=s;obtain ⟨ts,lf⟩:=a';simp only at he ts lf ⊢;subst he;rw [ek k (by omega)];have sw:=ts.h3;refine Tot.bA (λaK=>?_) (λdx=>.al ?_)
     ·have aK:k<(syms g).length:=by omega
      have pT:=List.getElem_mem aK;have oW:(syms g)[k]?=some (syms g)[k]:=List.getElem?_eq_getElem aK;rw [dT aK];generalize (syms g)[k]=s at *;refine Tot.sm (Tot.aC (sc RP s (by omega)) λcA _=>?_);refine Tot.bC (λ_=>.al ⟨aK,rfl,ts.mono (by omega),lf⟩) (λ_=>?_);have lE:m[q]?=some m[q]:=List.getElem?_eq_getElem lf;have dk:=ts.o1 _ (List.getElem_mem lf);rw [dT lf];generalize m[q]=st at *;refine Tot.sm (Tot.sm (Tot.aC (SC g aM st.Kernel s (by have:=dk.len aM; omega)) λDJ Ew=>?_));have hS:yp g DJ:=⟨Ew.1,λy ai=>((Ew.2 y).1 ai).gu aM⟩;refine Tot.aC (SD m DJ (by omega) λt au=>by have:=(ts.o1 t au).len aM; omega) λz aT=>?_;have W1:=(ts.ms q st lE).length_le;rw [if_neg (by omega),if_pos rfl,List.length_map,List.length_take] at W1;refine Tot.bA (λad4=>Tot.bA (λ_=>.al rfl) (λad5=>?_)) (λoU=>?_)
      ·refine .aC (Ξ:=λ_=>True) (Tot.ap (by simp [lim]; omega) trivial) λ_ _=>?_;have Vc:=ts.more (by omega) hS;have BB:(m++[(⟨DJ,[]⟩:State)])[q]?=some st:=by rw [List.getElem?_append_left lf]; exact lE
       have BD:idx (m++[(⟨DJ,[]⟩:State)]) (q:Int)=some st:=by simp only [idx,if_pos (show (0:Int)<=(q:Int) by omega),Int.toNat_natCast]; exact BB
       rw [BD];refine Tot.sm (Tot.sm ?_);refine .aC (Ξ:=λ_=>True) (Tot.ap (by simp [lim]; omega) trivial) λ_ _=>.al ⟨aK,rfl,?_⟩;refine ⟨?_,by show q<(List.set _ _ _).length; rw [List.length_set]; simp; omega⟩;show lT g (List.set _ (q:Int).toNat _) q (k+1);rw [Int.toNat_natCast];exact Vc.put BB ⟨pT,by show (0:Int)<=(m.length:Int); omega,by show (m.length:Int)<_; simp; omega⟩ oW
      ·refine Tot.sm (Tot.sm ?_);refine .aC (Ξ:=λ_=>True) (Tot.ap (by simp [lim]; omega) trivial) λ_ _=>.al ⟨aK,rfl,?_⟩;refine ⟨?_,by show q<(List.set _ _ _).length; rw [List.length_set]; exact lf⟩;show lT g (List.set _ (q:Int).toNat _) q (k+1);rw [Int.toNat_natCast];exact ts.put lE ⟨pT,by show 0<=z; omega,aT.2⟩ oW
     ·have:k=(syms g).length:=by omega
      subst this;exact ⟨ts,lf⟩
    ·rcases x with x | x
     ·obtain ⟨h1,af⟩:=J;refine .al ⟨⟨q+1,rfl,af,h1.next⟩,?_⟩;show 151 - ((q+1:Nat):Int).toNat<151 - (q:Int).toNat;omega
     ·exact .al J
  ·have:q=m.length:=by omega
   subst this;exact tr
 ·rcases x with x | x
  ·have J:lT g x x.length 0:=J;have key:∀ st∈x,(st.cE.map (·.Sym)).Sublist (syms g):=λst bQ=>by
    obtain ⟨i,hi⟩:=List.getElem?_of_mem bQ;have:=J.ms i st hi;rw [if_pos (List.getElem?_eq_some_iff.1 hi).1] at this;exact this
   refine .al (.inl ⟨rfl,J.gv,J.h3,J.o1,λst bQ=>?_,λst bQ=>(key st bQ).nodup (Z9 aM),J.aW⟩);have:=(key st bQ).length_le;rw [List.length_map] at this; omega
  ·exact .al (.inr J)
theorem XQ {α:Type}{m:List α}{q:Nat}{x:α}(h:m[q]?=some x):idx m (q:Int)=some x:=by simp [idx,h]
def GoTo (m:List State) (a s r:Int):Prop:=(r=-1/\∀ st,idx m a=some st->∀ v∈st.cE,v.Sym≠s)\/∃ st v,idx m a=some st/\v∈st.cE/\v.Sym=s/\r=v.nA
theorem D7 (m:List State) (a s:Int) (hm:∀ st∈m,st.cE.length<=64):Tot (rW m a s) (GoTo m a s):=by
 unfold rW;by_cases aI:0<=a/\a<(m.length:Int)
 ·obtain ⟨st,bQ,pR⟩:=lh aI.1 aI.2;have ah:=hm st pR;have d1:decide (0<=a)=true:=decide_eq_true aI.1;have d2:decide (a<(m.length:Int))=true:=decide_eq_true aI.2;rw [d1,d2];simp only [cond_true,bQ,Option.bind_some];refine .aC (Ξ:=iI (λ_=>∀ v∈st.cE,v.Sym≠s) (λr:Int=>∃ v,v∈st.cE/\v.Sym=s/\r=v.nA)) ?_ λx J=>?_
  ·refine Tot.upto (λs=>s) st.cE.length (λk _=>∀ v∈st.cE.take k,v.Sym≠s) rfl (by omega) (by simp) λk i hk he a'=>?_;subst he;rw [ek k (by omega)];refine Tot.bA (λaK=>?_) (λdx=>.al (by
    show ∀ v∈st.cE,v.Sym≠s;rw [List.take_of_length_le (by omega)] at a'; exact a'))
   have aK:k<st.cE.length:=by omega
   rw [dT aK];simp only [Option.bind_some];refine Tot.bA (λe=>.al ⟨_,List.getElem_mem aK,e,rfl⟩) (λe=>.al ⟨aK,rfl,λv hv=>?_⟩);rw [nU aK,List.mem_append,List.mem_singleton] at hv;rcases hv with hv | rfl
   ·exact a' v hv
   ·exact e
  ·rcases x with x | x
   ·exact .al (.inl ⟨rfl,λF5 aR=>by rw [bQ] at aR; cases aR; exact J⟩)
   ·obtain ⟨v,h1,af,aF⟩:=J;exact .al (.inr ⟨st,v,bQ,h1,af,aF⟩)
 ·refine .aC (Ξ:=iI (λ_=>True) (λ_:Int=>False)) (Tot.loop (λ_=>True) (λ_=>0) trivial (by show 0<1000000000000000000; omega) λi _=>?_) λx J=>?_
  ·refine .aC (Ξ:=λc=>c=false) ?_ λc aa=>by subst aa; exact .al trivial
   refine Tot.bA (λh1=>Tot.bA (λaf=>absurd ⟨h1,af⟩ aI) (λ_=>.al rfl)) (λ_=>.al rfl)
  ·rcases x with x | x
   ·refine .al (.inl ⟨rfl,λst aR=>absurd ⟨(mx aR).1,(mx aR).2.1⟩ aI⟩)
   ·exact J.elim
theorem GoTo.aG {g:bt}{m:List State}(hm:jJ g m) {a s r:Int}(h:GoTo m a s r):-1<=r/\r<m.length:=by
 rcases h with ⟨rfl,_⟩ | ⟨st,v,h1,af,_,rfl⟩
 ·have:=hm.gv; exact ⟨by omega,by omega⟩
 ·have:=hm.aW st (mx h1).2.2 v af;exact ⟨by have:=this.t0; omega,this.t1⟩
theorem GoTo.yes {g:bt}{m:List State}(hm:jJ g m) {a s r:Int}(h:GoTo m a s r) {st:State}{v:Move}(av:idx m a=some st) (hv:v∈st.cE) (e:v.Sym=s):0<=r/\r<m.length:=by
 rcases h with ⟨rfl,h⟩ | ⟨st,v,h1,af,_,rfl⟩
 ·exact absurd e (h st av v hv)
 ·have:=hm.aW st (mx h1).2.2 v af;exact ⟨this.t0,this.t1⟩
theorem My {g:bt}{m:List State}(hm:jJ g m) (a:Int) (l:List Int) (aQ:-1<=a/\a<m.length) (ah:l.length<=1000):Tot (zN m a l) λr=>-1<=r/\r<m.length:=by
 unfold zN;refine .aC (Ξ:=λr:Int=>-1<=r/\r<m.length) ?_ λr ak=>.al ak;refine Tot.upto (λs=>s.2) l.length (λ_ s=>-1<=s.1/\s.1<m.length) rfl (by omega) aQ λk s hk he a'=>?_;obtain ⟨r,i⟩:=s;simp only at he a' ⊢;subst he;rw [ek k (by omega)];refine .aC (Ξ:=λc=>c=true->k<l.length) (Tot.bA (λh=>.al λ_=>by omega) (λ_=>.al λh=>by cases h)) λc aa=>Tot.bC (λh=>?_) (λ_=>.al a');have aK:=aa h;rw [dT aK];exact Tot.sm (.aC (D7 m r _ hm.tW) λz aT=>.al ⟨aK,rfl,aT.aG hm⟩)
def uB (m:List State) (t:Trans):Prop:=∃ st v,idx m t.State=some st/\v∈st.cE/\v.Sym=t.e5/\1000<=t.e5
structure wj (m:List State) (l:List Trans):Prop where
 n:l.length<=9600
 ok:∀ t∈l,uB m t
 ho:∀ (q:Nat) (st:State) (v:Move),m[q]?=some st->v∈st.cE->1000<=v.Sym->(⟨q,v.Sym⟩:Trans)∈l
theorem SG {g:bt}{m:List State}(hm:jJ g m):Tot (p7 m) (wj m):=by
 have aA:=hm.h3;unfold p7;refine .aC (Ξ:=wj m) ?_ λr ak=>.al ak;refine Tot.upto (λs=>s.2) m.length (λk s=>s.1.length<=64 * k/\(∀ t∈s.1,uB m t)/\∀ (q:Nat) (st:State) (v:Move),q<k->m[q]?=some st->v∈st.cE->1000<=v.Sym->(⟨q,v.Sym⟩:Trans)∈s.1) rfl (by omega) ⟨Nat.le_refl 0,λt h=>(by cases h),λq _ _ h=>absurd h (Nat.not_lt_zero _)⟩ λk s hk he a'=>?_;obtain ⟨l,i⟩:=s;obtain ⟨h1,af,aF⟩:=a';simp only at he h1 af aF ⊢;subst he;rw [ek k (by omega)];refine Tot.bA (λaK=>?_) (λdx=>.al ⟨?_,af,λq st v ba=>aF q st v ?_ ba⟩)
 ·have aK:k<m.length:=by omega
  have lE:m[k]?=some m[k]:=List.getElem?_eq_getElem aK;have pR:=List.getElem_mem aK;rw [dT aK];generalize m[k]=st at *;have sw:=hm.tW st pR;simp only [Option.bind_some];refine .aC (Ξ:=λzp:List Trans=>zp.length<=64 * (k+1)/\(∀ t∈zp,uB m t)/\(∀ t∈l,t∈zp)/\∀ v∈st.cE,1000<=v.Sym->(⟨k,v.Sym⟩:Trans)∈zp) ?_ λzp hp=>.al ⟨aK,rfl,hp.1,hp.2.1,λq F5 v ba bk b2 du=>?_⟩
  ·refine Tot.upto (λs=>s.2) st.cE.length (λj s=>s.1.length<=64 * k+j/\(∀ t∈s.1,uB m t)/\(∀ t∈l,t∈s.1)/\∀ v∈st.cE.take j,1000<=v.Sym->(⟨k,v.Sym⟩:Trans)∈s.1) rfl (by omega) ⟨h1,af,λ_ h=>h,λv hv=>by simp at hv⟩ λj s ag he a'=>?_;obtain ⟨o,i⟩:=s;obtain ⟨g1,g2,g3,g4⟩:=a';simp only at he g1 g2 g3 g4 ⊢;subst he;rw [ek j (by omega)];refine Tot.bA (λaK=>?_) (λdx=>.al ⟨by show o.length<=_; omega,g2,g3,by
    rw [List.take_of_length_le (by omega)] at g4; exact g4⟩)
   have aK:j<st.cE.length:=by omega
   have hJ:=nU aK;have EY:=List.getElem_mem aK;rw [dT aK];generalize st.cE[j]=v at *;simp only [Option.bind_some];refine .aC (Ξ:=λo:List Trans=>o.length<=64 * k+(j+1)/\(∀ t∈o,uB m t)/\(∀ t∈l,t∈o)/\∀ v∈st.cE.take (j+1),1000<=v.Sym->(⟨k,v.Sym⟩:Trans)∈o) ?_ λo aM=>.al ⟨aK,rfl,aM⟩;refine .aC (Ξ:=λo:List Trans=>o.length<=64 * k+(j+1)/\(∀ t∈o,uB m t)/\(∀ t∈l,t∈o)/\∀ v∈st.cE.take (j+1),1000<=v.Sym->(⟨k,v.Sym⟩:Trans)∈o) (Tot.bA (λh=>?_) (λh=>.al ⟨by omega,g2,g3,λw hw av=>?_⟩)) λo aM=>.al aM
   ·refine .aC (Ξ:=λ_=>True) (Tot.ap (by simp [lim]; omega) trivial) λ_ _=>.al ⟨by simp; omega,λt au=>?_,λt au=>List.mem_append_left _ (g3 t au),λw hw av=>?_⟩
    ·rcases List.mem_append.1 au with au | au
     ·exact g2 t au
     ·rw [List.mem_singleton.1 au];exact ⟨st,v,XQ lE,EY,rfl,h⟩
    ·rw [hJ,List.mem_append,List.mem_singleton] at hw;rcases hw with hw | rfl
     ·exact List.mem_append_left _ (g4 w hw av)
     ·simp
   ·rw [hJ,List.mem_append,List.mem_singleton] at hw;rcases hw with hw | rfl
    ·exact g4 w hw av
    ·exact absurd av h
  ·by_cases e:q=k
   ·subst e;rw [lE] at bk; cases bk;exact hp.2.2.2 v b2 du
   ·exact hp.2.2.1 _ (aF q F5 v (by omega) bk b2 du)
 ·show l.length<=9600;omega
 ·have:=(List.getElem?_eq_some_iff.1 ba).1;omega
theorem AV (l:List Trans) (a n:Int) (ah:l.length<=9600):Tot (zV l a n) λr=>-1<=r/\r<l.length/\((⟨a,n⟩:Trans)∈l->0<=r):=by
 unfold zV;refine .aC (Ξ:=iI (λ_=>(⟨a,n⟩:Trans)∉l) (λr:Int=>0<=r/\r<l.length)) ?_ λx J=>?_
 ·refine Tot.upto (λs=>s) l.length (λk _=>(⟨a,n⟩:Trans)∉l.take k) rfl (by omega) (by simp) λk i hk he a'=>?_;subst he;rw [ek k (by omega)];refine Tot.bA (λaK=>?_) (λdx=>.al (by
   show (⟨a,n⟩:Trans)∉l;rw [List.take_of_length_le (by omega)] at a'; exact a'))
  have aK:k<l.length:=by omega
  have hJ:=nU aK;rw [dT aK];generalize l[k]=y at *;simp only [Option.bind_some];refine .aC (Ξ:=λc:Bool=>c=false->y≠⟨a,n⟩) (Tot.bA (λh=>.al λaR e=>?_) (λh=>.al λ_ e=>h (by rw [e]))) λc aa=>Tot.bC (λh=>.al ⟨by show (0:Int)<=k; omega,by show (k:Int)<_; omega⟩) (λh=>.al ⟨aK,rfl,?_⟩)
  ·have:=of_decide_eq_false aR;exact this (by rw [e])
  ·rw [hJ,List.mem_append,List.mem_singleton];exact λaR=>aR.elim a' λe=>aa h e.symm
 ·rcases x with x | x
  ·refine .al ⟨by omega,by omega,λh=>absurd h J⟩
  ·have J:0<=x/\x<l.length:=J;exact .al ⟨by omega,J.2,λ_=>J.1⟩
theorem SJ (l:List Item) (ah:l.length<=1000000):Tot (CZ l) λ_=>True:=by
 unfold CZ;refine .aC (Ξ:=λ_=>True) ?_ λx J=>by
  rcases x with x | x
  ·exact .al trivial
  ·exact .al trivial
 refine Tot.upto (λs=>s) l.length (λ_ _=>True) rfl (by omega) trivial λk i hk he _=>?_;subst he;rw [ek k (by omega)];refine Tot.bA (λaK=>?_) (λ_=>.al trivial);have aK:k<l.length:=by omega
 rw [dT aK];simp only [Option.bind_some];refine .aC (Ξ:=λ_=>True) (Tot.bA (λ_=>.al trivial) (λ_=>.al trivial)) λc _=>Tot.bC (λ_=>.al trivial) (λ_=>.al ⟨aK,rfl,trivial⟩)
theorem MA (B:List Bool) (l:List Int) (ah:l.length<=1000) (h:∀ s∈l,s<1000\/(1000<=s/\s - 1000<B.length)) (fB:B.length<=1000):Tot (zW B l) λ_=>True:=by
 unfold zW;refine .aC (Ξ:=λ_=>True) ?_ λx J=>by
  rcases x with x | x
  ·exact .al trivial
  ·exact .al trivial
 refine Tot.upto (λs=>s) l.length (λ_ _=>True) rfl (by omega) trivial λk i hk he _=>?_;subst he;rw [ek k (by omega)];refine Tot.bA (λaK=>?_) (λ_=>.al trivial);have aK:k<l.length:=by omega
 have ai:=h _ (List.getElem_mem aK);rw [dT aK];generalize l[k]=y at *;simp only [Option.bind_some];refine .aC (Ξ:=λ_=>True) (Tot.bA (λ_=>.al trivial) (λh1=>?_)) λc _=>Tot.bC (λ_=>.al trivial) (λ_=>.al ⟨aK,rfl,trivial⟩);have hw:aS (y - 1000)=y - 1000:=by rw [cP]; omega
 rw [hw];obtain ⟨b,ao,_⟩:=lh (l:=B) (i:=y - 1000) (by omega) (by omega);rw [ao];exact .al trivial
theorem PU {g:bt}(aL:fp g) {q:Prod}(ba:q∈g.a8) {B:List Bool}(fB:B.length=g.bF.length):∀ s∈q.ez,s<1000\/(1000<=s/\s - 1000<B.length):=λs av=>by
 have au:=aL.iC;have aA:=aL.ev;rcases (aL.gN q ba).right s av with h | h <;> omega
theorem Mz (g:bt) (aL:fp g):Tot (zU g) λB=>B.length=g.bF.length:=by
 have au:=aL.iC;have aA:=aL.ev;have aw:=aL.k2;unfold zU;refine .aC (Ξ:=λB=>B=List.replicate g.bF.length false) (Tot.mk (by simp [lim]; omega) (by simp)) λaa9 UP=>?_;subst UP;refine .aC (Ξ:=λB:List Bool=>B.length=g.bF.length) ?_ λB fB=>.al fB;refine Tot.loop (λs=>s.1.length=g.bF.length) (λs=>2 * (g.bF.length - gG s.1)+s.2.toNat) (by simp) (by
  show 2 * (g.bF.length - gG _)+1<1000000000000000000; omega) λs av=>?_
 obtain ⟨B,f⟩:=s;simp only at av ⊢;refine Tot.bC (λaV=>?_) (λ_=>.al av);subst aV;refine .aC (Ξ:=λr:List Bool × Bool=>r.1.length=g.bF.length/\gG B<=gG r.1/\(r.2=true->gG B<gG r.1)) ?_ λr ak=>?_
 ·refine Tot.upto (λs=>s.2.2) g.a8.length (λ_ s=>s.1.length=g.bF.length/\gG B<=gG s.1/\(s.2.1=true->gG B<gG s.1)) rfl (by omega) ⟨av,Nat.le_refl _,λh=>by cases h⟩ λk s hk he a'=>?_;obtain ⟨C,f,i⟩:=s;obtain ⟨h1,af,aF⟩:=a';simp only at he h1 af aF ⊢;subst he;rw [ek k (by omega)];refine Tot.bA (λaK=>?_) (λdx=>.al ⟨h1,af,aF⟩);have aK:k<g.a8.length:=by omega
  have lf:=List.getElem_mem aK;rw [dT aK];generalize g.a8[k]=q at *;have ba:=aL.gN q lf;have Jb:=ba.left;obtain ⟨b,ao,_⟩:=lh (l:=C) (i:=q.Left) Jb.1 (by omega);simp only [Option.bind_some,ao];refine .aC (Ξ:=λr:List Bool × Bool=>r.1.length=g.bF.length/\gG B<=gG r.1/\(r.2=true->gG B<gG r.1)) ?_ λr ak=>.al ⟨aK,rfl,ak⟩;refine .aC (Ξ:=λc:Bool=>c=true->b=false) ?_ λc aa=>?_
  ·cases b with
   | true=>exact .al λh=>by cases h
   | false =>
    refine .aC (MA C q.ez (by have:=aL.aN q lf; omega) (PU aL lf h1) (by omega)) λ_ _=>.al λ_=>rfl
  ·refine .aC (Ξ:=λr:List Bool × Bool=>r.1.length=g.bF.length/\gG B<=gG r.1/\(r.2=true->gG B<gG r.1)) (Tot.bC (λh=>.al ?_) (λh=>.al ⟨h1,af,aF⟩)) λr ak=>.al ak;have VZ:=aa h;subst VZ;have pP:q.Left.toNat<C.length:=by omega
   have lE:C.getD q.Left.toNat false=false:=by
    unfold idx at ao;rw [if_pos Jb.1] at ao;rw [List.getD_eq_getElem?_getD,ao]; rfl
   have:=uI C q.Left.toNat pP lE;exact ⟨by rw [List.length_set]; exact h1,by show gG B<=gG (C.set _ _); omega,λ_=>by show gG B<gG (C.set _ _); omega⟩
 ·obtain ⟨h1,af,aF⟩:=ak;refine .al ⟨h1,?_⟩;have aa:=Ht r.1;show 2 * (g.bF.length - gG r.1)+r.2.toNat<2 * (g.bF.length - gG B)+true.toNat;cases hr:r.2 with
  | false=>simp only [Bool.toNat_false,Bool.toNat_true]; omega
  | true =>
   have:=aF hr;simp only [Bool.toNat_true]; omega
structure iJ (T:Nat) (r:List Int):Prop where
 a:fo ib r
 i:∀ x∈r,0<=x/\x<T
theorem iJ.len {T:Nat}{r:List Int}(h:iJ T r):r.length<=T:=by
 have:=vr (m:=(List.range T).map λk:Nat=>(k:Int)) (h.a.nd FC) λx J=>by
  have:=h.i x J;exact List.mem_map.2 ⟨x.toNat,by rw [List.mem_range]; omega,by omega⟩
 grind
theorem iJ.nil {T:Nat}:iJ T []:=⟨.nil,λx h=>by cases h⟩
theorem iJ.put {T:Nat}(c0:T<=100000) {r:List Int}(h:iJ T r) {x:Int}(J:0<=x/\x<T):Tot (qT r x) λdr=>iJ T dr/\r.length<=dr.length:=by
 have ah:=h.len;refine (Hg r x h.a (by omega)).use λdr ec=>⟨⟨ec.1,λy ai=>?_⟩,vr (h.a.nd FC) λy ai=>(ec.2.2 y).2 (.inl ai)⟩;rcases (ec.2.2 y).1 ai with aR | rfl
 ·exact h.i y aR
 grind
def l8 (L:List (List Int)) (i:Nat):Nat:=(L.getD i []).length
def iX (L:List (List Int)):Nat:=(L.map List.length).sum
theorem QI:∀ (L L':List (List Int)),L.length=L'.length->(∀ i,l8 L i<=l8 L' i)->iX L<=iX L'/\((∃ i,l8 L i<l8 L' i)->iX L<iX L')
 | [],[],_,_=>⟨Nat.le_refl _,λ⟨i,h⟩=>absurd h (Nat.lt_irrefl _)⟩
 | a::L,b::L',ah,h=>by
  obtain ⟨h1,af⟩:=QI L L' (by simpa using ah) λi=>by simpa [l8] using h (i+1)
  have aI:a.length<=b.length:=by simpa [l8] using h 0
  have bP:iX (a::L)=a.length+iX L:=by simp [iX]
  have cu:iX (b::L')=b.length+iX L':=by simp [iX]
  rw [bP,cu];refine ⟨by omega,λ⟨i,hi⟩=>?_⟩;cases i with
  | zero =>
   have:a.length<b.length:=by simpa [l8] using hi
   omega
  | succ i =>
   have:=af ⟨i,by simpa [l8] using hi⟩;omega
def Sets (T:Nat) (L:List (List Int)):Prop:=∀ r∈L,iJ T r
theorem QH {T:Nat}:∀ {L:List (List Int)},Sets T L->iX L<=L.length * T
 | [],_=>by simp [iX]
 | a::L,h=>by
  have h1:=(h a (by simp)).len;have af:=QH (L:=L) λr ak=>h r (by simp [ak]);have bP:iX (a::L)=a.length+iX L:=by simp [iX]
  rw [bP,List.length_cons,Nat.succ_mul]; omega
structure oF (T:Nat) (L L':List (List Int)):Prop where
 n:L'.length=L.length
 s:Sets T L'
 u:∀ i,l8 L i<=l8 L' i
theorem oF.refl {T:Nat}{L:List (List Int)}(h:Sets T L):oF T L L:=⟨rfl,h,λ_=>Nat.le_refl _⟩
theorem oF.trans {T:Nat}{A B C:List (List Int)}(h:oF T A B) (aR:oF T B C):oF T A C:=⟨aR.n.trans h.n,aR.s,λi=>Nat.le_trans (h.u i) (aR.u i)⟩
theorem oF.set {T:Nat}{L:List (List Int)}{k:Nat}{r dr:List Int}(av:Sets T L) (hk:L[k]?=some r) (h:iJ T dr) (ah:r.length<=dr.length):oF T L (L.set k dr):=by
 have di:=(List.getElem?_eq_some_iff.1 hk).1;refine ⟨List.length_set ..,λx J=>?_,λi=>?_⟩
 ·rcases List.mem_or_eq_of_mem_set J with aR | aR
  ·exact av x aR
  grind
 grind [l8]
theorem XR {L:List (List Int)}{k:Nat}{r:List Int}(h:L[k]?=some r):l8 L k=r.length:=by
 grind [l8]
theorem XP {α:Type}{l:List α}{i:Int}{y:α}(h:idx l i=some y):l[i.toNat]?=some y:=by
 grind [idx]
theorem wz (T:Nat) (c0:T<=1000) (a0 ax:List (List Int)) (aA:a0.length<=9600) (he:ax.length=a0.length) (aI:Sets T a0) (h1:Sets a0.length ax):Tot (zM a0 ax) λr=>r.length=a0.length/\Sets T r:=by
 unfold zM;refine .aC (Ξ:=λr:List (List Int)=>r.length=a0.length/\Sets T r) ?_ λr ak=>.al ak;have ao:a0.length * T<=9600 * 1000:=Nat.mul_le_mul aA c0;refine Tot.loop (λs=>s.1.length=a0.length/\Sets T s.1) (λs=>2 * (a0.length * T - iX s.1)+s.2.toNat) ⟨rfl,aI⟩ (by
  show 2 * (a0.length * T - iX _)+1<1000000000000000000;omega) λs av=>?_
 obtain ⟨L,f⟩:=s;obtain ⟨ah,av⟩:=av;simp only at ah av ⊢;refine Tot.bC (λaV=>?_) (λ_=>.al ⟨ah,av⟩);subst aV;refine .aC (Ξ:=λr:List (List Int) × Bool=>oF T L r.1/\(r.2=true->∃ i,l8 L i<l8 r.1 i)) ?_ λr ak=>?_
 ·refine Tot.upto (λs=>s.2.2) L.length (λ_ s=>oF T L s.1/\(s.2.1=true->∃ i,l8 L i<l8 s.1 i)) rfl (by omega) ⟨.refl av,λh=>by cases h⟩ λk s hk h0 a'=>?_;obtain ⟨C,f,i⟩:=s;obtain ⟨hu,pN⟩:=a';simp only at h0 hu pN ⊢;subst h0;rw [ek k (by omega)];have Ol:=hu.n;refine Tot.bA (λaK=>?_) (λdx=>.al ⟨hu,pN⟩);have N2:k<C.length:=by omega
  have eX:k<ax.length:=by omega
  have adL:C[k]?=some C[k]:=List.getElem?_eq_getElem N2;have jw:=h1 _ (List.getElem_mem eX);rw [dT eX,dT N2];generalize ax[k]=row at *;generalize C[k]=iy at *;simp only [Option.bind_some];have u4:=jw.len;refine .aC (Ξ:=λD:List (List Int)=>oF T C D) ?_ λD si=>?_
  ·refine Tot.upto (λs=>s.2) row.length (λ_ s=>oF T C s.1) rfl (by omega) (.refl hu.s) λj s ag h0 a'=>?_;obtain ⟨D,i⟩:=s;simp only at h0 a' ⊢;subst h0;rw [ek j (by omega)];have US:=a'.n;refine Tot.bA (λaK=>?_) (λ_=>.al a');have aK:j<row.length:=by omega
   have ai:=jw.i _ (List.getElem_mem aK);rw [dT aK];generalize row[j]=y at *;simp only [Option.bind_some];refine .aC (Ξ:=λE:List (List Int)=>oF T C E) ?_ λE kS=>.al ⟨aK,rfl,kS⟩;refine Tot.count (λs=>s.2) T (λs=>∃ n:Nat,s.2=(n:Int)/\oF T C s.1) ⟨0,rfl,a'⟩ (by show (T:Int) - 0<_; omega) λs av=>?_;obtain ⟨E,i⟩:=s;obtain ⟨n,EP,kS⟩:=av;simp only at EP kS ⊢;subst EP;have adt:=kS.n;obtain ⟨z,aT,XM⟩:=lh (l:=E) (i:=y) ai.1 (by omega);have oh:=kS.s z XM;have sJ:=oh.len;have IV:k<E.length:=by omega
   have Wl:E[k]?=some E[k]:=List.getElem?_eq_getElem IV;rw [aT];simp only [Option.bind_some];refine Tot.bA (λaK=>?_) (λ_=>.al kS);have aK:n<z.length:=by omega
   rw [ek n (by omega),dT IV,dT aK];simp only [Option.bind_some];refine .aC ((kS.s _ (List.getElem_mem IV)).put (by omega) (oh.i _ (List.getElem_mem aK))) λdr ec=>.al ⟨⟨n+1,rfl,?_⟩,by show (n:Int)<((n+1:Nat):Int); omega,by show ((n+1:Nat):Int)<=T; omega⟩;exact kS.trans (.set kS.s Wl ec.1 ec.2)
  ·have US:=si.n;have N3:k<D.length:=by omega
   have adM:D[k]?=some D[k]:=List.getElem?_eq_getElem N3;have zj:=hu.trans si;refine .aC (Ξ:=λc:Bool=>c=true->∃ i,l8 L i<l8 D i) ?_ λc aa=>.al ⟨by omega,rfl,zj,aa⟩;refine Tot.bC (λaV=>.al λ_=>?_) (λ_=>?_)
   ·obtain ⟨i,hi⟩:=pN aV;exact ⟨i,Nat.lt_of_lt_of_le hi (si.u i)⟩
   ·rw [dT N3];refine Tot.sm (.al λh=>⟨k,?_⟩);have aF:=si.u k;have bk:=hu.u k
    grind [XR]
 ·obtain ⟨hu,aV⟩:=ak;have zh:=hu.n;obtain ⟨aF,bk⟩:=QI L r.1 zh.symm hu.u;have b2:=QH hu.s;rw [show r.1.length=a0.length by omega] at b2;refine .al ⟨⟨by show r.1.length=_; omega,hu.s⟩,?_⟩;show 2 * (a0.length * T - iX r.1)+r.2.toNat<2 * (a0.length * T - iX L)+true.toNat;cases hr:r.2 with
  | false=>simp only [Bool.toNat_false,Bool.toNat_true]; omega
  | true =>
   grind
theorem jJ.sym {g:bt}(aL:fp g) {m:List State}(hm:jJ g m) {st:State}(bQ:st∈m) {v:Move}(hv:v∈st.cE):0<=v.Sym/\(v.Sym<1000->v.Sym<g.aX.length)/\(1000<=v.Sym->v.Sym - 1000<g.bF.length):=by
 have au:=aL.iC;rcases Pa.1 (hm.aW st bQ v hv).s with h | h
 ·exact ⟨h.1,λ_=>h.2,λaR=>by omega⟩
 ·exact ⟨by omega,λaR=>by omega,λ_=>by omega⟩
theorem uB.go {g:bt}{m:List State}(hm:jJ g m) {t:Trans}(h:uB m t):Tot (rW m t.State t.e5) λr=>0<=r/\r<m.length:=by
 obtain ⟨st,v,h1,af,aF,_⟩:=h;exact (D7 m t.State t.e5 hm.tW).use λr ak=>ak.yes hm h1 af aF
theorem Qn {T:Nat}{L:List (List Int)}{r:List Int}(h:Sets T L) (ak:iJ T r):Sets T (L++[r]):=λx J=>by
 rcases List.mem_append.1 J with J | J
 ·exact h x J
 ·rw [List.mem_singleton.1 J]; exact ak
theorem SE (g:bt) (aL:fp g) {m:List State}(hm:jJ g m):Tot (CR m) λr=>∃ dn,p7 m=some dn/\wj m dn/\r.length=dn.length/\Sets g.aX.length r:=by
 have au:=aL.iC;obtain ⟨dn,pF,hs⟩:=SG hm;have w8:=hs.n;unfold CR;rw [pF];refine Tot.sm (.aC (Ξ:=λr:List (List Int)=>r.length=dn.length/\Sets g.aX.length r) ?_ λr ak=>.al ⟨dn,rfl,hs,ak⟩);refine Tot.upto (λs=>s.2) dn.length (λk s=>s.1.length=k/\Sets g.aX.length s.1) rfl (by omega) ⟨rfl,λr h=>by cases h⟩ λk s hk he a'=>?_;obtain ⟨L,i⟩:=s;obtain ⟨h1,af⟩:=a';simp only at he h1 af ⊢;subst he;rw [ek k (by omega)];refine Tot.bA (λaK=>?_) (λdx=>.al ⟨by show L.length=_; omega,af⟩);have aK:k<dn.length:=by omega
 have hJ:=hs.ok _ (List.getElem_mem aK);rw [dT aK];generalize dn[k]=t at *;simp only [Option.bind_some];refine .aC (hJ.go hm) λto BW=>?_;obtain ⟨st,bQ,pT⟩:=lh BW.1 BW.2;have dk:=hm.o1 st pT;have sw:=hm.tW st pT;rw [bQ];simp only [Option.bind_some];refine .aC (SJ _ (by have:=dk.len aL; omega)) λc _=>?_;refine .aC (Ξ:=iJ g.aX.length) (Tot.bC (λ_=>?_) (λ_=>.al .nil)) λz6 zf=>?_
 ·refine .aC (Ξ:=λ_=>True) (Tot.ap (by simp [lim]) trivial) λ_ _=>.al ⟨List.pairwise_singleton ..,λx J=>?_⟩;rw [List.mem_singleton.1 J]; omega
 refine .aC (Ξ:=iJ g.aX.length) ?_ λr ak=>?_
 ·refine Tot.upto (λs=>s.2) st.cE.length (λk s=>iJ g.aX.length s.1) rfl (by omega) zf λj s ag he a'=>?_;obtain ⟨r,i⟩:=s;simp only at he a' ⊢;subst he;rw [ek j (by omega)];refine Tot.bA (λaK=>?_) (λ_=>.al a');have aK:j<st.cE.length:=by omega
  have hv:=hm.sym aL pT (List.getElem_mem aK);rw [dT aK];generalize st.cE[j]=v at *;simp only [Option.bind_some];refine .aC (Ξ:=iJ g.aX.length) ?_ λr ak=>.al ⟨aK,rfl,ak⟩;refine .aC (Ξ:=iJ g.aX.length) (Tot.bA (λh=>?_) (λ_=>.al a')) λr ak=>.al ak;exact .aC (a'.put (by omega) ⟨hv.1,hv.2.1 h⟩) λr ak=>.al ak.1
 ·refine .aC (Ξ:=λ_=>True) (Tot.ap (by simp [lim]; omega) trivial) λ_ _=>.al ⟨aK,rfl,by simp; omega,Qn af ak⟩
theorem AT (g:bt) (aL:fp g) {m:List State}(hm:jJ g m) {dn:List Trans}(pF:p7 m=some dn) (hs:wj m dn):Tot (CS g m) λr=>r.length=dn.length/\Sets dn.length r:=by
 have au:=aL.iC;have n':=aL.ev;have w8:=hs.n;unfold CS;rw [pF];refine Tot.sm (.aC (Mz g aL) λB fB=>.aC (Ξ:=λr:List (List Int)=>r.length=dn.length/\Sets dn.length r) ?_ λr ak=>.al ak);refine Tot.upto (λs=>s.2) dn.length (λk s=>s.1.length=k/\Sets dn.length s.1) rfl (by omega) ⟨rfl,λr h=>by cases h⟩ λk s hk he a'=>?_;obtain ⟨L,i⟩:=s;obtain ⟨h1,af⟩:=a';simp only at he h1 af ⊢;subst he;rw [ek k (by omega)];refine Tot.bA (λaK=>?_) (λdx=>.al ⟨by show L.length=_; omega,af⟩);have aK:k<dn.length:=by omega
 have hJ:=hs.ok _ (List.getElem_mem aK);rw [dT aK];generalize dn[k]=t at *;simp only [Option.bind_some];refine .aC (hJ.go hm) λto BW=>?_;obtain ⟨st,bQ,pT⟩:=lh BW.1 BW.2;have ob:=XP bQ;have sw:=hm.tW st pT;rw [bQ];simp only [Option.bind_some];refine .aC (Ξ:=iJ dn.length) ?_ λr ak=>?_
 ·refine Tot.upto (λs=>s.2) st.cE.length (λk s=>iJ dn.length s.1) rfl (by omega) .nil λj s ag he a'=>?_;obtain ⟨r,i⟩:=s;simp only at he a' ⊢;subst he;rw [ek j (by omega)];refine Tot.bA (λaK=>?_) (λ_=>.al a');have aK:j<st.cE.length:=by omega
  have EY:=List.getElem_mem aK;have hv:=hm.sym aL pT EY;rw [dT aK];generalize st.cE[j]=v at *;simp only [Option.bind_some];refine .aC (Ξ:=iJ dn.length) ?_ λr ak=>.al ⟨aK,rfl,ak⟩;refine .aC (Ξ:=λc:Bool=>c=true->1000<=v.Sym) (Tot.bA (λh=>?_) (λ_=>.al λh=>by cases h)) λc aa=>?_
  ·have hw:aS (v.Sym - 1000)=v.Sym - 1000:=by
    have:=hv.2.2 h;rw [cP]; omega
   rw [hw];obtain ⟨b,ao,_⟩:=lh (l:=B) (i:=v.Sym - 1000) (by omega) (by have:=hv.2.2 h; omega);rw [ao];exact Tot.sm (.al λ_=>h)
  ·refine .aC (Ξ:=iJ dn.length) (Tot.bC (λh=>?_) (λ_=>.al a')) λr ak=>.al ak;have EH:=hs.ho to.toNat st v ob EY (aa h);rw [show ((to.toNat:Nat):Int)=to by omega] at EH;refine .aC (AV dn to v.Sym w8) λz aT=>?_;exact .aC (a'.put (by omega) ⟨aT.2.2 EH,aT.2.1⟩) λr ak=>.al ak.1
 ·refine .aC (Ξ:=λ_=>True) (Tot.ap (by simp [lim]; omega) trivial) λ_ _=>.al ⟨aK,rfl,by simp; omega,Qn af ak⟩
theorem SF (g:bt) (aL:fp g) {m:List State}(hm:jJ g m) {dn:List Trans}(pF:p7 m=some dn) (hs:wj m dn):Tot (CT g m) λr=>r.length=dn.length/\Sets dn.length r:=by
 have au:=aL.iC;have n':=aL.ev;have ze:=aL.k2;have w8:=hs.n;unfold CT;rw [pF];refine Tot.sm (.aC (Mz g aL) λB fB=>.aC (Ξ:=λr=>r=List.replicate dn.length ([]:List Int)) (Tot.mk (by simp [lim]; omega) (by simp)) λabd U8=>.aC (Ξ:=λr:List (List Int)=>r.length=dn.length/\Sets dn.length r) ?_ λr ak=>.al ak);subst U8;have aa8:∀ {L:List (List Int)},(L.length=dn.length/\Sets dn.length L)->∀ {z:Int}{r dr:List Int},idx L z=some r->iJ dn.length dr->(L.set z.toNat dr).length=dn.length/\Sets dn.length (L.set z.toNat dr):=λ{L} ji {z r dr} _ ec=>⟨by rw [List.length_set]; exact ji.1,λx J=>by
  rcases List.mem_or_eq_of_mem_set J with aR | aR
  ·exact ji.2 x aR
  ·rw [aR]; exact ec⟩
 refine Tot.upto (λs=>s.2) dn.length (λk s=>s.1.length=dn.length/\Sets dn.length s.1) rfl (by omega) ⟨by simp,λr h=>by rw [List.eq_of_mem_replicate h]; exact .nil⟩ λk s hk he a'=>?_;obtain ⟨L,i⟩:=s;simp only at he a' ⊢;subst he;rw [ek k (by omega)];refine Tot.bA (λaK=>?_) (λdx=>.al a');have aK:k<dn.length:=by omega
 have hJ:=hs.ok _ (List.getElem_mem aK);rw [dT aK];generalize dn[k]=t at *;simp only [Option.bind_some];refine .aC (Ξ:=λr:List (List Int)=>r.length=dn.length/\Sets dn.length r) ?_ λr ak=>.al ⟨aK,rfl,ak⟩;refine Tot.upto (λs=>s.2) g.a8.length (λk s=>s.1.length=dn.length/\Sets dn.length s.1) rfl (by omega) a' λp s aw he a'=>?_;obtain ⟨L,i⟩:=s;simp only at he a' ⊢;subst he;rw [ek p (by omega)];refine Tot.bA (λEM=>?_) (λdx=>.al a');have EM:p<g.a8.length:=by omega
 have lf:=List.getElem_mem EM;rw [dT EM];generalize g.a8[p]=q at *;have ba:=aL.gN q lf;have zh:=aL.aN q lf;have w6:=PU aL lf fB;simp only [Option.bind_some];refine .aC (Ξ:=λr:List (List Int)=>r.length=dn.length/\Sets dn.length r) ?_ λr ak=>.al ⟨EM,rfl,ak⟩;refine Tot.bC (λ_=>.al a') (λ_=>.aC (Ξ:=λr:List (List Int)=>r.length=dn.length/\Sets dn.length r) ?_ λr ak=>.al ak);refine Tot.upto (λs=>s.2) q.ez.length (λk s=>s.1.length=dn.length/\Sets dn.length s.1) rfl (by omega) a' λj s ag he a'=>?_;obtain ⟨L,i⟩:=s;simp only at he a' ⊢;subst he;rw [ek j (by omega)];refine Tot.bA (λjv=>?_) (λdx=>.al a');have jv:j<q.ez.length:=by omega
 rw [dT jv];generalize q.ez[j]=y at *;simp only [Option.bind_some];refine .aC (Ξ:=λr:List (List Int)=>r.length=dn.length/\Sets dn.length r) ?_ λr ak=>.al ⟨jv,rfl,ak⟩;refine .aC (Ξ:=λ_=>True) (Tot.bA (λ_=>.al trivial) (λ_=>?_)) λc _=>Tot.bC (λ_=>.al a') (λ_=>?_)
 ·refine .aC (Ξ:=λr=>r=q.ez.drop (j+1)) (Tot.sub ⟨by omega,by omega,by omega⟩ ?_) λr ak=>?_
  ·rw [List.take_of_length_le]
   ·congr 1
   ·rw [List.length_drop]; omega
  ·subst ak;exact .aC (MA B _ (by rw [List.length_drop]; omega) (λs av=>w6 s (List.mem_of_mem_drop av)) (by omega)) λ_ _=>.al trivial
 refine .aC (Ξ:=λr=>r.length<=8) (Tot.sub ⟨by omega,by omega,by omega⟩ (by rw [List.length_take,List.length_drop]; omega)) λr ak=>?_;obtain ⟨st,_,bQ,_⟩:=hJ;have Je:=mx bQ;refine .aC (My hm t.State r ⟨by omega,Je.2.1⟩ (by omega)) λz aT=>?_;refine .aC (Ξ:=λr:List (List Int)=>r.length=dn.length/\Sets dn.length r) (Tot.bC (λ_=>?_) (λ_=>.al a')) λr ak=>.al ak;refine .aC (AV dn z y w8) λn aA=>?_;refine .aC (Ξ:=λr:List (List Int)=>r.length=dn.length/\Sets dn.length r) (Tot.bA (λaI=>?_) (λ_=>.al a')) λr ak=>.al ak;obtain ⟨z6,zf,Jd⟩:=lh (l:=L) aI (by rw [a'.1]; exact aA.2.1);rw [zf];refine Tot.sm (.aC ((a'.2 z6 Jd).put (by omega) ⟨by omega,by omega⟩) λdr ec=>.al (aa8 a' zf ec.1))
theorem SA (g:bt) (aL:fp g) {m:List State}(hm:jJ g m):Tot (zL g m) λr=>∃ dn,p7 m=some dn/\wj m dn/\r.length=dn.length/\Sets g.aX.length r:=by
 have au:=aL.iC;unfold zL;refine .aC (SE g aL hm) λox h1=>?_;obtain ⟨dn,pF,hs,IY,w7⟩:=h1;have w8:=hs.n;refine .aC (AT g aL hm pF hs) λiW af=>.aC (wz g.aX.length (by omega) ox iW (by omega) (by omega) w7 (by rw [IY]; exact af.2)) λqW aF=>?_;refine .aC (SF g aL hm pF hs) λo6 bk=>.aC (wz g.aX.length (by omega) qW o6 (by omega) (by omega) aF.2 (by rw [aF.1,IY]; exact bk.2)) λz7 b2=>?_;exact .al ⟨dn,pF,hs,by omega,b2.2⟩
def qv (g:bt) (p:Int):Prop:=0<p/\p<g.a8.length
theorem tf (g:bt) (aL:fp g) (K:List Item) (ah:K.length<=1000000):Tot (CJ g K) λr=>r.length<=540/\∀ p∈r,qv g p:=by
 unfold CJ;refine .aC (D8 g aL K ah) λc aa=>?_;have hZ:=r' aL aa.1 λx J=>((aa.2 x).1 J).gu;refine .aC (Ξ:=λr:List Int=>r.length<=540/\∀ p∈r,qv g p) ?_ λr ak=>.al ak;refine Tot.upto (λs=>s.2) c.length (λk s=>s.1.length<=k/\∀ p∈s.1,qv g p) rfl (by omega) ⟨Nat.le_refl 0,λp h=>by cases h⟩ λk s hk he a'=>?_;obtain ⟨L,i⟩:=s;obtain ⟨h1,af⟩:=a';simp only at he h1 af ⊢;subst he;rw [ek k (by omega)];refine Tot.bA (λaK=>?_) (λdx=>.al ⟨by show L.length<=_; omega,af⟩);have aK:k<c.length:=by omega
 have hi:=((aa.2 _).1 (List.getElem_mem aK)).gu;rw [dT aK];generalize c[k]=x at *;obtain ⟨q,ba,aF,bk⟩:=hi;simp only [Option.bind_some];refine .aC (Ξ:=λL:List Int=>L.length<=k+1/\∀ p∈L,qv g p) ?_ λr ak=>.al ⟨aK,rfl,ak⟩;refine .aC (Ξ:=λc:Bool=>c=true->0<x.Prod) (Tot.bA (λh=>?_) (λ_=>.al λh=>by cases h)) λc aa=>?_
 ·rw [ba]; exact Tot.sm (.al λ_=>h)
 refine .aC (Ξ:=λL:List Int=>L.length<=k+1/\∀ p∈L,qv g p) (Tot.bC (λh=>?_) (λ_=>.al ⟨by omega,af⟩)) λr ak=>.al ak;refine .aC (Ξ:=λ_=>True) (Tot.ap (by simp [lim]; omega) trivial) λ_ _=>.al ⟨by simp; omega,λp aw=>?_⟩;rcases List.mem_append.1 aw with aw | aw
 ·exact af p aw
 ·rw [List.mem_singleton.1 aw]; exact ⟨aa h,(mx ba).2.1⟩
theorem SB (g:bt) (aL:fp g) {m:List State}(hm:jJ g m) {dn:List Trans}(pF:p7 m=some dn) (hs:wj m dn) (q p:Int):Tot (CK g m q p) λr=>r.length<=9600/\∀ x∈r,0<=x/\x<dn.length:=by
 have w8:=hs.n;have ze:=aL.k2;have n':=aL.ev;unfold CK;refine .aC (Ξ:=λc:Bool=>c=false->0<=p/\p<g.a8.length) (Tot.bA (λ_=>.al λh=>by cases h) (λ_=>Tot.bA (λ_=>.al λh=>by cases h) (λ_=>Tot.bA (λ_=>.al λh=>by cases h) (λh=>.al λaR=>by have:=of_decide_eq_false aR; omega)))) λc aa=>Tot.bC (λ_=>.al ⟨Nat.zero_le _,λx h=>by cases h⟩) (λh=>?_);obtain ⟨aI,h1⟩:=aa h;rw [pF];refine Tot.sm ?_;refine .aC (Ξ:=λr:List Int=>r.length<=9600/\∀ x∈r,0<=x/\x<dn.length) ?_ λr ak=>.al ak;obtain ⟨gN,Ja,WR⟩:=lh aI h1;have zh:=aL.aN gN WR;refine Tot.upto (λs=>s.2) dn.length (λk s=>s.1.length<=k/\∀ x∈s.1,0<=x/\x<dn.length) rfl (by omega) ⟨Nat.le_refl 0,λp h=>by cases h⟩ λk s hk he a'=>?_;obtain ⟨L,i⟩:=s;obtain ⟨af,aF⟩:=a';simp only at he af aF ⊢;subst he;rw [ek k (by omega)];refine Tot.bA (λaK=>?_) (λdx=>.al ⟨by show L.length<=_; omega,aF⟩);have aK:k<dn.length:=by omega
 have hJ:=hs.ok _ (List.getElem_mem aK);rw [dT aK,Ja];generalize dn[k]=t at *;obtain ⟨st,_,bQ,_⟩:=hJ;have Je:=mx bQ;simp only [Option.bind_some];refine .aC (Ξ:=λL:List Int=>L.length<=k+1/\∀ x∈L,0<=x/\x<dn.length) ?_ λr ak=>.al ⟨aK,rfl,ak⟩;refine .aC (Ξ:=λ_=>True) (Tot.bA (λh=>?_) (λ_=>.al trivial)) λc aa=>?_
 ·exact .aC (My hm t.State gN.ez ⟨by omega,Je.2.1⟩ (by omega)) λ_ _=>.al trivial
 refine .aC (Ξ:=λL:List Int=>L.length<=k+1/\∀ x∈L,0<=x/\x<dn.length) (Tot.bC (λh=>?_) (λ_=>.al ⟨by omega,aF⟩)) λr ak=>.al ak;refine .aC (Ξ:=λ_=>True) (Tot.ap (by simp [lim]; omega) trivial) λ_ _=>.al ⟨by simp; omega,λp aw=>?_⟩;rcases List.mem_append.1 aw with aw | aw
 ·exact aF p aw
 ·rw [List.mem_singleton.1 aw]; exact ⟨by omega,by omega⟩
structure yu (g:bt) (l:kJ):Prop where
 p:qv g l.Prod
 t:iJ g.aX.length l.aX
theorem te (g:bt) (aL:fp g) {m:List State}(hm:jJ g m):Tot (CE g m) λr=>r.length<=81000/\∀ l∈r,yu g l:=by
 have au:=aL.iC;have qG:=hm.h3;unfold CE;refine .aC (SA g aL hm) λF aE=>?_;obtain ⟨dn,pF,hs,adv,iO⟩:=aE;have w8:=hs.n;refine .aC (Ξ:=λr:List kJ=>r.length<=81000/\∀ l∈r,yu g l) ?_ λr ak=>.al ak;refine Tot.upto (λs=>s.2) m.length (λk s=>s.1.length<=540 * k/\∀ l∈s.1,yu g l) rfl (by omega) ⟨Nat.le_refl 0,λp h=>by cases h⟩ λk s hk he a'=>?_;obtain ⟨L,i⟩:=s;obtain ⟨h1,af⟩:=a';simp only at he h1 af ⊢;subst he;rw [ek k (by omega)];refine Tot.bA (λaK=>?_) (λdx=>.al ⟨by show L.length<=_; omega,af⟩);have aK:k<m.length:=by omega
 have dk:=hm.o1 _ (List.getElem_mem aK);rw [dT aK];generalize m[k]=st at *;refine Tot.sm (.aC (tf g aL st.Kernel (by have:=dk.len aL; omega)) λE kS=>?_);obtain ⟨ads,UT⟩:=kS;refine .aC (Ξ:=λL:List kJ=>L.length<=540 * (k+1)/\∀ l∈L,yu g l) ?_ λr ak=>.al ⟨aK,rfl,ak⟩;refine Tot.upto (λs=>s.2) E.length (λj s=>s.1.length<=540 * k+j/\∀ l∈s.1,yu g l) rfl (by omega) ⟨h1,af⟩ λj s ag he a'=>?_;obtain ⟨L,i⟩:=s;obtain ⟨h1,af⟩:=a';simp only at he h1 af ⊢;subst he;rw [ek j (by omega)];refine Tot.bA (λjv=>?_) (λdx=>.al ⟨by show L.length<=_; omega,af⟩);have jv:j<E.length:=by omega
 have aw:=UT _ (List.getElem_mem jv);rw [dT jv];generalize E[j]=p at *;simp only [Option.bind_some];refine .aC (SB g aL hm pF hs k p) λB fB=>?_;obtain ⟨adr,UR⟩:=fB;refine .aC (Ξ:=iJ g.aX.length) ?_ λS a_=>?_
 ·refine Tot.upto (λs=>s.2) B.length (λ_ s=>iJ g.aX.length s.1) rfl (by omega) .nil λb s ao he a'=>?_;obtain ⟨S,i⟩:=s;simp only at he a' ⊢;subst he;rw [ek b (by omega)];refine Tot.bA (λzb=>?_) (λdx=>.al a');have zb:b<B.length:=by omega
  have J:=UR _ (List.getElem_mem zb);rw [dT zb];generalize B[b]=x at *;obtain ⟨row,jw,Jd⟩:=lh (l:=F) J.1 (by omega);have mw:=iO row Jd;have u4:=mw.len;simp only [Option.bind_some,jw];refine .aC (Ξ:=iJ g.aX.length) ?_ λS a_=>.al ⟨zb,rfl,a_⟩;refine Tot.upto (λs=>s.2) row.length (λ_ s=>iJ g.aX.length s.1) rfl (by omega) a' λz s aT he a'=>?_;obtain ⟨S,i⟩:=s;simp only at he a' ⊢;subst he;rw [ek z (by omega)];refine Tot.bA (λpQ=>?_) (λdx=>.al a');have pQ:z<row.length:=by omega
  rw [dT pQ];exact Tot.sm (.aC (a'.put (by omega) (mw.i _ (List.getElem_mem pQ))) λr ak=>.al ⟨pQ,rfl,ak.1⟩)
 ·refine .aC (Ξ:=λ_=>True) (Tot.ap (by simp [lim]; omega) trivial) λ_ _=>.al ⟨jv,rfl,by simp; omega,λl ah=>?_⟩;rcases List.mem_append.1 ah with ah | ah
  ·exact af l ah
  ·rw [List.mem_singleton.1 ah]; exact ⟨aw,a_⟩
def Dp (c:Cell):Nat:=c.a8.length+(if 0<=c.jc then 1 else 0)+(if c.lu then 1 else 0)
theorem aao {x:Option Int}{c:Cell}(ah:c.a8.length<=1000) (e:x=(((bif decide (0<=c.jc) then
some (aS ((c.a8.length:Int)+1))
else
some (c.a8.length:Int))).bind λiU =>
((bif c.lu then
some (aS (iU+1))
else
some iU)).bind λhU =>
some hU)):x=some (Dp c:Int):=by
 subst e;have hw:aS ((c.a8.length:Int)+1)=(c.a8.length:Int)+1:=by rw [cP]; omega
 have tL:aS ((c.a8.length:Int)+1+1)=(c.a8.length:Int)+1+1:=by rw [cP]; omega
 unfold Dp;by_cases h:0<=c.jc
 ·cases af:c.lu <;> simp [h,hw,tL]
 ·cases af:c.lu <;> simp [h,hw]
theorem TL (c:Cell) (ah:c.a8.length<=1000):CI c=some (Dp c:Int):=aao ah (by unfold CI; rfl)
structure mJ (g:bt) (n:Nat) (c:Cell):Prop where
 s:0<=c.State/\c.State<n
 t:0<=c.Tok/\c.Tok<g.aX.length
 f:-1<=c.jc/\c.jc<n
 p:fo ib c.a8
 q:∀ p∈c.a8,qv g p
 aak:0<Dp c
theorem mJ.len {g:bt}(aL:fp g) {n:Nat}{c:Cell}(h:mJ g n c):c.a8.length<=60:=by
 have:=aL.k2;have:=iJ.len (T:=g.a8.length) ⟨h.p,λx J=>⟨by have:=(h.q x J).1; omega,(h.q x J).2⟩⟩;omega
def v_ (a b:Cell):Prop:=a.State<b.State\/(a.State=b.State/\a.Tok<b.Tok)
structure DE (g:bt) (n:Nat) (l:List Cell):Prop where
 ok:∀ c∈l,mJ g n c
 YA:l.Pairwise v_
 n:l.length<=6000
theorem py (g:bt) (aL:fp g) {m:List State}(hm:jJ g m) (vq:List kJ) (ah:vq.length<=81000) (hk:∀ l∈vq,yu g l):Tot (CD g m vq) (DE g m.length):=by
 have au:=aL.iC;have qG:=hm.h3;have ze:=aL.k2;unfold CD;refine .aC (Ξ:=DE g m.length) ?_ λr ak=>.al ak;refine Tot.upto (λs=>s.2) m.length (λk s=>s.1.length<=40 * k/\(∀ c∈s.1,mJ g m.length c)/\s.1.Pairwise v_/\∀ c∈s.1,c.State<k) rfl (by omega) ⟨Nat.le_refl 0,λp h=>(by cases h),.nil,λp h=>by cases h⟩ λk s EK he a'=>?_;obtain ⟨L,i⟩:=s;obtain ⟨h1,af,aF,bk⟩:=a';simp only at he h1 af aF bk ⊢;subst he;rw [ek k (by omega)];refine Tot.bA (λaK=>?_) (λdx=>.al ⟨af,aF,by show L.length<=_; omega⟩);have aK:k<m.length:=by omega
 have dk:=hm.o1 _ (List.getElem_mem aK);rw [dT aK];generalize m[k]=st at *;have adx:=dk.len aL;refine .aC (Ξ:=λL:List Cell=>L.length<=40 * (k+1)/\(∀ c∈L,mJ g m.length c)/\L.Pairwise v_/\∀ c∈L,c.State<(k+1:Nat)) ?_ λr ak=>.al ⟨aK,rfl,ak⟩;refine Tot.upto (λs=>s.2) g.aX.length (λj s=>s.1.length<=40 * k+j/\(∀ c∈s.1,mJ g m.length c)/\s.1.Pairwise v_/\∀ c∈s.1,c.State<k\/(c.State=k/\c.Tok<j)) rfl (by omega) ⟨h1,af,aF,λc aa=>.inl (bk c aa)⟩ λj s ag he a'=>?_;obtain ⟨L,i⟩:=s;obtain ⟨h1,af,aF,bk⟩:=a';simp only at he h1 af aF bk ⊢;subst he;rw [ek j (by omega)];refine Tot.bA (λjv=>?_) (λdx=>.al ⟨by show L.length<=_; omega,af,aF,λc aa=>by rcases bk c aa with h | h <;> omega⟩);refine .aC (Ξ:=λL:List Cell=>L.length<=40 * k+(j+1)/\(∀ c∈L,mJ g m.length c)/\L.Pairwise v_/\∀ c∈L,c.State<k\/(c.State=k/\c.Tok<(j+1:Nat))) ?_ λr ak=>.al ⟨by omega,rfl,ak⟩;refine .aC (D7 m k j hm.tW) λsh EV=>?_;have WZ:=EV.aG hm;refine .aC (Ξ:=λ_=>True) ?_ λac _=>?_
 ·refine Tot.upto (λs=>s.2) st.Kernel.length (λ_ _=>True) rfl (by omega) trivial λz s aT he _=>?_;obtain ⟨b,i⟩:=s;simp only at he ⊢;subst he;rw [ek z (by omega)];simp only [Option.bind_some];refine Tot.bA (λpQ=>?_) (λ_=>.al trivial);have pQ:z<st.Kernel.length:=by omega
  rw [dT pQ];simp only [Option.bind_some];refine .aC (Ξ:=λ_=>True) (Tot.bC (λ_=>.al trivial) (λ_=>Tot.bA (λ_=>Tot.bA (λ_=>.al trivial) (λ_=>.al trivial)) (λ_=>.al trivial))) λ_ _=>.al ⟨pQ,rfl,trivial⟩
 refine .aC (Ξ:=λP:List Int=>fo ib P/\∀ p∈P,qv g p) ?_ λP cX=>?_
 ·refine Tot.upto (λs=>s.2) vq.length (λ_ s=>fo ib s.1/\∀ p∈s.1,qv g p) rfl (by omega) ⟨.nil,λp h=>by cases h⟩ λz s aT he a'=>?_;obtain ⟨P,i⟩:=s;obtain ⟨g1,g2⟩:=a';simp only at he g1 g2 ⊢;subst he;rw [ek z (by omega)];refine Tot.bA (λpQ=>?_) (λdx=>.al ⟨g1,g2⟩);have pQ:z<vq.length:=by omega
  have ji:=hk _ (List.getElem_mem pQ);rw [dT pQ];generalize vq[z]=l at *;have Jh:=ji.t.len;have Ex:=iJ.len (T:=g.a8.length) ⟨g1,λx J=>⟨by have:=(g2 x J).1; omega,(g2 x J).2⟩⟩;simp only [Option.bind_some];refine .aC (Ξ:=λP:List Int=>fo ib P/\∀ p∈P,qv g p) ?_ λr ak=>.al ⟨pQ,rfl,ak⟩;refine .aC (Ξ:=λ_=>True) (Tot.bA (λ_=>.aC (sc l.aX j (by omega)) λ_ _=>.al trivial) (λ_=>.al trivial)) λc _=>?_;refine .aC (Ξ:=λP:List Int=>fo ib P/\∀ p∈P,qv g p) (Tot.bC (λ_=>?_) (λ_=>.al ⟨g1,g2⟩)) λr ak=>.al ak;refine .aC (Hg P l.Prod g1 (by omega)) λr ak=>.al ⟨ak.1,λp aw=>?_⟩;rcases (ak.2.2 p).1 aw with h | rfl
  ·exact g2 p h
  ·exact ji.p
 ·have Ex:=iJ.len (T:=g.a8.length) ⟨cX.1,λx J=>⟨by have:=(cX.2 x J).1; omega,(cX.2 x J).2⟩⟩;rw [TL _ (by show P.length<=_; omega)];refine Tot.sm (.aC (Ξ:=λL:List Cell=>L.length<=40 * k+(j+1)/\(∀ c∈L,mJ g m.length c)/\L.Pairwise v_/\∀ c∈L,c.State<k\/(c.State=k/\c.Tok<(j+1:Nat))) (Tot.bA (λaI=>?_) (λ_=>.al ⟨by omega,af,aF,λc aa=>by rcases bk c aa with h | h <;> omega⟩)) λr ak=>.al ak);refine .aC (Ξ:=λ_=>True) (Tot.ap (by simp [lim]; omega) trivial) λ_ _=>.al ⟨by simp; omega,λc aa=>?_,List.pairwise_append.2 ⟨aF,List.pairwise_singleton ..,λa aQ b ao=>?_⟩,λc aa=>?_⟩
  ·rcases List.mem_append.1 aa with aa | aa
   ·exact af c aa
   ·rw [List.mem_singleton.1 aa];exact ⟨⟨by show (0:Int)<=k; omega,by show (k:Int)<_; omega⟩,⟨by show (0:Int)<=j; omega,by show (j:Int)<_; omega⟩,WZ,cX.1,cX.2,by omega⟩
  ·rw [List.mem_singleton.1 ao];rcases bk a aQ with h | h
   ·exact .inl h
   ·exact .inr h
  ·rcases List.mem_append.1 aa with aa | aa
   ·rcases bk c aa with h | h
    ·exact .inl h
    ·exact .inr ⟨h.1,by omega⟩
   ·rw [List.mem_singleton.1 aa];exact .inr ⟨rfl,by show (j:Int)<_; omega⟩
open Go Go.Own
theorem h8.Yj {m:e'}{T L:Nat}(h:h8 m T L):kK m (3+T) m.bX.length 0 0 :=
 ⟨h.gg,h.lo,h.hi,by have:=h.ty; omega,rfl,by rw [h.gR]; decide,by rw [h.gN]; exact Nat.le_refl 0,by rw [h.gN]; exact λp aw=>absurd aw (by simp),h.lvl,h.jl⟩
theorem t48 (s:Source) (ao:s7 s):Tot (vC s) λr=>r.2.1=0->fp r.1:=by
 unfold vC;refine .aC (t72 s ao) λc aa=>Tot.bC (λ_=>.al λh=>absurd h (by decide)) (λlD=>?_);have ok:LQ s:=aa (by simpa using lD);refine .aC (Tot.mk (by decide) (rfl:List.replicate (3:Int).toNat false=List.replicate (3:Int).toNat false)) λa6 kz=>?_;have V_:=ao.yP;have zh:=ao.aN
 -- declarations
 refine Tot.aC (Ξ:=λr=>h8 r.1 (1001 * 1000) 0) ?_ λcv b2=>?_
 ·refine Tot.count (λz=>z.2.2) s.Decls.length (λz=>0<=z.2.2/\z.2.2<=s.Decls.length/\h8 z.1 (1001 * z.2.2.toNat) 0/\z.1.b_<=z.2.2) ⟨Int.le_refl 0,by show (0:Int)<=_; omega,⟨by show a6.length=3; rw [<- kz]; rfl,Nat.le_refl 3,Nat.le_refl 3,Nat.le_refl 0,Nat.le_refl 0,rfl,rfl,Int.le_refl 0,by show ∀ t∈[_,_,_],0<=Tok.Level t; simp⟩,Int.le_refl 0⟩ (by show (s.Decls.length:Int) - 0<_; omega) λz aT=>?_;obtain ⟨m,st,i⟩:=z;obtain ⟨aI,h1,hm,m'⟩:=aT;simp only at aI h1 hm m' ⊢;have hw:aS (i+1)=i+1:=by rw [cP]; omega
  rw [hw];have za:=hm.lvl;refine Tot.bA (λaK=>?_) (λ_=>.al (hm.mono (by omega) (Nat.le_refl _)));refine .aC (Tot.gX (Φ:=λy=>y∈s.Decls) aI aK λy _ ai=>ai) λd aP=>?_;have si:=ao.decls d aP;have Bv:=si.n;refine .aC (Ξ:=λ_=>True) (Tot.bC (λ_=>.al trivial) (λ_=>.al trivial)) λabm _=>.aC (Ξ:=λj=>0<=j/\j<=i+1) (Tot.bC (λ_=>.al (by rw [cP]; omega)) (λ_=>.al (by omega))) λjz wJ=>?_;refine Tot.aC (Ξ:=λr=>h8 r.1 (1001 * i.toNat+1000) 0/\r.1.b_<=i+1) ?_ λdM uO=>.al ⟨⟨?_,?_,?_,?_⟩,?_,?_⟩
  ·refine Tot.count (λz=>z.2.2) d.eJ.length (λz=>0<=z.2.2/\z.2.2<=d.eJ.length/\h8 z.1 (1001 * i.toNat+z.2.2.toNat) 0/\z.1.b_<=i+1) ⟨Int.le_refl 0,by show (0:Int)<=_; omega,⟨hm.gg,hm.lo,hm.hi,hm.ty,hm.eY,hm.gN,hm.gR,wJ.1,hm.jl⟩,wJ.2⟩ (by show (d.eJ.length:Int) - 0<_; omega) λz aT=>?_;obtain ⟨m,st,k⟩:=z;obtain ⟨g0,g1,hm,m'⟩:=aT;simp only at g0 g1 hm m' ⊢;have tM:aS (k+1)=k+1:=by rw [cP]; omega
   rw [tM];refine Tot.bA (λwX=>?_) (λ_=>.al ⟨hm.mono (by omega) (Nat.le_refl _),m'⟩);have E9:Tot (idx d.eJ k) λy=>y∈d.eJ:=Tot.gX g0 wX λy _ ai=>ai;refine Tot.aC (Ξ:=λj=>h8 j.1 (1001 * i.toNat+k.toNat+1) 0/\j.1.b_<=i+1) ?_ λj ag=>.al ⟨⟨?_,?_,?_,ag.2⟩,?_,?_⟩
   ·refine Tot.bC (λ_=>?_) (λ_=>?_)
    ·refine .aC E9 λx J=>.aC (t73 m d x hm.gg (by have:=hm.hi; omega) (by have:=hm.ty; omega) (ok.decls d aP x J)) λbn aL=>.al ⟨hm.grow aL,by show bn.b_<=_; rw [aL.lvl]; exact m'⟩
    ·refine Tot.aC (Ξ:=λj=>h8 j (1001 * i.toNat+k.toNat+1) 0/\j.b_<=i+1) ?_ λj ag=>.aC E9 λ_ _=>.al ag;refine Tot.bC (λ_=>?_) (λ_=>.al ⟨hm.mono (by omega) (Nat.le_refl _),m'⟩);exact .aC E9 λ_ _=>.aC E9 λ_ _=>.aC (t74 m _ _) λbn hT=>.al ⟨(hm.same hT.1).mono (by omega) (Nat.le_refl _),by rw [hT.1.jl]; exact m'⟩
   ·show 0<=k+1; omega
   ·show k+1<=(d.eJ.length:Int); omega
   ·show h8 j.1 (1001 * i.toNat+(k+1).toNat) 0;exact ag.1.mono (by omega) (Nat.le_refl _)
   ·show k<k+1; omega
   ·show k+1<=(d.eJ.length:Int); omega
  ·show 0<=i+1; omega
  ·show i+1<=(s.Decls.length:Int); omega
  ·show h8 dM.1 (1001 * (i+1).toNat) 0;exact uO.1.mono (by omega) (Nat.le_refl _)
  ·exact uO.2
  ·show i<i+1; omega
  ·show i+1<=(s.Decls.length:Int); omega
 -- what stands on the left
 refine Tot.aC (Ξ:=λr=>h8 r (1001 * 1000) 1000) ?_ λcy HV=>?_
 ·refine Tot.count (λz=>z.2) s.ef.length (λz=>0<=z.2/\z.2<=s.ef.length/\h8 z.1 (1001 * 1000) z.2.toNat) ⟨Int.le_refl 0,by show (0:Int)<=_; omega,b2⟩ (by show (s.ef.length:Int) - 0<_; omega) λz aT=>?_;obtain ⟨m,i⟩:=z;obtain ⟨aI,h1,hm⟩:=aT;simp only at aI h1 hm ⊢;have hw:aS (i+1)=i+1:=by rw [cP]; omega
  rw [hw];refine Tot.bA (λaK=>?_) (λ_=>.al (hm.mono (Nat.le_refl _) (by omega)));have u0:=hm.hi;have u1:=hm.eY;refine Tot.aC (Ξ:=λj=>h8 j (1001 * 1000) (i.toNat+1)) ?_ λj ag=>.al ⟨⟨?_,?_,?_⟩,?_,?_⟩
  ·refine .aC (Tot.gX (Φ:=λ_=>True) aI aK λy _ ai=>trivial) λr ak=>.aC (t75 m _ (by simp only [kP]; omega)) λt _=>?_;refine Tot.aC (Ξ:=λj=>h8 j (1001 * 1000) i.toNat) ?_ λgK oO=>?_
   ·exact Tot.bC (λ_=>.aC (t74 m _ _) λbn hT=>.al (hm.same hT.1)) (λ_=>.al hm)
   ·have adZ:=oO.eY;refine .aC (t76 gK _ (by simp only [kP]; omega)) λk _=>?_;refine Tot.aC (Ξ:=λl=>l.length<=i.toNat+1) ?_ λl ah=>.al ⟨oO.gg,oO.lo,oO.hi,oO.ty,ah,oO.gN,oO.gR,oO.lvl,oO.jl⟩;refine Tot.bC (λ_=>?_) (λ_=>.al (by omega));exact .aC (Ξ:=λ_=>True) (Tot.ap (by simp [lim]; omega) trivial) λ_ _=>.al (by simp; omega)
  ·show 0<=i+1; omega
  ·show i+1<=(s.ef.length:Int); omega
  ·show h8 j (1001 * 1000) (i+1).toNat;exact ag.mono (Nat.le_refl _) (by omega)
  ·show i<i+1; omega
  ·show i+1<=(s.ef.length:Int); omega
 -- types and starts
 refine Tot.aC (Ξ:=λr=>h8 r (1001 * 1000) 1000) ?_ λgb tn=>?_
 ·refine Tot.count (λz=>z.2) s.Decls.length (λz=>0<=z.2/\z.2<=s.Decls.length/\h8 z.1 (1001 * 1000) 1000) ⟨Int.le_refl 0,by show (0:Int)<=_; omega,HV⟩ (by show (s.Decls.length:Int) - 0<_; omega) λz aT=>?_;obtain ⟨m,i⟩:=z;obtain ⟨aI,h1,hm⟩:=aT;simp only at aI h1 hm ⊢;have hw:aS (i+1)=i+1:=by rw [cP]; omega
  rw [hw];refine Tot.bA (λaK=>?_) (λ_=>.al hm);refine Tot.aC (Ξ:=λr=>h8 r (1001 * 1000) 1000) ?_ λqg Uw=>.al ⟨⟨?_,?_,Uw⟩,?_,?_⟩
  ·have oT:i.toNat<s.Decls.length:=by omega
   have hi:idx s.Decls i=some s.Decls[i.toNat]:=by simp [idx,aI,oT]
   rw [hi];generalize aP:s.Decls[i.toNat]=d;have ju:d∈s.Decls:=by rw [<- aP]; exact List.getElem_mem oT
   have Bv:=(ao.decls d ju).n;refine Tot.count (λz=>z.2) d.eJ.length (λz=>0<=z.2/\z.2<=d.eJ.length/\h8 z.1 (1001 * 1000) 1000) ⟨Int.le_refl 0,by show (0:Int)<=_; omega,hm⟩ (by show (d.eJ.length:Int) - 0<_; omega) λz aT=>?_;obtain ⟨m,k⟩:=z;obtain ⟨g0,g1,hm⟩:=aT;simp only at g0 g1 hm ⊢;have tM:aS (k+1)=k+1:=by rw [cP]; omega
   rw [tM];refine Tot.sm (Tot.bA (λwX=>?_) (λ_=>.al hm));have u1:=hm.eY;refine Tot.aC (Ξ:=λj=>h8 j (1001 * 1000) 1000) ?_ λj ag=>.al ⟨⟨?_,?_,ag⟩,?_,?_⟩
   ·refine Tot.sm (.aC (Tot.gX (Φ:=λ_=>True) g0 wX λ_ _ _=>trivial) λx _=>?_);refine .aC (Ξ:=λ_=>True) (Tot.sm (Tot.bC (λ_=>.aC (t76 m _ (by simp only [kP]; omega)) λ_ _=>.al trivial) (λ_=>.al trivial))) λc _=>?_;refine Tot.aC (Ξ:=λj=>h8 j (1001 * 1000) 1000) ?_ λj ag=>.al ag;exact Tot.bC (λ_=>.aC (t74 m _ _) λbn hT=>.al (hm.same hT.1)) (λ_=>.al hm)
   ·show 0<=k+1; omega
   ·show k+1<=(d.eJ.length:Int); omega
   ·show k<k+1; omega
   ·show k+1<=(d.eJ.length:Int); omega
  ·show 0<=i+1; omega
  ·show i+1<=(s.Decls.length:Int); omega
  ·show i<i+1; omega
  ·show i+1<=(s.Decls.length:Int); omega
 -- the start
 have oU:=ok.pos;refine Tot.aC (Ξ:=λ_=>True) (Tot.bC (λ_=>.aC (Ξ:=λ_=>True) (Tot.gX (by decide) (by omega) λ_ _ _=>trivial) λ_ _=>.al trivial) (λ_=>.al trivial)) λxq _=>?_;have ad0:=tn.eY;refine .aC (t76 gb xq (by simp only [kP]; omega)) λj2 mU=>?_;have UE:-1<=j2/\j2<gb.bX.length:=by rcases mU with h | h <;> omega
 -- the alternatives
 have ji:gb.bX.length<=1000:=tn.eY;generalize U_:gb.bX.length=L at ji UE;refine Tot.aC (Ξ:=λr=>kK r (3+1001 * 1000+1001 * 1000000) L (1001 * 1000000) (1+1001 * 1000000)/\1<=r.az.a8.length) ?_ λbm UF=>?_
 ·have tH:=tn.Yj;rw [U_] at tH;refine Tot.count (λz=>z.2) s.ef.length (λz=>0<=z.2/\z.2<=s.ef.length/\kK z.1 (3+1001 * 1000+1001 * (1000 * z.2.toNat)) L (1001 * (1000 * z.2.toNat)) (1+1001 * (1000 * z.2.toNat))/\1<=z.1.az.a8.length) ⟨Int.le_refl 0,by show (0:Int)<=_; omega,⟨tH.gg,tH.lo,tH.hi,tH.ty,tH.eY,tH.gR,Nat.le_refl 1,λp aw=>?_,tH.lvl,tH.jl⟩,Nat.le_refl 1⟩ (by show (s.ef.length:Int) - 0<_; omega) λz aT=>?_
  ·rw [List.mem_singleton.1 aw];have adQ:=tn.gR;have lF:=tn.lo;refine ⟨⟨Int.le_refl 0,by show (0:Int)<=L+gb.bU; omega⟩,λy ai=>?_,⟨by show (-1:Int)<=-1; omega,by show (-1:Int)<_; omega⟩,λy ai=>absurd ai (by simp),Nat.zero_le _⟩;have ai:y∈[aS (1001+j2)]:=ai;rw [List.mem_singleton.1 ai];have:aS (1001+j2)=1001+j2:=by rw [cP]; omega
   rw [this];exact .inr (by show 1000<=1001+j2/\1001+j2<=1000+((L:Int)+gb.bU); omega)
  ·obtain ⟨m,i⟩:=z;obtain ⟨aI,h1,hm,sx⟩:=aT;simp only at aI h1 hm sx ⊢;have hw:aS (i+1)=i+1:=by rw [cP]; omega
   rw [hw];refine Tot.bA (λaK=>?_) (λ_=>.al ⟨hm.mono (by omega) (by omega) (by omega),sx⟩);refine Tot.aC (Ξ:=λr=>kK r (3+1001 * 1000+1001 * (1000 * (i.toNat+1))) L (1001 * (1000 * (i.toNat+1))) (1+1001 * (1000 * (i.toNat+1)))/\1<=r.az.a8.length) ?_ λjn Er=>.al ⟨⟨?_,?_,?_,Er.2⟩,?_,?_⟩
   ·have oT:i.toNat<s.ef.length:=by omega
    have hi:idx s.ef i=some s.ef[i.toNat]:=by simp [idx,aI,oT]
    rw [hi];generalize aP:s.ef[i.toNat]=d;have ju:d∈s.ef:=by rw [<- aP]; exact List.getElem_mem oT
    have Bv:=(ao.rules d ju).n;refine Tot.count (λz=>z.2) d.fm.length (λz=>0<=z.2/\z.2<=d.fm.length/\kK z.1 (3+1001 * 1000+1001 * (1000 * i.toNat+z.2.toNat)) L (1001 * (1000 * i.toNat+z.2.toNat)) (1+1001 * (1000 * i.toNat+z.2.toNat))/\1<=z.1.az.a8.length) ⟨Int.le_refl 0,by show (0:Int)<=_; omega,hm,sx⟩ (by show (d.fm.length:Int) - 0<_; omega) λz aT=>?_;obtain ⟨m,k⟩:=z;obtain ⟨g0,g1,hm,sx⟩:=aT;simp only at g0 g1 hm sx ⊢;have tM:aS (k+1)=k+1:=by rw [cP]; omega
    rw [tM];refine Tot.sm (Tot.bA (λwX=>?_) (λ_=>.al ⟨hm.mono (by omega) (by omega) (by omega),sx⟩));refine Tot.sm (Tot.sm (.aC (Tot.gX (Φ:=λy=>y∈d.fm) g0 wX λ_ _ h=>h) λa aQ=>?_));refine .aC (t77 m d.Left a hm (by omega) (by omega) (by omega) (by omega) ((ao.rules d ju).alts a aQ) (ok.rules d ju a aQ)) λbn hT=>.al ⟨⟨?_,?_,?_,hT.2⟩,?_,?_⟩
    ·show 0<=k+1; omega
    ·show k+1<=(d.fm.length:Int); omega
    ·show kK bn (3+1001 * 1000+1001 * (1000 * i.toNat+(k+1).toNat)) L (1001 * (1000 * i.toNat+(k+1).toNat)) (1+1001 * (1000 * i.toNat+(k+1).toNat));exact hT.1.mono (by omega) (by omega) (by omega)
    ·show k<k+1; omega
    ·show k+1<=(d.fm.length:Int); omega
   ·show 0<=i+1; omega
   ·show i+1<=(s.ef.length:Int); omega
   ·show kK jn (3+1001 * 1000+1001 * (1000 * (i+1).toNat)) L (1001 * (1000 * (i+1).toNat)) (1+1001 * (1000 * (i+1).toNat));exact Er.1.mono (by omega) (by omega) (by omega)
   ·show i<i+1; omega
   ·show i+1<=(s.ef.length:Int); omega
 obtain ⟨nE,UG⟩:=UF;refine Tot.oJ (λh=>.al λaR=>absurd aR h) (λhe=>?_);have adl:=nE.eY;have adj:=nE.hi;have adn:=nE.ty;have adk:=nE.gR;have adm:=nE.zY
 -- nonterminals
 refine Tot.aC (Ξ:=λl=>l.length=1+L) ?_ λq7 HY=>?_
 ·refine Tot.count (λz=>z.2) bm.bX.length (λz=>0<=z.2/\z.2<=bm.bX.length/\z.1.length=1+z.2.toNat) ⟨Int.le_refl 0,by show (0:Int)<=_; omega,rfl⟩ (by show (bm.bX.length:Int) - 0<_; omega) λz aT=>?_;obtain ⟨l,i⟩:=z;obtain ⟨aI,h1,ah⟩:=aT;simp only at aI h1 ah ⊢;have hw:aS (i+1)=i+1:=by rw [cP]; omega
  rw [hw];refine Tot.bA (λaK=>?_) (λ_=>.al (by show l.length=1+L; omega));refine .aC (Tot.gX (Φ:=λ_=>True) aI aK λ_ _ _=>trivial) λqh _=>.aC (t78 _ _ (by show bm.cx.length<=_; simp only [kP]; omega)) λr3 UI=>?_;have ado:r3=-1\/(0<=r3/\r3<bm.cx.length):=UI;refine .aC (Ξ:=λ_=>True) (Tot.bA (λh=>.aC (Ξ:=λ_=>True) (Tot.gX h (by omega) λ_ _ _=>trivial) λ_ _=>.al trivial) (λ_=>.al trivial)) λtS _=>?_;refine .aC (Ξ:=λ_=>True) (Tot.ap (by simp [lim]; omega) trivial) λ_ _=>.al ⟨⟨?_,?_,?_⟩,?_,?_⟩
  ·show 0<=i+1; omega
  ·show i+1<=(bm.bX.length:Int); omega
  ·show (l++[_]).length=1+(i+1).toNat;simp; omega
  ·show i<i+1; omega
  ·show i+1<=(bm.bX.length:Int); omega
 refine Tot.aC (Ξ:=λl=>(l.length:Int)=1+L+bm.bU) ?_ λkE HZ=>?_
 ·refine Tot.count (λz=>z.2) (bm.bU+1) (λz=>1<=z.2/\z.2<=bm.bU+1/\(z.1.length:Int)=1+L+(z.2 - 1)) ⟨Int.le_refl 1,by show (1:Int)<=_; omega,by show (q7.length:Int)=1+L+(1 - 1); omega⟩ (by show bm.bU+1 - 1<_; omega) λz aT=>?_;obtain ⟨l,i⟩:=z;obtain ⟨aI,h1,ah⟩:=aT;simp only at aI h1 ah ⊢;have hw:aS (i+1)=i+1:=by rw [cP]; omega
  rw [hw];refine Tot.bA (λaK=>?_) (λ_=>.al (by show (l.length:Int)=1+L+bm.bU; omega));refine .aC (t10 i (by omega) (by omega)) λGr adp=>.aC (Ξ:=λ_=>True) (Tot.cat (by show 1+Gr.size<=_; omega) trivial) λvY _=>?_;refine .aC (Ξ:=λ_=>True) (Tot.ap (by simp [lim]; omega) trivial) λ_ _=>.al ⟨⟨?_,?_,?_⟩,?_,?_⟩
  ·show 1<=i+1; omega
  ·show i+1<=bm.bU+1; omega
  ·show ((l++[_]).length:Int)=1+L+(i+1 - 1);simp; omega
  ·show i<i+1; omega
  ·show i+1<=bm.bU+1; omega
 -- numbers
 have ry:=nE.gg;refine Tot.aC (Ξ:=λl=>l.length=bm.az.aX.length/\∀ t∈l,0<=t.Level) ?_ λlR UJ=>?_
 ·refine Tot.count (λz=>z.2.2) bm.az.aX.length (λz=>3<=z.2.2/\z.2.2<=bm.az.aX.length/\z.1.length=bm.az.aX.length/\∀ t∈z.1,0<=t.Level) ⟨Int.le_refl 3,by have:=nE.lo; show (3:Int)<=_; omega,rfl,nE.jl⟩ (by show (bm.az.aX.length:Int) - 3<_; omega) λz aT=>?_;obtain ⟨l,n,i⟩:=z;obtain ⟨aI,h1,ah,hv⟩:=aT;simp only at aI h1 ah hv ⊢;have hw:aS (i+1)=i+1:=by rw [cP]; omega
  rw [hw];refine Tot.bA (λaK=>?_) (λ_=>.al ⟨ah,hv⟩);refine Tot.aC (Ξ:=λj=>j.1.length=bm.az.aX.length/\∀ t∈j.1,0<=t.Level) ?_ λj ag=>.al ⟨⟨?_,?_,ag⟩,?_,?_⟩
  ·refine .aC (Tot.gX (Φ:=λ_=>True) (by omega) (by rw [ry]; omega) λ_ _ _=>trivial) λ_ _=>?_;refine Tot.aC (Ξ:=λj=>j.1.length=bm.az.aX.length/\∀ t∈j.1,0<=t.Level) ?_ λj ag=>.al ag;refine Tot.bC (λ_=>?_) (λ_=>.al ⟨ah,hv⟩);refine .aC (Tot.gX (Φ:=λy=>y∈l) (by omega) aK λ_ _ h=>h) λy ai=>.al ⟨by show (l.set _ _).length=_; simp [ah],λt au=>?_⟩;rcases O' au with au | rfl
   ·exact hv t au
   ·exact (hv y ai:0<=y.Level)
  ·show 3<=i+1; omega
  ·show i+1<=(bm.az.aX.length:Int); omega
  ·show i<i+1; omega
  ·show i+1<=(bm.az.aX.length:Int); omega
 -- limits
 obtain ⟨Np,UK⟩:=UJ;refine Tot.aC (Ξ:=λc=>c=false->lR.length<=40/\kE.length<=24/\bm.az.a8.length<=60) ?_ λAV HS=>?_
 ·refine Tot.bA (λ_=>.al λh=>by cases h) (λh1=>Tot.bA (λ_=>.al λh=>by cases h) (λaf=>.al λh=>?_));have aF:=of_decide_eq_false h;omega
 refine Tot.aC (Ξ:=λc=>c=false->AV=false/\∀ p∈bm.az.a8,p.ez.length<=8) ?_ λAm HT=>?_
 ·refine Tot.count (λz=>z.2) bm.az.a8.length (λz=>0<=z.2/\z.2<=bm.az.a8.length/\(z.1=false->AV=false/\∀ (j:Nat) (p:Prod),(j:Int)<z.2->bm.az.a8[j]?=some p->p.ez.length<=8)) ⟨Int.le_refl 0,by show (0:Int)<=_; omega,λh=>⟨h,λj p ag=>by have ag:(j:Int)<0:=ag; omega⟩⟩ (by show (bm.az.a8.length:Int) - 0<_; omega) λz aT=>?_;obtain ⟨c,i⟩:=z;obtain ⟨aI,h1,ah⟩:=aT;simp only at aI h1 ah ⊢;have hw:aS (i+1)=i+1:=by rw [cP]; omega
  rw [hw];refine Tot.bA (λaK=>?_) (λdx=>.al λh=>⟨(ah h).1,λp aw=>?_⟩)
  ·refine Tot.aC (Ξ:=λMv=>Mv=false->c=false/\∀ p,bm.az.a8[i.toNat]?=some p->p.ez.length<=8) ?_ λMv dW=>.al ⟨⟨?_,?_,λh=>?_⟩,?_,?_⟩
   ·refine Tot.bC (λ_=>.al λh=>by cases h) (λBt=>.aC (Tot.gX (Φ:=λy=>idx bm.az.a8 i=some y) aI aK λ_ h _=>h) λy ai=>.al λh=>⟨Bt,λp aw=>?_⟩);have af:=(qO ai).2.2;rw [aw] at af; cases af;have:=of_decide_eq_false h;omega
   ·show 0<=i+1; omega
   ·show i+1<=(bm.az.a8.length:Int); omega
   ·obtain ⟨ax,a2⟩:=dW h;obtain ⟨fF,fQ⟩:=ah ax;refine ⟨fF,λj p ag aw=>?_⟩;have ag:(j:Int)<i+1:=ag;by_cases Wq:(j:Int)<i
    ·exact fQ j p Wq aw
    ·have:j=i.toNat:=by omega
     subst this;exact a2 p aw
   ·show i<i+1; omega
   ·show i+1<=(bm.az.a8.length:Int); omega
  ·obtain ⟨j,ag,rfl⟩:=List.mem_iff_getElem.1 aw;exact (ah h).2 j _ (by omega) (List.getElem?_eq_getElem ag)
 refine Tot.bC (λ_=>.al λh=>absurd h (by decide)) (λaa=>.al λ_=>?_);obtain ⟨ax,a2⟩:=HT aa;obtain ⟨fF,fQ,je⟩:=HS ax;have lF:=nE.lo;refine ⟨⟨?_,fF⟩,⟨?_,fQ⟩,⟨UG,je⟩,λp aw=>?_,a2,UK⟩
 ·show 3<=lR.length; omega
 ·show 1<=kE.length; omega
 ·have:=nE.gN p aw;exact this.mono (by show _<=lR.length; omega) (by show (L:Int)+bm.bU<=((kE.length:Nat):Int) - 1; omega)
theorem t28 (s:Source) (ao:s7 s):Tot (zH s) λr=>r.2=true->fp r.1:=by
 unfold zH;exact .aC (t48 s ao) λr ak=>.al λh=>ak (of_decide_eq_true h)
theorem px (s:Source) (ao:s7 s):Tot (zC s) λr=>r.2.2=true->fp r.1/\jJ r.1 r.2.1:=by
 unfold zC;refine .aC (t28 s ao) λr ak=>Tot.bC (λ_=>.al λh=>by cases h) (λh=>?_);have aL:=ak (by simpa using h);refine .aC (uE r.1 aL) λm hm=>.al λh=>⟨aL,?_⟩;have h:m.2=0:=of_decide_eq_true h;rcases hm with hm | hm
 ·exact hm.2
 ·omega
structure Gy (g:bt) (m:List State) (cs:List Cell):Prop where
 uN:fp g
 Fl:jJ g m
 ce:DE g m.length cs
theorem kr (s:Source) (ao:s7 s):Tot (t_ s) λr=>r.2.2.2=true->Gy r.1 r.2.1 r.2.2.1:=by
 unfold t_;refine .aC (px s ao) λr ak=>Tot.bC (λ_=>.al λh=>by cases h) (λh=>?_);obtain ⟨aL,hm⟩:=ak (by simpa using h);exact .aC (te r.1 aL hm) λvq N5=>.aC (py r.1 aL hm vq N5.1 N5.2) λcs gB=>.al λ_=>⟨aL,hm,gB⟩
def zu (g:bt) (p:Int):Int × Int:=match idx g.a8 p with
 | some q=>match idx g.aX q.Prec with
  | some t=>(t.Level,t.e2)
  | none=>(0,0)
 | none=>(0,0)
def dec (g:bt) (p t:Int):Int:=match idx g.aX t with
 | some k=>if (zu g p).1=0\/k.Level=0 then 0 else if (zu g p).1<k.Level then 1 else if k.Level<(zu g p).1 then 2 else if k.e2=1 then 2 else if k.e2=2 then 1 else 3
 | none=>0
def r9 (g:bt) (c:Cell):Act:=match c.a8 with
 | []=>if c.lu=true then ⟨3,0⟩ else ⟨1,c.jc⟩
 | p::_=>if c.lu=true then ⟨3,0⟩ else if c.jc<0 then ⟨2,p⟩ else if dec g p c.Tok=2 then ⟨2,p⟩ else if dec g p c.Tok=3 then ⟨4,0⟩ else ⟨1,c.jc⟩
def uG (g:bt) (c:Cell):List eW:=match c.a8 with
 | []=>[]
 | p::r=>r.map (λx=>(⟨c.State,c.Tok,p,x⟩:eW))++(if c.lu=true\/(0<=c.jc/\dec g p c.Tok=0) then [(⟨c.State,c.Tok,-1,p⟩:eW)] else [])
structure q8 (g:bt) (n:Nat) (a:Act):Prop where
 k:0<=a.Kind/\a.Kind<=4
 gv:a.Kind=0->a.N=0
 h3:a.Kind=1->0<=a.N/\a.N<n
 lL:a.Kind=2->qv g a.N
 Yl:a.Kind=3->a.N=0
 Yo:a.Kind=4->a.N=0
theorem LY {g:bt}{n:Nat}{c:Cell}(h:mJ g n c):q8 g n (r9 g c)/\(r9 g c).Kind≠0:=by
 have BV:=h.aak;have aV:=h.f;have a3:q8 g n ⟨3,0⟩:=⟨⟨by decide,by decide⟩,λh=>(by cases h),λh=>(by cases h),λh=>(by cases h),λ_=>rfl,λh=>by cases h⟩;have a4:q8 g n ⟨4,0⟩:=⟨⟨by decide,by decide⟩,λh=>(by cases h),λh=>(by cases h),λh=>(by cases h),λ_=>rfl,λ_=>rfl⟩;have ax:0<=c.jc->q8 g n ⟨1,c.jc⟩:=λaI=>⟨⟨by show (0:Int)<=1; decide,by show (1:Int)<=4; decide⟩,λh=>(by cases h),λ_=>⟨aI,aV.2⟩,λh=>(by cases h),λh=>(by cases h),λh=>by cases h⟩;have a2:∀ p∈c.a8,q8 g n ⟨2,p⟩:=λp aw=>⟨⟨by show (0:Int)<=2; decide,by show (2:Int)<=4; decide⟩,λh=>(by cases h),λh=>(by cases h),λ_=>h.q p aw,λh=>(by cases h),λh=>by cases h⟩;unfold r9;unfold Dp at BV;cases cX:c.a8 with
 | nil =>
  simp only;rw [cX] at BV;by_cases h1:c.lu=true
  ·rw [if_pos h1]; exact ⟨a3,by decide⟩
  ·rw [if_neg h1];rw [if_neg h1] at BV;refine ⟨ax ?_,by show (1:Int)≠0; decide⟩;by_cases af:0<=c.jc
   ·exact af
   ·rw [if_neg af] at BV; simp at BV
 | cons p r =>
  simp only;have aw:=a2 p (by rw [cX]; simp);split
  ·exact ⟨a3,by decide⟩
  ·split
   ·exact ⟨aw,by show (2:Int)≠0; decide⟩
   ·split
    ·exact ⟨aw,by show (2:Int)≠0; decide⟩
    ·split
     ·exact ⟨a4,by decide⟩
     ·exact ⟨ax (by omega),by show (1:Int)≠0; decide⟩
theorem SU {g:bt}(aL:fp g) {n:Nat}{c:Cell}(h:mJ g n c):(uG g c).length<=60:=by
 have ah:=h.len aL;unfold uG;cases cX:c.a8 with
 | nil=>simp
 | cons p r =>
  rw [cX,List.length_cons] at ah;simp only [List.length_append,List.length_map];split
  ·simp; omega
  ·simp; omega
def rowOf (g:bt) (l:List Cell):List Act:=l.foldl (λrow c=>row.set c.Tok.toNat (r9 g c)) (List.replicate g.aX.length ⟨0,0⟩)
def kO (cs:List Cell) (q:Nat):List Cell:=cs.filter λc=>decide (c.State=(q:Int))
def go (m:List State) (q s:Int):Int:=(rW m q s).getD (-1)
theorem go_eq {g:bt}{m:List State}(hm:jJ g m) (q s:Int):rW m q s=some (go m q s)/\GoTo m q s (go m q s):=by
 obtain ⟨r,ak,h⟩:=D7 m q s hm.tW;unfold go;rw [ak];exact ⟨rfl,h⟩
theorem PW (g:bt):∀ (l:List Cell),(rowOf g l).length=g.aX.length:=λl=>by
 suffices h:∀ (l:List Cell) (r:List Act),(l.foldl (λrow c=>row.set c.Tok.toNat (r9 g c)) r).length=r.length by
  unfold rowOf; rw [h]; simp
 intro l
 induction l with
 | nil=>intro r; rfl
 | cons c l aJ=>intro r; rw [List.foldl_cons,aJ,List.length_set]
theorem PX (g:bt) (l:List Cell) (c:Cell):rowOf g (l++[c])=(rowOf g l).set c.Tok.toNat (r9 g c):=by
 unfold rowOf; rw [List.foldl_append]; rfl
theorem Zq {g:bt}{n:Nat}:∀ {l:List Cell},(∀ c∈l,mJ g n c)->∀ a∈rowOf g l,q8 g n a:=by
 intro l h
 suffices av:∀ (l:List Cell) (r:List Act),(∀ c∈l,mJ g n c)->(∀ a∈r,q8 g n a)->∀ a∈l.foldl (λrow c=>row.set c.Tok.toNat (r9 g c)) r,q8 g n a by
  refine av l _ h λa aQ=>?_;rw [List.eq_of_mem_replicate aQ];exact ⟨⟨by decide,by decide⟩,λ_=>rfl,λh=>(by cases h),λh=>(by cases h),λh=>(by cases h),λh=>by cases h⟩
 intro l
 induction l with
 | nil=>intro r _ ak; exact ak
 | cons c l aJ =>
  intro r ah ak;rw [List.foldl_cons];refine aJ _ (λd aP=>ah d (by simp [aP])) λa aQ=>?_;rcases List.mem_or_eq_of_mem_set aQ with h | h
  ·exact ak a h
  ·rw [h]; exact (LY (ah c (by simp))).1
def sf (g:bt) (m:List State) (q:Nat):List Int:=(List.range g.bF.length).map λa:Nat=>go m q (1000+(a:Int))
def k9 (g:bt) (l:List Cell):List eW:=l.flatMap (uG g)
theorem Hs {g:bt}(aL:fp g) {n:Nat}:∀ {l:List Cell},(∀ c∈l,mJ g n c)->(k9 g l).length<=60 * l.length
 | [],_=>by simp [k9]
 | c::l,h=>by
  have h1:=SU aL (h c (by simp));have af:=Hs aL (l:=l) λd aP=>h d (by simp [aP]);unfold k9 at af ⊢;rw [List.flatMap_cons,List.length_append,List.length_cons];omega
theorem aaj {α:Type}{l:List α}{k:Nat}(h:k<l.length) (p:α->Bool):(l.take (k+1)).filter p=(l.take k).filter p++(if p l[k] then [l[k]] else []):=by
 rw [nU h,List.filter_append];congr 1;rw [List.filter_cons]
 split <;> simp
structure Ax (g:bt) (m:List State) (cs:List Cell) (d:kG):Prop where
 a:d.fl=(List.range m.length).map λq=>rowOf g (kO cs q)
 o:d.eQ=(List.range m.length).map λq=>sf g m q
structure DF (g:bt) (n:Nat) (d:kG):Prop where
 gv:0<n/\n<=150
 uN:fp g
 a:d.fl.length=n
 oH:∀ r∈d.fl,r.length=g.aX.length/\∀ a∈r,q8 g n a
 o:d.eQ.length=n
 YN:∀ r∈d.eQ,r.length=g.bF.length/\∀ v∈r,-1<=v/\v<n
theorem Ax.aG {g:bt}{m:List State}{cs:List Cell}{d:kG}(h:Ax g m cs d) (dh:Gy g m cs):DF g m.length d:=by
 obtain ⟨aL,hm,aa⟩:=dh;refine ⟨⟨hm.gv,hm.h3⟩,aL,by rw [h.a]; simp,λr ak=>?_,by rw [h.o]; simp,λr ak=>?_⟩
 ·rw [h.a] at ak;obtain ⟨q,_,rfl⟩:=List.mem_map.1 ak;exact ⟨PW g _,Zq λc l3=>aa.ok c (List.mem_filter.1 l3).1⟩
 ·rw [h.o] at ak;obtain ⟨q,_,rfl⟩:=List.mem_map.1 ak;refine ⟨by simp [sf],λv hv=>?_⟩;obtain ⟨a,_,rfl⟩:=List.mem_map.1 hv;exact (go_eq hm q _).2.aG hm
end Go.Proofs
