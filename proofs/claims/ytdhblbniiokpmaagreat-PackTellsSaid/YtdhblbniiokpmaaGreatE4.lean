/-
  Parts of the proof that the last text states. No condition of their own.
-/
import Derived.KernelRfl
import Derived.Test.YtdhblbniiokpmaaGreatE3
namespace Go.Proofs
open Go Go.Own
set_option maxRecDepth 100000
set_option linter.unusedVariables false
theorem Zy (m:fJ) (x:Sym) (aP:m.cr.length=m.aG.ba.length) (aI:3<=m.aG.ba.length) (h:m.aG.ba.length<=100000000000) (ai:m.cb.length<=100000000000) (J:lV x) (aw:x.Lit=true\/∀ y∈m.cb,y≠x.Name) :
  Tot (s8 m x) λr=>Grow m r.2 1/\0<=r.1/\r.1<r.2.aG.ba.length:=by
 unfold s8;have r2:Grow m m 1:=⟨aP,Nat.le_refl _,Nat.le_succ _,Nat.le_succ _,rfl,rfl,rfl,rfl,λ_ h=>h⟩;refine Tot.bB (λ_=>?_) (λn2=>?_)
 ·exact .ay (t136 m x aP h J) λr ⟨aj,aT,h1⟩=>.ao ⟨aj,aT,h1⟩
 ·have aw:∀ y∈m.cb,y≠x.Name:=aw.resolve_left (by rw [n2]; decide);refine .ay (t107 m x.Name (by simp only [dJ]; omega)) λk hk=>Tot.bm (λaT=>?_) (λ_=>?_)
  ·rcases hk with ⟨rfl,_⟩ | ⟨h1,af,aI⟩
   ·exact absurd aT (by decide)
   ·exact absurd rfl (aw _ (List.mem_of_getElem? aI))
  ·refine .ay (t106 m x (by simp only [dJ]; omega)) λt aw=>Tot.bm (λ_=>?_) (λaT=>.ao ⟨r2,?_⟩)
   ·refine .ay (t105 m _ _) λm' hm=>.ao ⟨hm.1.grow aP 1,Int.le_refl 0,?_⟩;show (0:Int)<(m'.aG.ba.length:Int);rw [hm.1.g]; omega
   ·show 0<=t/\t<(m.aG.ba.length:Int);rcases aw with aw | aw <;> omega
structure A4 (T:Nat) (N:Int) (p:Prod):Prop where
 left:0<=p.Left/\p.Left<=N
 right:∀ s∈p.ef,qW T N s
 prec:-1<=p.Prec/\p.Prec<T
theorem A4.mono {T T':Nat}{N iW:Int}{p:Prod}(h:A4 T N p) (dK:T<=T') (bd:N<=iW):A4 T' iW p :=
 ⟨⟨h.left.1,by have:=h.left.2; omega⟩,λs aA=>(h.right s aA).mono dK bd,⟨h.prec.1,by have:=h.prec.2; omega⟩⟩
structure k7 (m:fJ) (T L I Q:Nat):Prop where
 gC:m.cr.length=m.aG.ba.length
 lo:3<=m.aG.ba.length
 hi:m.aG.ba.length<=T
 ty:m.cJ.length<=T
 fy:m.cb.length=L
 hs:0<=m.b8/\m.b8<=I
 Au:m.aG.bj.length<=Q
 hl:∀ p∈m.aG.bj,A4 m.aG.ba.length (L+m.b8) p
 lvl:0<=m.cq
 jq:∀ t∈m.aG.ba,0<=t.Level
theorem k7.mono {m:fJ}{T L I Q T' I' LJ:Nat}(h:k7 m T L I Q) (dK:T<=T') (bb:I<=I') (dM:Q<=LJ):k7 m T' L I' LJ :=
 ⟨h.gC,h.lo,by have:=h.hi; omega,by have:=h.ty; omega,h.fy,⟨h.hs.1,by have:=h.hs.2; omega⟩,by have:=h.Au; omega,h.hl,h.lvl,h.jq⟩
theorem k7.grow {m m':fJ}{T L I Q k:Nat}(h:k7 m T L I Q) (g:Grow m m' k):k7 m' (T+k) L I Q :=
 ⟨g.gC,by have:=h.lo; have:=g.lo; omega,by have:=h.hi; have:=g.hi; omega,by have:=h.ty; have:=g.ty; omega,by rw [g.fy]; exact h.fy,by rw [g.hs]; exact h.hs,by rw [g.hl]; exact h.Au,
  by rw [g.hl,g.hs]; exact λp ar=>(h.hl p ar).mono g.lo (by omega),by rw [g.lvl]; exact h.lvl,g.jq h.lvl h.jq⟩
theorem t108 (m:fJ) (left:ByteArray) (a:Alt) {T L I Q:Nat}(hm:k7 m T L I Q) (dK:T<=10000000000) (hr:L<=10000000000) (bb:I<=10000000000) (dM:Q<=10000000000) (au:wA a) (cQ:DS a) :
  Tot (vV m left a) λm'=>k7 m' (T+1001) L (I+1000) (Q+1001)/\1<=m'.aG.bj.length:=by
 unfold vV;have aE:=au.n;refine .ay (t107 m left (by rw [hm.fy]; simp only [dJ]; omega)) λa8 im=>?_;have adk:-1<=a8/\a8<L:=by rw [<- hm.fy]; rcases im with h | h <;> omega
 refine Tot.ay (Ξ:=λa7=>k7 a7.1 (T+1000) L (I+1000) (Q+1000)/\(∀ s∈a7.2.1,qW a7.1.aG.ba.length (L+a7.1.b8) s)/\a7.2.1.length<=1000) ?_ λa7 jP=>?_
 ·refine Tot.count (λs=>s.2.2.2.2) a.hc.length (λs=>0<=s.2.2.2.2/\s.2.2.2.2<=a.hc.length/\k7 s.1 (T+s.2.2.2.2.toNat) L (I+s.2.2.2.2.toNat) (Q+s.2.2.2.2.toNat)/\(∀ y∈s.2.1,qW s.1.aG.ba.length (L+s.1.b8) y)/\s.2.1.length<=s.2.2.2.2.toNat) ⟨by show (0:Int)<=0; omega,by show (0:Int)<=_; omega,hm,by simp,Nat.le_refl 0⟩ (by show (a.hc.length:Int) - 0<_; omega) λs aA=>?_;obtain ⟨m1,rt,bB,at_,i⟩:=s;obtain ⟨aT,h1,ag,aj,ai⟩:=aA;simp only at aT h1 ag aj ai ⊢;have hw:aM (i+1)=i+1:=by rw [cK]; omega
  have cu:(i+1).toNat=i.toNat+1:=by omega
  refine Tot.bm (λaQ=>?_) (λ_=>.ao ⟨ag.mono (by omega) (by omega) (by omega),aj,by show rt.length<=1000; omega⟩);refine Tot.ay (Ξ:=λj=>k7 j.1 (T+(i.toNat+1)) L (I+(i.toNat+1)) (Q+(i.toNat+1))/\(∀ y∈j.2.1,qW j.1.aG.ba.length (L+j.1.b8) y)/\j.2.1.length<=i.toNat+1) ?_ λj BR=>?_
  ·refine Tot.ay (Tot.hd (Φ:=λy=>y∈a.hc) aT aQ λy _ av=>av) λy av=>?_;refine Tot.ay (Ξ:=λj=>k7 j.1 (T+(i.toNat+1)) L (I+(i.toNat+1)) (Q+(i.toNat+1))/\(∀ y∈j.2.1,qW j.1.aG.ba.length (L+j.1.b8) y)/\j.2.1.length<=i.toNat+1) ?_ λj IV=>.ao IV;refine Tot.ay (Ξ:=λj=>k7 j.1 (T+(i.toNat+1)) L (I+(i.toNat+1)) (Q+(i.toNat+1))/\(∀ y∈j.2.1,qW j.1.aG.ba.length (L+j.1.b8) y)/\j.2.1.length<=i.toNat+1) ?_ λj IV=>.ao IV;refine Tot.bB (λ_=>?_) (λ_=>?_)
   ·have bY:=ag.hi;refine .ay (t138 m1 y.Sym ag.gC ag.lo (by omega) (by rw [ag.fy]; omega) (cQ.parts y av)) λr ⟨aP,OA⟩=>?_;refine .ay (Ξ:=λ_=>True) (Tot.ap (by simp [lim]; omega) trivial) λ_ _=>.ao ⟨(ag.grow aP).mono (by omega) (by omega) (by omega),λz aX=>?_,by simp; omega⟩;rcases List.mem_append.1 aX with aX | aX
    ·exact (aj z aX).mono aP.lo (by show (L:Int)+m1.b8<=L+r.2.b8; rw [aP.hs]; omega)
    ·rw [List.mem_singleton.1 aX];rw [ag.fy] at OA;exact OA.mono (Nat.le_refl _) (by show (L:Int)<=L+r.2.b8; rw [aP.hs]; have:=ag.hs.1; omega)
   ·refine Tot.ay (Ξ:=λj=>k7 (⟨(⟨m1.aG.ba,m1.aG.ca,j.1,m1.aG.cx,m1.aG.cE⟩:bO),m1.cr,m1.cJ,m1.cb,m1.cZ,m1.dp,m1.dm,m1.cq,j.2.1⟩:ds) (T+(i.toNat+1)) L (I+(i.toNat+1)) (Q+(i.toNat+1))/\(∀ y∈j.2.2.1,qW m1.aG.ba.length (L+j.2.1) y)/\j.2.2.1.length<=i.toNat+1) ?_ λj VZ=>.ao VZ;refine Tot.bB (λ_=>.ao ⟨⟨ag.gC,ag.lo,by have:=ag.hi; show m1.aG.ba.length<=_; omega,by have:=ag.ty; show m1.cJ.length<=_; omega,ag.fy,⟨ag.hs.1,by have:=ag.hs.2; show m1.b8<=_; omega⟩,by have:=ag.Au; show m1.aG.bj.length<=_; omega,ag.hl,ag.lvl,ag.jq⟩,aj,by show rt.length<=_; omega⟩) (λ_=>?_);have vt:=ag.hs;have vv:=ag.fy;have q_:=ag.Au;have h9:aM (m1.b8+1)=m1.b8+1:=by rw [cK]; omega
    have hn:aM (((m1.cb.length:Int))+(m1.b8+1))=L+(m1.b8+1):=by rw [cK,vv]; omega
    have AK:aM (1000+(m1.cb.length:Int))=1000+L:=by rw [cK,vv]; omega
    have AL:aM (1000+(L:Int)+(m1.b8+1))=1000+(L:Int)+(m1.b8+1):=by rw [cK]; omega
    rw [h9,hn,AK,AL];refine .ay (Ξ:=λ_=>True) (Tot.ap (by simp [lim]; omega) trivial) λ_ _=>.ay (Ξ:=λ_=>True) (Tot.ap (by simp [lim]; omega) trivial) λ_ _=>.ay (Ξ:=λ_=>True) (Tot.ap (by simp [lim]; omega) trivial) λ_ _=>.ao ⟨⟨ag.gC,ag.lo,?_,?_,ag.fy,?_,?_,?_,ag.lvl,ag.jq⟩,?_,?_⟩
    ·have:=ag.hi; show m1.aG.ba.length<=_; omega
    ·have:=ag.ty; show m1.cJ.length<=_; omega
    ·show 0<=m1.b8+1/\m1.b8+1<=((I+(i.toNat+1):Nat):Int); omega
    ·show (m1.aG.bj++[_]).length<=_; simp; omega
    ·intro p ar;rcases List.mem_append.1 ar with ar | ar
     ·exact (ag.hl p ar).mono (Nat.le_refl _) (by show (L:Int)+m1.b8<=L+(m1.b8+1); omega)
     ·rw [List.mem_singleton.1 ar];refine ⟨?_,by simp,?_⟩
      ·show 0<=(L:Int)+(m1.b8+1)/\(L:Int)+(m1.b8+1)<=L+(m1.b8+1); omega
      ·have:=ag.lo; show (-1:Int)<=-1/\(-1:Int)<(m1.aG.ba.length:Int); omega
    ·intro z aX;rcases List.mem_append.1 aX with aX | aX
     ·exact (aj z aX).mono (Nat.le_refl _) (by show (L:Int)+m1.b8<=L+(m1.b8+1); omega)
     ·rw [List.mem_singleton.1 aX];exact .inr (by show 1000<=1000+(L:Int)+(m1.b8+1)/\1000+(L:Int)+(m1.b8+1)<=1000+((L:Int)+(m1.b8+1)); omega)
    ·show (rt++[_]).length<=_; simp; omega
  ·rw [hw];refine .ao ⟨⟨?_,?_,?_,BR.2.1,?_⟩,?_,?_⟩
   ·show (0:Int)<=i+1; omega
   ·show i+1<=(a.hc.length:Int); omega
   ·show k7 j.1 (T+(i+1).toNat) L (I+(i+1).toNat) (Q+(i+1).toNat);rw [cu]; exact BR.1
   ·show j.2.1.length<=(i+1).toNat;rw [cu]; exact BR.2.2
   ·show i<i+1; omega
   ·show i+1<=(a.hc.length:Int); omega
 ·obtain ⟨ag,aj,ai⟩:=jP;have lJ:=ag.lo;have vt:=ag.hs;refine Tot.ay (Ξ:=λp=>-1<=p/\p<(a7.1.aG.ba.length:Int)) ?_ λhl EV=>?_
  ·refine Tot.count (λs=>s.2) a7.2.1.length (λs=>0<=s.2/\s.2<=a7.2.1.length/\-1<=s.1/\s.1<(a7.1.aG.ba.length:Int)) ⟨by show (0:Int)<=0; omega,by show (0:Int)<=_; omega,by show (-1:Int)<=-1; omega,by show (-1:Int)<_; omega⟩ (by show (a7.2.1.length:Int) - 0<_; omega) λs aA=>?_;obtain ⟨aT,h1,af,aI⟩:=aA;have hw:aM (s.2+1)=s.2+1:=by rw [cK]; omega
   rw [hw];refine Tot.bm (λaQ=>?_) (λ_=>.ao ⟨af,aI⟩);refine Tot.ay (Ξ:=λp=>-1<=p/\p<(a7.1.aG.ba.length:Int)) ?_ λp ar=>.ao ⟨⟨?_,?_,ar.1,ar.2⟩,?_,?_⟩
   ·refine .ay (Tot.hd (Φ:=λy=>idx a7.2.1 s.2=some y/\y∈a7.2.1) aT aQ λy h1 af=>⟨h1,af⟩) λy av=>?_;refine .ay (Ξ:=λp=>-1<=p/\p<(a7.1.aG.ba.length:Int)) ?_ λp ar=>.ao ar;refine Tot.bm (λaQ=>?_) (λ_=>.ao ⟨af,aI⟩);rw [av.1];refine Tot.aV (.ao ?_);rcases aj y av.2 with h | h
    ·omega
    ·omega
   ·show (0:Int)<=s.2+1; omega
   ·show s.2+1<=(a7.2.1.length:Int); omega
   ·show s.2<s.2+1; omega
   ·show s.2+1<=(a7.2.1.length:Int); omega
  ·refine Tot.ay (Ξ:=λj=>Grow a7.1 j.1 1/\-1<=j.2/\j.2<(j.1.aG.ba.length:Int)) ?_ λj EL=>?_
   ·have r2:Grow a7.1 a7.1 1:=⟨ag.gC,Nat.le_refl _,Nat.le_succ _,Nat.le_succ _,rfl,rfl,rfl,rfl,λ_ h=>h⟩;refine Tot.bB (λ_=>?_) (λ_=>.ao ⟨r2,EV⟩);refine Tot.ay (Ξ:=λc=>c=true->a.Prec.Lit=true\/∀ y∈a7.1.cb,y≠a.Prec.Name) ?_ λc aa=>?_
    ·refine Tot.bB (λh=>.ao λ_=>.inl h) (λ_=>?_);refine .ay (t107 a7.1 a.Prec.Name (by rw [ag.fy]; simp only [dJ]; omega)) λk hk=>.ao λaQ=>?_;have aQ:=of_decide_eq_true aQ;rcases hk with ⟨_,h⟩ | h
     ·exact .inr h
     ·omega
    ·refine Tot.ay (Ξ:=λj=>Grow a7.1 j.1 1/\-1<=j.2/\j.2<(j.1.aG.ba.length:Int)) ?_ λj ag=>.ao ag;have bY:=ag.hi;refine Tot.bB (λh=>?_) (λ_=>?_)
     ·refine .ay (Zy a7.1 a.Prec ag.gC ag.lo (by omega) (by rw [ag.fy]; omega) cQ.prec (aa h)) λr aj=>.ao ⟨aj.1,?_,aj.2.2⟩;have:=aj.2.1; show -1<=r.1; omega
     ·refine .ay (t105 a7.1 _ _) λm' ij=>.ao ⟨ij.1.grow ag.gC 1,by show (-1:Int)<=-1; omega,?_⟩;show (-1:Int)<(m'.aG.ba.length:Int); omega
   ·have ij:=ag.grow EL.1;have q_:=ij.Au;refine .ay (Ξ:=λ_=>True) (Tot.ap (by simp [lim]; omega) trivial) λ_ _=>.ay (Ξ:=λ_=>True) (Tot.ap (by simp [lim]; omega) trivial) λ_ _=>.ao ⟨⟨ij.gC,ij.lo,?_,?_,ij.fy,⟨ij.hs.1,?_⟩,?_,?_,ij.lvl,ij.jq⟩,by simp⟩
    ·have:=ij.hi; show j.1.aG.ba.length<=_; omega
    ·have:=ij.ty; show j.1.cJ.length<=_; omega
    ·have:=ij.hs.2; show j.1.b8<=_; omega
    ·show (j.1.aG.bj++[_]).length<=_; simp; omega
    ·intro p ar;rcases List.mem_append.1 ar with ar | ar
     ·exact ij.hl p ar
     ·rw [List.mem_singleton.1 ar];have acX:=ij.hs;refine ⟨?_,λz aX=>?_,EL.2⟩
      ·show 0<=aM (1+a8)/\aM (1+a8)<=(L:Int)+j.1.b8;rw [cK]; omega
      ·exact (aj z aX).mono EL.1.lo (by show (L:Int)+a7.1.b8<=L+j.1.b8; rw [EL.1.hs]; omega)
theorem K1 (l:List Int):(strOfNums l).size=l.length:=strOfNums_size ..
theorem t110 (n:Int) (aT:0<=n) (h1:n<=1000000000000):Tot (CQ n) λs=>s.size<=2000000000000:=by
 unfold CQ;have hu:IntKind.u64.wrap n=n:=by rw [IntKind.wrap_u64]; omega
 refine Tot.ay (Ξ:=λj=>j=n) (Tot.bm (λh=>absurd h (by omega)) (λ_=>.ao hu)) λj ag=>?_;subst ag;refine Tot.ay (Ξ:=λs=>s.size<=1000000000001) ?_ λs aA=>Tot.bm (λh=>absurd h (by omega)) (λ_=>.ao (by omega));refine Tot.loop (λs=>0<=s.1/\s.1+s.2.size<=1000000000000+1/\(s.2.size=0->s.1<=1000000000000)) (λs=>s.1.toNat+(if s.2.size=0 then 1 else 0)) ⟨aT,by show j+((0:Nat):Int)<=_; omega,λ_=>h1⟩ (by show j.toNat+(if (0:Nat)=0 then 1 else 0)<1000000000000000000; simp; omega) λs aA=>?_
 obtain ⟨m,t⟩:=s;obtain ⟨g0,g1,g2⟩:=aA;simp only at g0 g1 g2 ⊢;refine Tot.ay (Ξ:=λc=>c=true->0<m\/t.size=0) ?_ λc aa=>Tot.bB (λih=>?_) (λ_=>.ao ?_)
 ·refine Tot.bm (λh=>.ao λ_=>.inl h) (λ_=>.ao λh=>.inr ?_);have:=of_decide_eq_true h;rw [this]; rfl
 ·have aa:=aa ih;refine .ay (Ξ:=λx=>x=m.tmod 10) (Tot.rr (by decide) rfl) λx J=>?_;refine .ay (Ξ:=λy=>y.size=t.size+1) (Tot.cat ?_ ?_) λy av=>.ay (Ξ:=λz=>z=m / 10) (Tot.rn (by decide) ?_) λz aX=>.ao ?_
  ·rw [K1]; simp; omega
  ·rw [ByteArray.size_append,K1]; simp; omega
  ·rw [Int.tdiv_eq_ediv_of_nonneg g0,IntKind.wrap_u64]; omega
  ·subst aX;refine ⟨⟨?_,?_,?_⟩,?_⟩
   ·show 0<=m / 10; omega
   ·show m / 10+(y.size:Int)<=_; rw [av]; omega
   ·intro h; have h:y.size=0:=h; omega
   ·show (m / 10).toNat+(if y.size=0 then 1 else 0)<m.toNat+(if t.size=0 then 1 else 0);rw [if_neg (by omega)]
    split <;> omega
 ·show t.size<=1000000000001; omega
structure hb (g:bO):Prop where
 kk:3<=g.ba.length/\g.ba.length<=40
 dx:1<=g.ca.length/\g.ca.length<=24
 hE:1<=g.bj.length/\g.bj.length<=60
 hl:∀ p∈g.bj,A4 g.ba.length (g.ca.length - 1) p
 aH:∀ p∈g.bj,p.ef.length<=8
 jq:∀ t∈g.ba,0<=t.Level
structure iH (m:fJ) (T L:Nat):Prop where
 gC:m.cr.length=m.aG.ba.length
 lo:3<=m.aG.ba.length
 hi:m.aG.ba.length<=3+T
 ty:m.cJ.length<=T
 fy:m.cb.length<=L
 hl:m.aG.bj=[]
 hs:m.b8=0
 lvl:0<=m.cq
 jq:∀ t∈m.aG.ba,0<=t.Level
theorem iH.mono {m:fJ}{T L T' L':Nat}(h:iH m T L) (dK:T<=T') (hr:L<=L'):iH m T' L' :=
 ⟨h.gC,h.lo,by have:=h.hi; omega,by have:=h.ty; omega,by have:=h.fy; omega,h.hl,h.hs,h.lvl,h.jq⟩
theorem iH.grow {m m':fJ}{T L k:Nat}(h:iH m T L) (g:Grow m m' k):iH m' (T+k) L :=
 ⟨g.gC,by have:=h.lo; have:=g.lo; omega,by have:=h.hi; have:=g.hi; omega,by have:=h.ty; have:=g.ty; omega,by rw [g.fy]; exact h.fy,g.hl.trans h.hl,g.hs.trans h.hs,by rw [g.lvl]; exact h.lvl,g.jq h.lvl h.jq⟩
theorem iH.same {m m':fJ}{T L:Nat}(h:iH m T L) (g:rK m m'):iH m' T L:=by
 have:=h.grow (g.grow h.gC 0);exact this
theorem TB (s:ByteArray) (m n:Int) (h:0<=m/\m<=n/\n<=s.size):(rQ s m n).size<=(n - m).toNat:=by
 grind [rQ,ByteArray.size_extract]
theorem t22 (s:ByteArray) (n:Int) (aT:0<=n):Tot (s9 s n) λt=>(t.size:Int)<=n:=by
 unfold s9;refine Tot.bm (λh=>?_) (λh=>.ao (by omega))
 grind [Tot.cut,TB]
theorem t23 (x:Sym):Tot (x3 x) λy=>y.Name.size<=dJ:=by
 unfold x3;refine .ay (t22 _ 25 (by decide)) λt aw=>.ao ?_
 grind
theorem Tot.make {β:Type}{f:List β × Int->Option ((List β × Int) ⊕ List β)}(n:Int) (P:β->Prop) (aE:0<=n/\n<=1000000)
  (aA:∀ (l:List β) (i:Int),0<=i->i<=n->(l.length:Int)=i->(∀ y∈l,P y)->Tot (f (l,i)) (hG (λcR=>i<n/\cR.2=i+1/\∃ y,cR.1=l++[y]/\P y) (λr=>r=l))) :
  Tot (b6 f ([],0)) λl=>(l.length:Int)<=n/\∀ y∈l,P y:=by
 refine Tot.count (λs=>s.2) n (λs=>0<=s.2/\s.2<=n/\(s.1.length:Int)=s.2/\∀ y∈s.1,P y) ⟨Int.le_refl 0,aE.1,rfl,by simp⟩ (by show n - 0<_; omega) λs bb=>?_;obtain ⟨l,i⟩:=s;obtain ⟨aT,h1,af,aI⟩:=bb;refine (aA l i aT h1 af aI).use λx J=>?_
 grind
theorem t9 (s:Source):Tot (Ap s) qV:=by
 unfold Ap;refine .ay (t22 s.cx 40 (by decide)) λa8 h1=>.ay (t22 s.cE 40 (by decide)) λx2 af=>?_;refine .ay (Tot.make 8 GS (by decide) λl i aT vt ai b_=>?_) λbx bD=>?_
 ·refine .ay (Ξ:=λc=>c=true->i<s.Decls.length/\i<8) (Tot.bm (λh=>.ao λaf=>⟨h,of_decide_eq_true af⟩) (λ_=>.ao λh=>by cases h)) λc aa=>Tot.bB (λih=>?_) (λ_=>.ao rfl);obtain ⟨hi,IS⟩:=aa ih;have mV:i.toNat<s.Decls.length:=by omega
  have r4:idx s.Decls i=some s.Decls[i.toNat]:=by simp [idx,aT,mV]
  rw [r4];generalize s.Decls[i.toNat]=d;have hw:aM (i+1)=i+1:=by rw [cK]; omega
  refine Tot.aV (Tot.aV (.ay (t22 d.Tag 25 (by decide)) λcp zj=>Tot.aV ?_));refine .ay (Tot.make 6 (λx=>x.Name.size<=dJ) (by decide) λvN k g0 Ud Ev Uc=>?_) λeL sF=>?_
  ·refine .ay (Ξ:=λc=>c=true->k<d.eF.length/\k<6) (Tot.aV (Tot.bm (λh=>.ao λaf=>⟨h,of_decide_eq_true af⟩) (λ_=>.ao λh=>by cases h))) λc aa=>Tot.bB (λih=>?_) (λ_=>.ao rfl);obtain ⟨hk,IX⟩:=aa ih;refine Tot.aV (.ay (Tot.hd (Φ:=λ_=>True) g0 hk λ_ _ _=>trivial) λe9 _=>.ay (t23 e9) λgm Uf=>.ay (Ξ:=λ_=>True) (Tot.ap (by simp [lim]; omega) trivial) λ_ _=>.ao ⟨IX,?_,_,rfl,Uf⟩)
   grind [cK]
  ·refine .ay (Ξ:=λ_=>True) (Tot.ap (by simp [lim]; omega) trivial) λ_ _=>.ao ⟨IS,hw,_,rfl,⟨?_,?_,sF.2⟩⟩
   ·grind
   grind
 ·refine .ay (Tot.make 6 LK (by decide) λl i aT vt ai b_=>?_) λgx rV=>.ao ⟨?_,?_,bD.2,?_,rV.2⟩
  ·refine .ay (Ξ:=λc=>c=true->i<s.dz.length/\i<6) (Tot.bm (λh=>.ao λaf=>⟨h,of_decide_eq_true af⟩) (λ_=>.ao λh=>by cases h)) λc aa=>Tot.bB (λih=>?_) (λ_=>.ao rfl);obtain ⟨hi,IS⟩:=aa ih;have mV:i.toNat<s.dz.length:=by omega
   have r4:idx s.dz i=some s.dz[i.toNat]:=by simp [idx,aT,mV]
   rw [r4];generalize s.dz[i.toNat]=d;have hw:aM (i+1)=i+1:=by rw [cK]; omega
   refine Tot.aV (.ay (t22 d.Left 25 (by decide)) λcP H8=>Tot.aV ?_);refine .ay (Tot.make 5 wA (by decide) λvN k g0 Ud Ev Uc=>?_) λeo Ui=>?_
   ·refine .ay (Ξ:=λc=>c=true->k<d.eC.length/\k<5) (Tot.aV (Tot.bm (λh=>.ao λaf=>⟨h,of_decide_eq_true af⟩) (λ_=>.ao λh=>by cases h))) λc aa=>Tot.bB (λih=>?_) (λ_=>.ao rfl);obtain ⟨hk,IX⟩:=aa ih;have V5:k.toNat<d.eC.length:=by omega
    have V3:idx d.eC k=some d.eC[k.toNat]:=by simp [idx,g0,V5]
    simp only [Option.bind_some,V3];generalize d.eC[k.toNat]=a;have r':aM (k+1)=k+1:=by rw [cK]; omega
    refine .ay (t23 a.Prec) λfN Ul=>?_;refine .ay (Tot.make 6 (λp=>p.Sym.Name.size<=dJ/\p.Code.size<=dJ) (by decide) λfL j hq acf el ace=>?_) λnQ Un=>?_
    ·refine .ay (Ξ:=λc=>c=true->j<a.hc.length/\j<6) (Tot.bm (λh=>.ao λaf=>⟨h,of_decide_eq_true af⟩) (λ_=>.ao λh=>by cases h)) λc aa=>Tot.bB (λih=>?_) (λ_=>.ao rfl);obtain ⟨ag,BR⟩:=aa ih;refine .ay (Tot.hd (Φ:=λ_=>True) hq ag λ_ _ _=>trivial) λnR _=>.ay (t23 nR.Sym) λpW H9=>.ay (t22 nR.Code 60 (by decide)) λnS Nr=>.ay (Ξ:=λ_=>True) (Tot.ap (by simp [lim]; omega) trivial) λ_ _=>.ao ⟨BR,?_,_,rfl,H9,?_⟩
     ·grind [cK]
     grind
    ·refine .ay (Ξ:=λ_=>True) (Tot.ap (by simp [lim]; omega) trivial) λ_ _=>.ao ⟨IX,r',_,rfl,⟨?_,Un.2,Ul⟩⟩
     grind
   ·refine .ay (Ξ:=λ_=>True) (Tot.ap (by simp [lim]; omega) trivial) λ_ _=>.ao ⟨IS,hw,_,rfl,⟨?_,?_,Ui.2⟩⟩
    ·grind
    grind
  all_goals grind
theorem t24 (a n:Int) (h:0<n) (aE:n<=9223372036854775807):Tot (vZ a n) λr=>0<=r/\r<n:=by
 unfold vZ;have h1:-n<a.tmod n:=by
  by_cases aR:0<=a
  ·have:=Int.tmod_nonneg n aR;omega
  ·have af:(-a).tmod n<n:=Int.tmod_lt_of_pos _ h;rw [Int.neg_tmod] at af;omega
 have af:a.tmod n<n:=Int.tmod_lt_of_pos a h;refine .ay (Ξ:=λx=>x=a.tmod n) (Tot.rem (by omega) rfl) λx J=>?_;subst J;refine Tot.ay (Ξ:=λr=>0<=r/\r<n) (Tot.bm (λaI=>.ao ?_) (λaI=>.ao (by omega))) λr aj=>.ao aj
 grind [cK]
theorem t28 (k:Int) (h:0<=k):Tot (v7 k) λx=>x.Name.size=1/\x.Lit=true/\x.bN=0:=by
 unfold v7;refine .ay (Ξ:=λx=>x.size=4) (.ao rfl) λa8 h1=>.ay (Ξ:=λr=>r=k.tmod 4) (Tot.rem (by decide) rfl) λx2 af=>.ay (Ξ:=λr=>r=k.tmod 4) (Tot.rem (by decide) rfl) λa7 aI=>?_;subst af aI;have e:k.tmod 4=k % 4:=Int.tmod_eq_emod_of_nonneg h;rw [e];have hw:aM (k % 4+1)=k % 4+1:=by rw [cK]; omega
 rw [hw];refine .ay (Ξ:=λx=>x.size=1) (Tot.cut (by rw [h1]; omega) ?_) λbx bD=>.ao ⟨bD,rfl,rfl⟩
 grind [TC]
theorem t26 (k:Int):Tot (Ab k) λx=>x.size=1:=by
 unfold Ab;exact .ao (by rw [K1]; rfl)
theorem t27 (k n:Int) (h:0<n) (aE:n<=100):Tot (C1 k n) λx=>x.Name.size<=5:=by
 unfold C1;refine .ay (t24 k 14 (by decide) (by decide)) λa8 h1=>Tot.bm (λcF=>?_) (λcF=>Tot.bB (λ_=>.ao ?_) (λ_=>?_))
 ·refine .ay (Ξ:=λ_=>True) (Tot.rem (by omega) trivial) λa7 _=>.ay (t26 a7) λbx bD=>.ao ?_
  grind
 ·show (5:Nat)<=5;omega
 ·refine .ay (t28 _ ?_) λx J=>.ao (by omega)
  grind [cK]
structure AU (n:Nat) (d:Decl):Prop where
 tag:d.Tag.size=0
 n:d.eF.length<=n
 syms:∀ x∈d.eF,x.Name.size<=dJ
theorem t25 (l:List Int):Tot (Aa l) λr=>r.length<=4/\∀ d∈r,AU 10 d:=by
 unfold Aa;refine Tot.ay (Ξ:=λr=>r.length<=4/\∀ d∈r,AU 10 d) ?_ λr aj=>.ao aj;refine Tot.count (λs=>s.2) 4 (λs=>0<=s.2/\s.2<=4/\s.1.length<=s.2.toNat/\∀ d∈s.1,AU (1+s.2.toNat) d) ⟨Int.le_refl 0,by decide,Nat.le_refl 0,λd aS=>absurd aS (by simp)⟩ (by decide) λs aA=>?_;obtain ⟨r,i⟩:=s;obtain ⟨aT,bD,ai,aS⟩:=aA;simp only at aT bD ai aS ⊢;have hw:aM (i+1)=i+1:=by rw [cK]; omega
 rw [hw];refine .ay (Ξ:=λc=>c=true->i<l.length/\i<4) (Tot.bm (λh=>.ao λaf=>⟨h,of_decide_eq_true af⟩) (λ_=>.ao λh=>by cases h)) λc aa=>Tot.bB (λih=>?_) (λ_=>.ao ⟨by omega,λd jO=>⟨(aS d jO).tag,by have:=(aS d jO).n; omega,(aS d jO).syms⟩⟩);obtain ⟨hi,acT⟩:=aa ih;refine Tot.ay (Ξ:=λj=>j.length<=i.toNat+1/\∀ d∈j,AU (1+(i.toNat+1)) d) ?_ λj ag=>.ao ⟨⟨?_,?_,?_,?_⟩,?_,?_⟩
 ·refine .ay (Tot.hd (Φ:=λ_=>True) aT hi λ_ _ _=>trivial) λb2 _=>.ay (t24 b2 8 (by decide) (by decide)) λcy w8=>.ay (Ξ:=λ_=>True) (Tot.rem (by decide) trivial) λbH _=>?_;have mu:∀ d∈r,AU (1+(i.toNat+1)) d:=λd jO=>⟨(aS d jO).tag,by have:=(aS d jO).n; omega,(aS d jO).syms⟩;refine Tot.bB (λ_=>.ao ⟨by omega,mu⟩) (λ_=>?_);refine .ay (Ξ:=λc=>c=true->0<(r.length:Int)) (Tot.bB (λ_=>.ao λh=>of_decide_eq_true h) (λ_=>.ao λh=>by cases h)) λc aa=>Tot.bB (λua=>?_) (λ_=>?_)
  ·have sR:=aa ua;have WW:aM ((r.length:Int) - 1)=(r.length:Int) - 1:=by rw [cK]; omega
   rw [WW];refine .ay (Tot.hd (Φ:=λy=>y∈r) (by omega) (by omega) λ_ _ h=>h) λd jO=>.ay (t28 i aT) λx J=>.ay (Ξ:=λ_=>True) (Tot.ap (by have:=(aS d jO).n; simp [lim]; omega) trivial) λ_ _=>.ao ⟨by simp; omega,λMO zp=>?_⟩;rcases Pa zp with h | rfl
   ·grind
   ·refine ⟨(aS d jO).tag,?_,λy av=>?_⟩
    ·have:=(aS d jO).n
     grind
    ·rcases List.mem_append.1 av with av | av
     ·exact (aS d jO).syms y av
     grind
  ·refine .ay (Ξ:=λ_=>True) (Tot.rem (by decide) trivial) λdW _=>.ay (t28 i aT) λx J=>.ay (Ξ:=λ_=>True) (Tot.ap (by simp [lim]; omega) trivial) λ_ _=>.ao ⟨by simp; omega,λMO zp=>?_⟩;rcases List.mem_append.1 zp with h | h
   ·grind
   ·rw [List.mem_singleton.1 h];refine ⟨rfl,by show 1<=_; omega,λy av=>?_⟩
    grind
 all_goals grind
structure me (n:Nat) (r:fa):Prop where
 left:r.Left.size<=dJ
 n:r.eC.length<=n
 alts:∀ a∈r.eC,wA a
theorem me.mono {n m:Nat}{r:fa}(h:me n r) (hm:n<=m):me m r:=⟨h.left,Nat.le_trans h.n hm,h.alts⟩
theorem me.add {n:Nat}{r:fa}{a:Alt}(h:me n r) (aR:wA a):me (n+1) (⟨r.Left,r.eC++[a],r.At⟩:fa):=by
 refine ⟨h.left,by have:=h.n; show (r.eC++[a]).length<=_; simp; omega,λb au=>?_⟩;rcases List.mem_append.1 au with au | au
 ·exact h.alts b au
 grind
theorem LZ {l:List fa}{i n:Nat}{r:fa}(h:∀ x∈l,me n x) (aj:me n r):∀ x∈l.set i r,me n x:=by grind
theorem t10 (x:rG):Tot (zW x) qV:=by
 unfold zW;refine .ay (t24 x.ca 4 (by decide) (by decide)) λa8 h1=>.ay (t25 x.qP) λx2 af=>?_;have WS:aM (1+a8)=1+a8:=by rw [cK]; omega
 rw [WS];refine .ay (Ξ:=λl=>l=List.replicate (1+a8).toNat false) (Tot.mk (by simp [lim]; omega) rfl) λa7 aI=>?_;have acj:a7.length=(1+a8).toNat:=by rw [aI]; simp
 refine Tot.ay (Ξ:=λl=>(l.length:Int)=1+a8/\∀ r∈l,me 0 r) ?_ λbQ cF=>?_
 ·refine Tot.count (λs=>s.2) (1+a8) (λs=>0<=s.2/\s.2<=1+a8/\(s.1.length:Int)=s.2/\∀ r∈s.1,me 0 r) ⟨Int.le_refl 0,by show 0<=1+a8; omega,rfl,λd aS=>absurd aS (by simp)⟩ (by show 1+a8 - 0<_; omega) λs aA=>?_;obtain ⟨l,i⟩:=s;obtain ⟨g0,g1,ai,b_⟩:=aA;simp only at g0 g1 ai b_ ⊢;have hw:aM (i+1)=i+1:=by rw [cK]; omega
  rw [hw];refine Tot.bm (λaQ=>?_) (λ_=>.ao ⟨by omega,b_⟩);refine .ay (t26 i) λb2 rW=>.ay (Ξ:=λ_=>True) (Tot.ap (by simp [lim]; omega) trivial) λ_ _=>.ao ⟨⟨?_,?_,?_,λr aj=>?_⟩,?_,?_⟩
  ·grind
  ·grind
  ·grind
  ·rcases List.mem_append.1 aj with aj | aj
   ·grind
   ·rw [List.mem_singleton.1 aj];exact ⟨by show b2.size<=_; rw [rW]; decide,Nat.le_refl 0,λa aR=>absurd aR (by simp)⟩
  ·grind
  grind
 refine Tot.ay (Ξ:=λr=>(r.1.length:Int)=1+a8/\(r.2.length:Int)=1+a8/\∀ y∈r.1,me 9 y) ?_ λcp zj=>?_
 ·refine Tot.count (λs=>s.2.2) 9 (λs=>0<=s.2.2/\s.2.2<=9/\(s.1.length:Int)=1+a8/\(s.2.1.length:Int)=1+a8/\∀ y∈s.1,me s.2.2.toNat y) ⟨Int.le_refl 0,by show (0:Int)<=9; decide,cF.1,by show (a7.length:Int)=_; omega,cF.2⟩ (by show (9:Int) - 0<_; decide) λs aA=>?_;obtain ⟨l,au,i⟩:=s;obtain ⟨g0,g1,ai,IQ,b_⟩:=aA;simp only at g0 g1 ai IQ b_ ⊢;have hw:aM (i+1)=i+1:=by rw [cK]; omega
  rw [hw];refine .ay (Ξ:=λc=>c=true->i<x.dz.length/\i<9) (Tot.bm (λh=>.ao λaf=>⟨h,of_decide_eq_true af⟩) (λ_=>.ao λh=>by cases h)) λc aa=>Tot.bB (λih=>?_) (λ_=>.ao ⟨ai,IQ,λy av=>(b_ y av).mono (by omega)⟩);obtain ⟨hi,acU⟩:=aa ih;have mV:i.toNat<x.dz.length:=by omega
  have r4:idx x.dz i=some x.dz[i.toNat]:=by simp [idx,g0,mV]
  rw [r4];generalize x.dz[i.toNat]=d;have EC:∀ y∈l,me (i.toNat+1) y:=λy av=>(b_ y av).mono (by omega);refine Tot.ay (Ξ:=λj=>(j.1.length:Int)=1+a8/\(j.2.length:Int)=1+a8/\∀ y∈j.1,me (i.toNat+1) y) ?_ λj ag=>.ao ⟨⟨?_,?_,ag.1,ag.2.1,?_⟩,?_,?_⟩
  ·refine Tot.aV (Tot.bm (λ_=>.ao ⟨ai,IQ,EC⟩) (λda=>Tot.aV ?_));refine .ay (Tot.hd (Φ:=λ_=>True) (by decide) (by omega) λ_ _ _=>trivial) λdO _=>.ay (t24 dO (1+a8) (by omega) (by omega)) λe9 Nq=>?_;have nZ:∀ c:ByteArray,c.size<=dJ->((⟨(⟨⟨#[]⟩,false,0,0⟩:Sym),c,0⟩:Part).Sym.Name.size<=dJ/\(⟨(⟨⟨#[]⟩,false,0,0⟩:Sym),c,0⟩:Part).Code.size<=dJ):=λc aa=>⟨by show 0<=_; exact Nat.zero_le _,aa⟩;refine Tot.ay (Ξ:=λr=>r.1.length<=10/\∀ p∈r.1,p.Sym.Name.size<=dJ/\p.Code.size<=dJ) ?_ λfB Ug=>?_
   ·refine Tot.count (λs=>s.2.2) 5 (λs=>1<=s.2.2/\s.2.2<=5/\(s.1.length:Int)<=2 * (s.2.2 - 1)/\∀ p∈s.1,p.Sym.Name.size<=dJ/\p.Code.size<=dJ) ⟨Int.le_refl 1,by decide,by decide,λp ar=>absurd ar (by simp)⟩ (by decide) λs aA=>?_;obtain ⟨ps,pl,k⟩:=s;obtain ⟨k0,zI,XD,O1⟩:=aA;simp only at k0 zI XD O1 ⊢;have r':aM (k+1)=k+1:=by rw [cK]; omega
    rw [r'];refine .ay (Ξ:=λc=>c=true->k<d.length/\k<5) (Tot.aV (Tot.bm (λh=>.ao λaf=>⟨h,of_decide_eq_true af⟩) (λ_=>.ao λh=>by cases h))) λc aa=>Tot.bB (λih=>?_) (λ_=>.ao ⟨by show ps.length<=10; omega,O1⟩);obtain ⟨hk,ac0⟩:=aa ih;refine Tot.ay (Ξ:=λj=>(j.1.length:Int)<=2 * k/\∀ p∈j.1,p.Sym.Name.size<=dJ/\p.Code.size<=dJ) ?_ λj ag=>.ao ⟨⟨?_,?_,?_,ag.2⟩,?_,?_⟩
    ·refine Tot.aV (.ay (Tot.hd (Φ:=λ_=>True) (by omega) hk λ_ _ _=>trivial) λk1 _=>.ay (t27 k1 (1+a8) (by omega) (by omega)) λcP H8=>?_);refine .ay (Ξ:=λ_=>True) (Tot.bB (λ_=>Tot.bB (λ_=>.ao trivial) (λ_=>.ao trivial)) (λ_=>.ao trivial)) λ_ _=>.ay (Ξ:=λ_=>True) (Tot.ap (by simp [lim]; omega) trivial) λ_ _=>?_;have bg:∀ p∈ps++[(⟨cP,⟨#[]⟩,0⟩:Part)],p.Sym.Name.size<=dJ/\p.Code.size<=dJ:=λp ar=>by
      grind
     refine .ay (Ξ:=λ_=>True) ?_ λy_ _=>?_
     ·refine Tot.bm (λh=>Tot.bB (λ_=>.ay (Tot.hd (Φ:=λ_=>True) g0 h λ_ _ _=>trivial) λ_ _=>.ay (Ξ:=λ_=>True) (Tot.rem (by decide) trivial) λ_ _=>.ao trivial) (λ_=>.ao trivial)) (λ_=>.ao trivial)
     ·refine Tot.ay (Ξ:=λl=>(l.length:Int)<=2 * k/\∀ p∈l,p.Sym.Name.size<=dJ/\p.Code.size<=dJ) ?_ λj ag=>.ao ag;refine Tot.bB (λ_=>?_) (λ_=>.ao ⟨by simp; omega,bg⟩);refine .ay (Ξ:=λ_=>True) (Tot.ap (by simp [lim]; omega) trivial) λ_ _=>.ao ⟨by simp; omega,λp ar=>?_⟩;rcases List.mem_append.1 ar with ar | ar
      ·grind
      ·rw [List.mem_singleton.1 ar];exact nZ _ (by decide)
    all_goals grind
   ·refine .ay (Ξ:=λ_=>True) (Tot.bm (λh=>.ay (Tot.hd (Φ:=λ_=>True) g0 h λ_ _ _=>trivial) λ_ _=>.ay (Ξ:=λ_=>True) (Tot.rem (by decide) trivial) λ_ _=>.ao trivial) (λ_=>.ao trivial)) λaaj _=>?_;refine Tot.ay (Ξ:=λl=>l.length<=20/\∀ p∈l,p.Sym.Name.size<=dJ/\p.Code.size<=dJ) ?_ λoR Uo=>?_
    ·refine Tot.bB (λ_=>?_) (λ_=>.ao ⟨by omega,Ug.2⟩);refine .ay (Ξ:=λ_=>True) (Tot.ap (by simp [lim]; omega) trivial) λ_ _=>.ao ⟨by simp; omega,λp ar=>?_⟩;rcases List.mem_append.1 ar with ar | ar
     ·grind
     ·rw [List.mem_singleton.1 ar];exact nZ _ (by decide)
    ·refine Tot.ay (Ξ:=λl=>(l.length:Int)=1+a8) ?_ λMy Uq=>?_
     ·refine .ay (Tot.hd (Φ:=λ_=>True) Nq.1 (by omega) λ_ _ _=>trivial) λ_ _=>Tot.bB (λ_=>.ao (by simp; omega)) (λ_=>.ao (by simp; omega))
     ·refine .ay (Tot.hd (Φ:=λy=>y∈l) Nq.1 (by omega) λ_ _ h=>h) λkD Ur=>?_;have pz:=b_ kD Ur;refine .ay (Ξ:=λ_=>True) (Tot.ap (by have:=pz.n; simp [lim]; omega) trivial) λ_ _=>.ao ⟨by show ((l.set _ _).length:Int)=_; simp; omega,Uq,LZ EC (pz.add ⟨by show oR.length<=_; omega,Uo.2,Nat.zero_le _⟩)⟩
  all_goals grind
 refine Tot.ay (Ξ:=λl=>(l.length:Int)=1+a8/\∀ y∈l,me 20 y) ?_ λnS Nr=>.ao ⟨Nat.zero_le _,?_,λd aS=>?_,?_,λr aj=>?_⟩
 ·refine Tot.count (λs=>s.2) (1+a8) (λs=>0<=s.2/\s.2<=1+a8/\(s.1.length:Int)=1+a8/\∀ y∈s.1,me (9+s.2.toNat) y) ⟨Int.le_refl 0,by show 0<=1+a8; omega,zj.1,zj.2.2⟩ (by show 1+a8 - 0<_; omega) λs aA=>?_;obtain ⟨l,i⟩:=s;obtain ⟨g0,g1,ai,b_⟩:=aA;simp only at g0 g1 ai b_ ⊢;have hw:aM (i+1)=i+1:=by rw [cK]; omega
  rw [hw];refine Tot.bm (λaQ=>?_) (λ_=>.ao ⟨ai,λy av=>(b_ y av).mono (by omega)⟩);refine Tot.ay (Ξ:=λl=>(l.length:Int)=1+a8/\∀ y∈l,me (9+i.toNat+1) y) ?_ λj ag=>.ao ⟨⟨?_,?_,ag.1,?_⟩,?_,?_⟩
  ·refine .ay (Ξ:=λ_=>True) ?_ λaak _=>?_
   ·refine .ay (Tot.hd (Φ:=λ_=>True) g0 (by omega) λ_ _ _=>trivial) λwy _=>Tot.bB (λ_=>.ao trivial) (λ_=>.ay (Tot.hd (Φ:=λ_=>True) g0 (by omega) λ_ _ _=>trivial) λ_ _=>Tot.bB (λ_=>.ao trivial) (λ_=>.ao trivial))
   ·refine Tot.ay (Ξ:=λl=>(l.length:Int)=1+a8/\∀ y∈l,me (9+i.toNat+1) y) ?_ λj ag=>.ao ag;refine Tot.bB (λ_=>?_) (λ_=>.ao ⟨ai,λy av=>(b_ y av).mono (by omega)⟩);refine .ay (Tot.hd (Φ:=λy=>y∈l) g0 (by omega) λ_ _ h=>h) λkE Ew=>.ay (t28 i g0) λkF acu=>?_;have J:=b_ kE Ew;refine .ay (Ξ:=λ_=>True) (Tot.ap (by have:=J.n; simp [lim]; omega) trivial) λ_ _=>.ao ⟨by simp; omega,LZ (λy av=>(b_ y av).mono (by omega)) (J.add ⟨by show 1<=_; omega,λp ar=>?_,Nat.zero_le _⟩)⟩;have ar:p∈[(⟨kF,⟨#[]⟩,0⟩:Part)]:=ar;rw [List.mem_singleton.1 ar];exact ⟨by show kF.Name.size<=1000000000000; omega,Nat.zero_le _⟩
  all_goals grind
 ·grind
 ·have:=af.2 d aS;exact ⟨by rw [this.tag]; exact Nat.zero_le _,by have:=this.n; omega,this.syms⟩
 ·grind
 ·have:=Nr.2 r aj;exact ⟨this.left,by have:=this.n; omega,this.alts⟩
end Go.Proofs
namespace Go.Own
open Go Go.Sort
variable {α:Type} [DecidableEq α]
structure Ord (lt:α->α->Bool):Prop where
 swo:SWO lt
 je:∀ x y,lt x y=false->lt y x=false->x=y
def e3 (lt:α->α->Bool) (l:List α):Prop:=l.Pairwise λa b=>lt a b=true
omit [DecidableEq α] in
theorem e3.nd {lt:α->α->Bool}(h:Ord lt) {l:List α}(ai:e3 lt l):l.Nodup:=ai.imp λ{a b} BE e=>by
 subst e;rw [h.swo.irrefl] at BE; cases BE
omit [DecidableEq α] in
theorem e3.uniq {lt:α->α->Bool}(h:Ord lt) {l m:List α}(ai:e3 lt l) (hm:e3 lt m) (he:∀ x,x∈l↔x∈m):l=m :=
 List.Perm.eq_of_pairwise (le:=λa b=>lt a b=true) (λa b _ _ h1 af=>by have:=h.swo.trans _ _ _ h1 af; rw [h.swo.irrefl] at this; cases this) ai hm ((List.perm_ext_iff_of_nodup (ai.nd h) (hm.nd h)).2 he)
omit [DecidableEq α] in
theorem uy {l m:List α}(aS:l.Nodup) (hm:∀ x∈l,x∈m):l.length<=m.length:=by
 classical
 induction l generalizing m with
 | nil=>exact Nat.zero_le _
 | cons x l aU =>
  have J:=hm x (by simp);have mu:=List.nodup_cons.1 aS;have:=aU (m:=m.erase x) mu.2 λy av=>(List.mem_erase_of_ne (λe=>mu.1 (by rw [<- e]; exact av))).2 (hm y (by simp [av]));have ai:=List.length_erase_of_mem J;have ar:=List.length_pos_of_mem J;simp only [List.length_cons];omega
theorem Zk {lt:α->α->Bool}(h:Ord lt) {fR:α->α->Option Int}{l:List α}(aa:∀ a∈l,∀ b∈l,∃ v,fR a b=some v/\(v<0↔lt a b=true)) (aE:l.length<4611686018427387904):pP fR l=some (h7 (kx fR) l)/\∀ a∈l,∀ b∈l,kx fR a b=lt a b:=by
 have aQ:∀ a∈l,∀ b∈l,kx fR a b=lt a b:=by
  intro a aR b au;obtain ⟨v,hv,h⟩:=aa a aR b au;unfold kx;simp only [hv,Option.getD_some];cases hk:lt a b with
  | true=>exact decide_eq_true (h.2 hk)
  | false=>exact decide_eq_false λbY=>by rw [h.1 bY] at hk; cases hk
 refine ⟨?_,aQ⟩;unfold pP;rw [if_pos];simp only [Bool.and_eq_true,decide_eq_true_eq,List.all_eq_true];refine ⟨⟨λa aR b au=>?_,?_⟩,aE⟩
 ·obtain ⟨v,hv,_⟩:=aa a aR b au;rw [hv]; rfl
 ·unfold zU;simp only [List.all_eq_true,Bool.and_eq_true,Bool.or_eq_true,Bool.not_eq_true',decide_eq_true_eq];intro a aR;refine ⟨by rw [aQ a aR a aR]; exact h.swo.irrefl a,λb au=>⟨?_,λc aa=>⟨?_,?_⟩⟩⟩
  ·rw [aQ a aR b au,aQ b au a aR];cases h1:lt a b with
   | true=>exact .inl (.inl rfl)
   | false =>
    cases af:lt b a with
    | true=>exact .inl (.inr rfl)
    | false=>exact .inr (h.je _ _ h1 af)
  ·rw [aQ a aR b au,aQ b au c aa,aQ a aR c aa];cases h1:lt a b with
   | false=>exact .inl rfl
   | true =>
    cases af:lt b c with
    | false=>exact .inl rfl
    | true=>exact .inr (h.swo.trans _ _ _ h1 af)
  ·rw [aQ a aR b au,aQ b au c aa,aQ a aR c aa];cases h1:lt a b with
   | true=>exact .inl (.inl rfl)
   | false =>
    cases af:lt b c with
    | true=>exact .inl (.inr rfl)
    | false=>exact .inr (h.swo.ntrans _ _ _ h1 af)
omit [DecidableEq α] in
theorem Cm {lt lt':α->α->Bool}(x:α):∀ l:List α,(∀ y∈l,lt y x=lt' y x)->ins lt x l=ins lt' x l
 | [],_=>rfl
 | y::l,h=>by
  simp only [ins,h y (by simp)];rw [Cm x l λz aX=>h z (by simp [aX])]
omit [DecidableEq α] in
theorem Co {lt lt':α->α->Bool}:∀ l:List α,(∀ a∈l,∀ b∈l,lt a b=lt' a b)->h7 lt l=h7 lt' l
 | [],_=>rfl
 | x::l,h=>by
  simp only [h7];rw [Co l λa aR b au=>h a (by simp [aR]) b (by simp [au])];exact Cm x _ λy av=>h y (by simp [(sX lt' l).mem_iff.1 av]) x (by simp)
theorem Zj {lt:α->α->Bool}(h:Ord lt) {fR:α->α->Option Int}{l:List α}(aa:∀ a∈l,∀ b∈l,∃ v,fR a b=some v/\(v<0↔lt a b=true)) (aE:l.length<4611686018427387904):pP fR l=some (h7 lt l):=by
 obtain ⟨h1,af⟩:=Zk h aa aE;rw [h1,Co l af]
end Go.Own
namespace Go.Proofs
open Go Go.Own Go.Sort
set_option maxRecDepth 100000
set_option linter.unusedVariables false
def gT (a b:Item):Bool:=decide (a.Prod<b.Prod\/(a.Prod=b.Prod/\a.fc<b.fc))
theorem J' {a b:Item}:gT a b=true↔(a.Prod<b.Prod\/(a.Prod=b.Prod/\a.fc<b.fc)):=by simp [gT]
theorem CC {a b:Item}:gT a b=false↔¬ (a.Prod<b.Prod\/(a.Prod=b.Prod/\a.fc<b.fc)):=by simp [gT]
theorem vS:Ord gT where
 swo:=⟨λx=>by rw [CC]; omega,λx y z h1 af=>by rw [J'] at *; omega,λx y z h1 af=>by rw [CC] at *; omega⟩
 je x y h1 af:=by
  rw [CC] at h1 af;obtain ⟨a8,x2⟩:=x;obtain ⟨bu,y2⟩:=y;simp only at h1 af;have:a8=bu:=by omega
  have:x2=y2:=by omega
  subst_vars; rfl
def ja (g:bO) (x:Item):Prop:=∃ q,idx g.bj x.Prod=some q/\0<=x.fc/\x.fc<=q.ef.length
def hN (g:bO) (x:Item):Int:=match idx g.bj x.Prod with
 | some q=>(idx q.ef x.fc).getD (-1)
 | none=>-1
theorem n' {α:Type}{l:List α}{i:Int}{y:α}(h:idx l i=some y):0<=i/\i<l.length/\y∈l:=by
 unfold idx at h
 split at h
 ·rename_i aT;obtain ⟨h1,af⟩:=List.getElem?_eq_some_iff.1 h;exact ⟨aT,by omega,List.mem_of_getElem? h⟩
 ·cases h
theorem JN {α:Type}{l:List α}{i:Int}(h:i<0\/(l.length:Int)<=i):idx l i=none:=by
 unfold idx;split
 ·exact List.getElem?_eq_none (by omega)
 ·rfl
theorem nH {α:Type}{l:List α}{i:Int}(aT:0<=i) (h1:i<l.length):∃ y,idx l i=some y/\y∈l:=by
 have aQ:i.toNat<l.length:=by omega
 exact ⟨l[i.toNat],by simp [idx,aT,aQ],List.getElem_mem aQ⟩
theorem dT {α:Type}{l:List α}{k:Nat}(h:k<l.length):idx l (k:Int)=some l[k]:=by simp [idx,h]
theorem MQ (g:bO) (x:Item):∃ c,zY g x=some c/\(c=true↔ja g x):=by
 unfold zY;by_cases aT:0<=x.Prod
 ·by_cases h1:x.Prod<g.bj.length
  ·obtain ⟨q,bg,_⟩:=nH aT h1;by_cases af:0<=x.fc
   ·refine ⟨decide (x.fc<=(q.ef.length:Int)),by simp [aT,h1,af,bg],?_⟩;rw [decide_eq_true_eq];exact ⟨λh=>⟨q,bg,af,h⟩,λ⟨fQ,zx,_,h⟩=>by rw [bg] at zx; cases zx; exact h⟩
   ·exact ⟨false,by simp [aT,h1,af],λh=>(by cases h),λ⟨_,_,h,_⟩=>absurd h af⟩
  ·exact ⟨false,by simp [aT,h1],λh=>(by cases h),λ⟨_,h,_⟩=>absurd (n' h).2.1 h1⟩
 ·exact ⟨false,by simp [aT],λh=>(by cases h),λ⟨_,h,_⟩=>absurd (n' h).1 aT⟩
theorem HI (g:bO) (x:Item):x_ g x=some (hN g x):=by
 unfold x_ hN;obtain ⟨c,aa,hi⟩:=MQ g x;rw [aa];simp only [Option.bind_some];cases c with
 | false =>
  have aE:¬ ja g x:=λh=>by have:=hi.2 h; cases this
  simp only [Bool.not_false,cond_true,Option.bind_some];cases bg:idx g.bj x.Prod with
  | none=>rfl
  | some q =>
   have:idx q.ef x.fc=none:=JN (by
    by_cases aT:0<=x.fc
    ·right;by_cases h1:x.fc<=q.ef.length
     ·exact absurd ⟨q,bg,aT,h1⟩ aE
     ·omega
    ·left; omega)
   simp [this]
 | true =>
  obtain ⟨q,bg,aT,h1⟩:=hi.1 rfl;simp only [Bool.not_true,cond_false,bg,Option.bind_some];by_cases he:x.fc=q.ef.length
  ·rw [JN (.inr (by omega))];simp [he]
  ·obtain ⟨s,aA,_⟩:=nH (l:=q.ef) (i:=x.fc) aT (by omega);simp [he,aA]
theorem Po {g:bO}(aP:hb g) {x:Item}(h:0<=hN g x):ja g x/\qW g.ba.length (g.ca.length - 1) (hN g x)/\∃ q,idx g.bj x.Prod=some q/\idx q.ef x.fc=some (hN g x):=by
 cases bg:idx g.bj x.Prod with
 | none =>
  have:hN g x=-1:=by unfold hN; rw [bg]
  rw [this] at h; exact absurd h (by decide)
 | some q =>
  cases aA:idx q.ef x.fc with
  | none =>
   have:hN g x=-1:=by unfold hN; rw [bg]; simp [aA]
   rw [this] at h; exact absurd h (by decide)
  | some s =>
   have e:hN g x=s:=by unfold hN; rw [bg]; simp [aA]
   rw [e];obtain ⟨aT,h1,hm⟩:=n' aA;exact ⟨⟨q,bg,aT,by omega⟩,(aP.hl q (n' bg).2.2).right s hm,q,rfl,aA⟩
inductive nU (g:bO) (l:List Item):Item->Prop
 | base {x:Item}(h:x∈l) (hi:ja g x):nU g l x
 | step {x:Item}{q:Prod}{p:Nat}(h:nU g l x) (ar:g.bj[p]?=some q) (aE:hN g x=1000+q.Left) (aT:1000<=hN g x):nU g l ⟨p,0⟩
theorem OX {g:bO}{p:Nat}{q:Prod}(ar:g.bj[p]?=some q):ja g ⟨p,0⟩:=⟨q,by simp [idx,ar],Int.le_refl _,by show (0:Int)<=_; omega⟩
theorem nU.ja {g:bO}{l:List Item}{x:Item}(h:nU g l x):ja g x:=by
 cases h with
 | base _ hi=>exact hi
 | step _ ar _ _=>exact OX ar
theorem XW {g:bO}(aP:hb g) (x:Item):-1<=hN g x/\hN g x<=1023:=by
 by_cases h:0<=hN g x
 ·obtain ⟨_,aA,_⟩:=Po aP h;have:=aP.dx;have:=aP.kk;rcases aA with aA | aA <;> omega
 ·refine ⟨?_,by omega⟩;revert h;unfold hN;cases bg:idx g.bj x.Prod with
  | none=>intro _; exact Int.le_refl _
  | some q =>
   cases aA:idx q.ef x.fc with
   | none=>intro _; simp [aA]
   | some s =>
    intro h;have hm:=(aP.hl q (n' bg).2.2).right s (n' aA).2.2;simp only [aA,Option.getD_some] at h ⊢;rcases hm with hm | hm <;> omega
def hg (m:List Bool):Nat:=(m.filter λb=>b).length
theorem wX:∀ (m:List Bool) (i:Nat),i<m.length->m.getD i false=false->hg (m.set i true)=hg m+1
 | [],i,h,_=>by simp at h
 | b::m,0,_,h=>by
  have:b=false:=by simpa using h
  subst this;simp [hg]
 | b::m,i+1,h,aT=>by
  have:=wX m i (by simpa using h) (by simpa using aT);unfold hg at this ⊢;simp only [List.set_cons_succ,List.filter_cons];cases b <;> simp [this]
theorem S_ (m:List Bool):hg m<=m.length:=List.length_filter_le _ _
theorem kj {α:Type}{r:List α}{k:Nat}(h:k<r.length):r.take (k+1)=r.take k++[r[k]]:=by
 simp_all
theorem Gr (k:Nat) (h:k<=1000000000000):aM ((k:Int)+1)=((k+1:Nat):Int):=by
 grind [cK]
def allI (g:bO):List Item:=(List.range g.bj.length).flatMap λp=>(List.range 9).map λd=>(⟨(p:Nat),(d:Nat)⟩:Item)
theorem R2 (g:bO):(allI g).length=g.bj.length * 9:=by
 have:∀ l:List Nat,(l.map λ_=>9).sum=l.length * 9:=λl=>by
  induction l with
  | nil=>rfl
  | cons a l aU=>simp only [List.map_cons,List.sum_cons,aU,List.length_cons]; omega
 simp [allI,List.length_flatMap,this]
theorem XK {g:bO}(aP:hb g) {x:Item}(h:ja g x):x∈allI g:=by
 obtain ⟨q,bg,aT,h1⟩:=h;obtain ⟨af,aI,bD⟩:=n' bg;have:=aP.aH q bD;refine List.mem_flatMap.2 ⟨x.Prod.toNat,by simp; omega,List.mem_map.2 ⟨x.fc.toNat,by simp; omega,?_⟩⟩;obtain ⟨a,b⟩:=x;simp only at aT af ⊢;congr 1 <;> omega
theorem tz {g:bO}(aP:hb g) {l:List Item}(ai:e3 gT l) (hi:∀ x∈l,ja g x):l.length<=540:=by
 have:=uy (ai.nd vS) λx J=>XK aP (hi x J);rw [R2] at this;have:=aP.hE;omega
theorem Sg {l:List Item}(ai:e3 gT l) {i j:Nat}(hi:i<l.length) (ag:j<l.length) (h:i<j):gT l[i] l[j]=true:=List.pairwise_iff_getElem.1 ai i j hi ag h
theorem Ho (l:List Item) (x:Item) (ai:e3 gT l) (aE:l.length<=100000):Tot (xY l x) λr=>e3 gT r/\(∀ y,y∈r↔y∈l\/y=x):=by
 unfold xY;refine .ay (Ξ:=λz:Int=>∃ k:Nat,z=(k:Int)/\k<=l.length/\(∀ (i:Nat) (h:i<l.length),k<=i->gT x l[i]=true)/\∀ (h:0<k),gT x (l[k - 1]?.getD default)=false) ?_ λz aX=>?_
 ·refine Tot.count (λs=>-s) 1 (λs=>∃ k:Nat,s=(k:Int)/\k<=l.length/\∀ (i:Nat) (h:i<l.length),k<=i->gT x l[i]=true) ⟨l.length,rfl,Nat.le_refl _,λi h hk=>by omega⟩ (by show 1 - -(l.length:Int)<_; omega) λs aA=>?_;obtain ⟨k,rfl,hk,uk⟩:=aA;refine .ay (Ξ:=λc:Bool=>(c=true->0<k/\gT x (l[k - 1]?.getD default)=true)/\(c=false->∀ (h:0<k),gT x (l[k - 1]?.getD default)=false)) ?_ λc aa=>Tot.bB (λh=>?_) (λh=>.ao ⟨k,rfl,hk,uk,aa.2 h⟩)
  ·refine Tot.bm (λh=>?_) (λh=>.ao ⟨λaL=>(by cases aL),λ_ aL=>by omega⟩);have gZ:k - 1<l.length:=by omega
   have hw:aM ((k:Int) - 1)=((k - 1:Nat):Int):=by rw [cK]; omega
   rw [hw,dT gZ,List.getElem?_eq_getElem gZ];simp only [Option.bind_some,Option.getD_some];generalize l[k - 1]=y;refine Tot.bm (λh1=>.ao ⟨λ_=>⟨by omega,J'.2 (.inl h1)⟩,λaL=>(by cases aL)⟩) (λh1=>Tot.bm (λaf=>.ao ⟨λaI=>⟨by omega,J'.2 (.inr ⟨af.symm,of_decide_eq_true aI⟩)⟩,λaI _=>?_⟩) (λaf=>.ao ⟨λaL=>(by cases aL),λ_ _=>?_⟩))
   ·have:=of_decide_eq_false aI;rw [CC]; omega
   ·rw [CC]; omega
  ·obtain ⟨aT,h1⟩:=aa.1 h;refine .ao ⟨⟨k - 1,by rw [cK]; omega,by omega,λi hi V4=>?_⟩,by show -(k:Int) < -aM _; rw [cK]; omega,by show -aM _<=1; rw [cK]; omega⟩;by_cases e:i=k - 1
   ·subst e;rw [List.getElem?_eq_getElem hi] at h1;exact h1
   ·exact uk i hi (by omega)
 ·obtain ⟨k,rfl,hk,uk,lJ⟩:=aX;refine .ay (Ξ:=λc:Bool=>(c=true↔(0<k/\l[k - 1]?.getD default=x))) ?_ λc aa=>Tot.bB (λh=>?_) (λh=>?_)
  ·refine Tot.bm (λh=>?_) (λh=>.ao ⟨λaL=>(by cases aL),λaL=>by omega⟩);have gZ:k - 1<l.length:=by omega
   have hw:aM ((k:Int) - 1)=((k - 1:Nat):Int):=by rw [cK]; omega
   rw [hw,dT gZ,List.getElem?_eq_getElem gZ];simp only [Option.bind_some,Option.getD_some];generalize l[k - 1]=y;refine .ao ?_;obtain ⟨bu,y2⟩:=y;obtain ⟨a8,x2⟩:=x;simp only [Bool.and_true,Bool.and_eq_true,decide_eq_true_eq,Item.mk.injEq];exact ⟨λaL=>⟨by omega,aL⟩,λaL=>aL.2⟩
  ·obtain ⟨aT,h1⟩:=aa.1 h;have gZ:k - 1<l.length:=by omega
   rw [List.getElem?_eq_getElem gZ] at h1;have J:x∈l:=by rw [<- h1]; exact List.getElem_mem gZ
   exact .ao ⟨ai,λy=>⟨.inl,λh=>h.elim id λe=>e ▸ J⟩⟩
  ·have da:∀ (i:Nat) (hi:i<l.length),i<k->gT l[i] x=true:=by
    intro i hi IT;have gZ:k - 1<l.length:=by omega
    have lJ:=lJ (by omega);have aE:l[k - 1]?.getD default≠x:=λe=>by rw [aa.2 ⟨by omega,e⟩] at h; cases h
    rw [List.getElem?_eq_getElem gZ] at lJ aE;simp only [Option.getD_some] at lJ aE;have f':gT l[k - 1] x=true:=by
     cases bY:gT l[k - 1] x with
     | true=>rfl
     | false=>exact absurd (vS.je _ _ bY lJ) aE
    by_cases e:i=k - 1
    ·subst e; exact f'
    ·exact vS.swo.trans _ _ _ (Sg ai hi gZ (by omega)) f'
   refine .ay (Ξ:=λz=>z=l.take k) (Tot.sub ⟨by omega,by omega,by omega⟩ (by simp)) λz aX=>?_;subst aX;refine .ay (Ξ:=λ_=>True) (Tot.ap (by simp [lim]; omega) trivial) λ_ _=>.ay (Ξ:=λ_=>True) (Tot.ap (by simp [lim]; omega) trivial) λ_ _=>?_;refine .ay (Ξ:=λz=>z=l.drop k) (Tot.sub ⟨by omega,by omega,by omega⟩ ?_) λz aX=>?_
   ·rw [List.take_of_length_le]
    ·congr 1
    ·rw [List.length_drop]; omega
   subst aX;refine .ay (Ξ:=λ_=>True) (Tot.ap (by simp [lim]; omega) trivial) λ_ _=>.ao ?_;rw [List.nil_append];constructor
   ·have h1:∀ a∈l.take k,gT a x=true:=by
     intro a aR;obtain ⟨i,hi,rfl⟩:=List.mem_iff_getElem.1 aR;rw [List.length_take] at hi;rw [List.getElem_take];exact da i (by omega) (by omega)
    have af:∀ a∈l.drop k,gT x a=true:=by
     intro a aR;obtain ⟨i,hi,rfl⟩:=List.mem_iff_getElem.1 aR;rw [List.length_drop] at hi;rw [List.getElem_drop];exact uk (k+i) (by omega) (by omega)
    unfold e3;rw [List.append_assoc,List.pairwise_append];refine ⟨List.Pairwise.sublist (List.take_sublist k l) ai,?_,λa aR b au=>?_⟩
    ·rw [List.singleton_append,List.pairwise_cons];exact ⟨af,List.Pairwise.sublist (List.drop_sublist k l) ai⟩
    ·rcases List.mem_append.1 au with au | au
     ·rw [List.mem_singleton.1 au]; exact h1 a aR
     ·exact vS.swo.trans _ _ _ (h1 a aR) (af b au)
   ·intro y;rw [List.append_assoc,List.mem_append,List.mem_append,List.mem_singleton];have hm:y∈l↔y∈l.take k\/y∈l.drop k:=by
     rw [<- List.mem_append,List.take_append_drop]
    rw [hm];constructor
    ·rintro (h | h | h)
     ·exact .inl (.inl h)
     ·exact .inr h
     ·exact .inl (.inr h)
    ·rintro ((h | h) | h)
     ·exact .inl h
     ·exact .inr (.inr h)
     ·exact .inr (.inl h)
theorem SC (g:bO) (aP:hb g) (l:List Item) (ai:l.length<=1000000):Tot (CR g l) λr=>e3 gT r/\∀ x,x∈r↔x∈l/\ja g x:=by
 unfold CR;refine .ay (Ξ:=λr=>e3 gT r/\∀ x,x∈r↔x∈l/\ja g x) ?_ λr aj=>.ao aj;refine Tot.count (λs=>s.2) l.length (λs=>∃ k:Nat,k<=l.length/\s.2=(k:Int)/\e3 gT s.1/\∀ x,x∈s.1↔x∈l.take k/\ja g x) ⟨0,Nat.zero_le _,rfl,List.Pairwise.nil,λx=>by simp⟩ (by show (l.length:Int) - 0<_; omega) λs aA=>?_;obtain ⟨out,ke⟩:=s;obtain ⟨k,hk,rfl,aR,hm⟩:=aA;simp only at aR hm ⊢;rw [Gr k (by omega)];refine Tot.bm (λaQ=>?_) (λdG=>.ao ?_)
 ·have aQ:k<l.length:=by omega
  rw [dT aQ];refine .ay (Ξ:=λo:List Item=>e3 gT o/\∀ x,x∈o↔x∈l.take (k+1)/\ja g x) ?_ λo aY=>.ao ⟨⟨k+1,by omega,rfl,aY⟩,by show (k:Int)<((k+1:Nat):Int); omega,by show ((k+1:Nat):Int)<=_; omega⟩;obtain ⟨c,aa,hi⟩:=MQ g l[k];rw [kj aQ];refine Tot.aV ?_;rw [aa];refine Tot.aV (.ay (Ξ:=λo:List Item=>e3 gT o/\∀ x,x∈o↔x∈l.take k++[l[k]]/\ja g x) (Tot.bB (λh=>?_) (λh=>.ao ⟨aR,λx=>?_⟩)) λo aY=>.ao aY)
  ·have uh:=tz aP aR λx J=>((hm x).1 J).2;refine Tot.aV (.ay (Ho out _ aR (by omega)) λo aY=>.ao ⟨aY.1,λx=>?_⟩);rw [aY.2 x,List.mem_append,List.mem_singleton,hm x];constructor
   ·rintro (⟨h1,af⟩ | rfl)
    ·exact ⟨.inl h1,af⟩
    ·exact ⟨.inr rfl,hi.1 h⟩
   ·rintro ⟨h1 | rfl,af⟩
    ·exact .inl ⟨h1,af⟩
    ·exact .inr rfl
  ·rw [List.mem_append,List.mem_singleton,hm x];constructor
   ·rintro ⟨h1,af⟩;exact ⟨.inl h1,af⟩
   ·rintro ⟨h1 | rfl,af⟩
    ·exact ⟨h1,af⟩
    ·rw [hi.2 af] at h; cases h
 ·have:k=l.length:=by omega
  subst this;rw [List.take_length] at hm;exact ⟨aR,hm⟩
def wC (g:bO) (out:List Item) (x:Item):Prop:=1000<=hN g x->∀ (p:Nat) (q:Prod),g.bj[p]?=some q->q.Left=hN g x - 1000->(⟨p,0⟩:Item)∈out
theorem Hz (g:bO) (aP:hb g) (l:List Item) (ai:l.length<=1000000):Tot (x9 g l) λr=>e3 gT r/\∀ x,x∈r↔nU g l x:=by
 have q_:=aP.hE;unfold x9;refine .ay (SC g aP l ai) λa8 h1=>.ay (Ξ:=λr=>e3 gT r/\∀ x,x∈r↔nU g l x) ?_ λr aj=>.ao aj;obtain ⟨U',zv⟩:=h1;refine Tot.loop (λs=>e3 gT s.1/\(∀ x∈s.1,nU g l x)/\(∀ x∈l,ja g x->x∈s.1)/\(s.2=(s.1.length:Int)->∀ x∈s.1,wC g s.1 x)) (λs=>2 * (1000 - s.1.length)+(if s.2=(s.1.length:Int) then 0 else 1)) ⟨U',λx J=>.base ((zv x).1 J).1 ((zv x).1 J).2,λx J hi=>(zv x).2 ⟨J,hi⟩,λh=>by have h:(-1:Int)=_:=h; omega⟩ (by
  show 2 * (1000 - a8.length)+(if (-1:Int)=_ then 0 else 1)<1000000000000000000
  split <;> omega) λs aA=>?_
 obtain ⟨out,n⟩:=s;obtain ⟨aR,gE,vl,gR⟩:=aA;simp only at aR gE vl gR ⊢;have uh:=tz aP aR λx J=>(gE x J).ja;refine Tot.oD (λda=>?_) (λhe=>.ao ⟨aR,λx=>⟨gE x,λJ=>?_⟩⟩)
 ·refine .ay (Ξ:=λj:List Item × Int=>j.2=(out.length:Int)/\e3 gT j.1/\(∀ x∈j.1,nU g l x)/\(∀ x∈out,x∈j.1)/\(j.1.length=out.length->∀ x∈j.1,wC g j.1 x)) ?_ λj ag=>?_
  ·refine .ay (Ξ:=λr:List Item=>e3 gT r/\(∀ x∈r,nU g l x)/\(∀ x∈out,x∈r)/\(r.length=out.length->∀ x∈r,wC g r x)) ?_ λr aj=>.ao ⟨rfl,aj⟩;refine .ay (Ξ:=λr:List Item=>e3 gT r/\(∀ x∈r,nU g l x)/\(∀ x∈out,x∈r)/\(r.length=out.length->∀ x∈r,wC g r x)) ?_ λr aj=>.ao aj;refine Tot.count (λs=>s.2) out.length (λs=>∃ k:Nat,k<=out.length/\s.2=(k:Int)/\s.1=out/\∀ (j:Nat) (h:j<out.length),j<k->wC g out out[j]) ⟨0,Nat.zero_le _,rfl,rfl,λj _ ag=>absurd ag (Nat.not_lt_zero _)⟩ (by show (out.length:Int) - 0<_; omega) λs aA=>?_;obtain ⟨cur,ke⟩:=s;obtain ⟨k,hk,rfl,rfl,NY⟩:=aA;simp only;rw [Gr k (by omega)];refine Tot.bm (λaQ=>?_) (λdG=>.ao ⟨aR,gE,λ_ h=>h,λ_ x J=>?_⟩)
   ·have aQ:k<cur.length:=by omega
    rw [dT aQ];have vH:=gE _ (List.getElem_mem aQ);have E2:∀ P:Item->Prop,P cur[k]->∀ (j:Nat) (h:j<cur.length),j=k->P cur[j]:=λP b_ j h e=>by subst e; exact b_
    generalize J:cur[k]=x at *;have ac9:=XW aP x;have hw:aM (hN g x - 1000)=hN g x - 1000:=by rw [cK]; omega
    simp only [Option.bind_some,HI g x,hw];refine (.ay (Ξ:=λr:List Item=>e3 gT r/\(∀ x∈r,nU g l x)/\(∀ x∈cur,x∈r)/\wC g r x) ?_ λr aj=>?_)
    ·refine Tot.count (λs=>s.2) g.bj.length (λs=>∃ i:Nat,i<=g.bj.length/\s.2=(i:Int)/\e3 gT s.1/\(∀ x∈s.1,nU g l x)/\(∀ x∈cur,x∈s.1)/\∀ (p:Nat) (q:Prod),p<i->g.bj[p]?=some q->q.Left=hN g x - 1000->(⟨p,0⟩:Item)∈s.1) ⟨0,Nat.zero_le _,rfl,aR,gE,λ_ h=>h,λp q ar=>absurd ar (Nat.not_lt_zero _)⟩ (by show (g.bj.length:Int) - 0<_; omega) λs aA=>?_;obtain ⟨o,oP⟩:=s;obtain ⟨i,hi,rfl,r7,B1,ES,vy⟩:=aA;simp only at r7 B1 ES vy ⊢;rw [Gr i (by omega)];refine .ay (Ξ:=λc:Bool=>(c=true->i<g.bj.length/\1000<=hN g x)/\(c=false->g.bj.length<=i\/hN g x<1000)) (Tot.bm (λh=>.ao ⟨λaL=>⟨by omega,of_decide_eq_true aL⟩,λaL=>.inr (by have:=of_decide_eq_false aL; omega)⟩) (λh=>.ao ⟨λaL=>(by cases aL),λ_=>.inl (by omega)⟩)) λc aa=>Tot.bB (λh=>?_) (λh=>.ao ⟨r7,B1,ES,λaT p q ar=>?_⟩)
     ·obtain ⟨I7,aT⟩:=aa.1 h;have Oq:g.bj[i]?=some g.bj[i]:=List.getElem?_eq_getElem I7;rw [dT I7];refine .ay (Ξ:=λo:List Item=>e3 gT o/\(∀ x∈o,nU g l x)/\(∀ x∈cur,x∈o)/\∀ (p:Nat) (q:Prod),p<i+1->g.bj[p]?=some q->q.Left=hN g x - 1000->(⟨p,0⟩:Item)∈o) ?_ λo aY=>.ao ⟨⟨i+1,by omega,rfl,aY⟩,by show (i:Int)<((i+1:Nat):Int); omega,by show ((i+1:Nat):Int)<=_; omega⟩;refine Tot.aV (.ay (Ξ:=λo:List Item=>e3 gT o/\(∀ x∈o,nU g l x)/\(∀ x∈cur,x∈o)/\∀ (p:Nat) (q:Prod),p<i+1->g.bj[p]?=some q->q.Left=hN g x - 1000->(⟨p,0⟩:Item)∈o) (Tot.bm (λh=>?_) (λh=>.ao ⟨r7,B1,ES,λp q ar B6 bg=>?_⟩)) λo aY=>.ao aY)
      ·have I6:=tz aP r7 λx J=>(B1 x J).ja;refine .ay (Ho o ⟨(i:Nat),0⟩ r7 (by omega)) λr aj=>.ao ⟨aj.1,λy av=>?_,λy av=>(aj.2 y).2 (.inl (ES y av)),λp q ar B6 bg=>?_⟩
       ·rcases (aj.2 y).1 av with av | rfl
        ·exact B1 y av
        ·exact .step vH Oq (by omega) aT
       ·by_cases cu:p=i
        ·subst cu; exact (aj.2 _).2 (.inr rfl)
        ·exact (aj.2 _).2 (.inl (vy p q (by omega) B6 bg))
      ·by_cases cu:p=i
       ·subst cu;rw [Oq] at B6; cases B6;exact absurd bg h
       ·exact vy p q (by omega) B6 bg
     ·rcases aa.2 h with h1 | h1
      ·exact vy p q (by have:=(List.getElem?_eq_some_iff.1 ar).1; omega) ar
      ·omega
    ·obtain ⟨sS,Wo,l3,Wu⟩:=aj;have hle:cur.length<=r.length:=uy (aR.nd vS) l3;refine Tot.oD (λJc=>.ao ⟨sS,Wo,l3,λe=>absurd (by omega) Jc⟩) (λheq=>?_);have kR:r.length=cur.length:=by omega
     have Ww:r=cur:=by
      have nz:∀ y,y∈cur↔y∈r:=by
       intro y;refine ⟨l3 y,λav=>Classical.byContradiction λaE=>?_⟩;have:=uy (l:=y::cur) (m:=r) (List.nodup_cons.2 ⟨aE,aR.nd vS⟩) λz aX=>by
        rcases List.mem_cons.1 aX with rfl | aX
        ·exact av
        ·exact l3 z aX
       simp at this;omega
      exact (e3.uniq vS aR sS nz).symm
     subst Ww;refine .ao ⟨⟨k+1,by omega,rfl,rfl,λj ag fU=>?_⟩,by show (k:Int)<((k+1:Nat):Int); omega,by show ((k+1:Nat):Int)<=_; omega⟩;by_cases cu:j=k
     ·exact E2 (wC g r) Wu j ag cu
     ·exact NY j ag (by omega)
   ·obtain ⟨j,ag,rfl⟩:=List.mem_iff_getElem.1 J;exact NY j ag (by omega)
  ·obtain ⟨h1,af,aI,bD,cF⟩:=ag;have hle:out.length<=j.1.length:=uy (aR.nd vS) bD;have e0:=tz aP af λx J=>(aI x J).ja;refine .ao ⟨⟨af,aI,λx J hi=>bD x (vl x J hi),λe=>cF (by show j.1.length=_; have e:j.2=(j.1.length:Int):=e; omega)⟩,?_⟩;show 2 * (1000 - j.1.length)+(if j.2=(j.1.length:Int) then 0 else 1)<2 * (1000 - out.length)+(if n=(out.length:Int) then 0 else 1)
   rw [if_neg da];split
   ·omega
   ·have:j.1.length≠out.length:=λe=>by omega
    omega
 ·have aa:=gR he
  induction J with
  | base h hi=>exact vl _ h hi
  | @step x q p h ar aE aT aU=>exact aa x aU aT p q ar (by omega)
def D3 (g:bO) (l:List Item) (a:Int) (y:Item):Prop:=∃ x,nU g l x/\hN g x=a/\0<=a/\y=⟨x.Prod,x.fc+1⟩
theorem OW {g:bO}(aP:hb g) {x:Item}(h:0<=hN g x):ja g ⟨x.Prod,x.fc+1⟩:=by
 obtain ⟨_,_,q,bg,aA⟩:=Po aP h;obtain ⟨aT,h1,_⟩:=n' aA;exact ⟨q,bg,by show 0<=x.fc+1; omega,by show x.fc+1<=_; omega⟩
theorem Xz {g:bO}(aP:hb g) {x:Item}(h:ja g x):0<=x.fc/\x.fc<=8:=by
 obtain ⟨q,bg,aT,h1⟩:=h;have:=aP.aH q (n' bg).2.2;omega
theorem D3.ja {g:bO}(aP:hb g) {l:List Item}{a:Int}{y:Item}(h:D3 g l a y):ja g y:=by
 obtain ⟨x,_,h1,af,rfl⟩:=h;exact OW aP (by omega)
theorem SZ (g:bO) (aP:hb g) (l:List Item) (a:Int) (ai:l.length<=1000000):Tot (Df g l a) λr=>e3 gT r/\∀ y,y∈r↔D3 g l a y:=by
 unfold Df;refine .ay (Hz g aP l ai) λc aa=>.ay (Ξ:=λr=>e3 gT r/\∀ y,y∈r↔D3 g l a y) ?_ λr aj=>.ao aj;have gR:=tz aP aa.1 λx J=>((aa.2 x).1 J).ja;refine Tot.count (λs=>s.2) c.length (λs=>∃ k:Nat,k<=c.length/\s.2=(k:Int)/\e3 gT s.1/\∀ y,y∈s.1↔∃ x∈c.take k,hN g x=a/\0<=a/\y=⟨x.Prod,x.fc+1⟩) ⟨0,Nat.zero_le _,rfl,List.Pairwise.nil,λy=>by simp⟩ (by show (c.length:Int) - 0<_; omega) λs aA=>?_;obtain ⟨o,ke⟩:=s;obtain ⟨k,hk,rfl,r7,B2⟩:=aA;simp only at r7 B2 ⊢;rw [Gr k (by omega)];refine Tot.bm (λaQ=>?_) (λdG=>.ao ⟨r7,λy=>?_⟩)
 ·have aQ:k<c.length:=by omega
  have Xh:=((aa.2 _).1 (List.getElem_mem aQ)).ja;have ga:c.take (k+1)=c.take k++[c[k]]:=kj aQ;rw [dT aQ];generalize c[k]=x at *;have aS:=Xz aP Xh;have hw:aM (x.fc+1)=x.fc+1:=by rw [cK]; omega
  refine .ay (Ξ:=λo:List Item=>e3 gT o/\∀ y,y∈o↔∃ x∈c.take (k+1),hN g x=a/\0<=a/\y=⟨x.Prod,x.fc+1⟩) ?_ λo aY=>.ao ⟨⟨k+1,by omega,rfl,aY⟩,by show (k:Int)<((k+1:Nat):Int); omega,by show ((k+1:Nat):Int)<=_; omega⟩;have nz:∀ y,(∃ z∈c.take (k+1),hN g z=a/\0<=a/\y=(⟨z.Prod,z.fc+1⟩:Item))↔(y∈o\/(hN g x=a/\0<=a/\y=⟨x.Prod,x.fc+1⟩)):=by
   intro y;rw [B2 y,ga];constructor
   ·rintro ⟨z,aX,h⟩;rcases List.mem_append.1 aX with aX | aX
    ·exact .inl ⟨z,aX,h⟩
    ·rw [List.mem_singleton.1 aX] at h; exact .inr h
   ·rintro (⟨z,aX,h⟩ | h)
    ·exact ⟨z,by simp [aX],h⟩
    ·exact ⟨x,by simp,h⟩
  simp only [Option.bind_some,HI g x,hw];refine (.ay (Ξ:=λb:Bool=>b=decide (0<=hN g x/\hN g x=a)) (Tot.bm (λh=>.ao (by simp [h])) (λh=>.ao (by simp [h]))) λb au=>?_);subst au;refine .ay (Ξ:=λo:List Item=>e3 gT o/\∀ y,y∈o↔∃ x∈c.take (k+1),hN g x=a/\0<=a/\y=⟨x.Prod,x.fc+1⟩) (Tot.bm (λh=>?_) (λh=>.ao ⟨r7,λy=>?_⟩)) λo aY=>.ao aY
  ·have uh:=tz aP r7 λy av=>by
    obtain ⟨z,_,h1,af,rfl⟩:=(B2 y).1 av;exact OW aP (by omega)
   refine (.ay (Ho o _ r7 (by omega)) λr aj=>.ao ⟨aj.1,λy=>?_⟩);rw [aj.2 y,nz y];constructor
   ·rintro (h1 | h1)
    ·exact .inl h1
    ·exact .inr ⟨h.2,by omega,h1⟩
   ·rintro (h1 | h1)
    ·exact .inl h1
    ·exact .inr h1.2.2
  ·rw [nz y];exact ⟨.inl,λaL=>aL.elim id λaL=>absurd ⟨by omega,aL.1⟩ h⟩
 ·have:k=c.length:=by omega
  subst this;rw [List.take_length] at B2;rw [B2 y];constructor
  ·rintro ⟨x,J,h⟩;exact ⟨x,(aa.2 x).1 J,h⟩
  ·rintro ⟨x,J,h⟩;exact ⟨x,(aa.2 x).2 J,h⟩
def hR (a b:Int):Bool:=decide (a<b)
theorem Kd {a b:Int}:hR a b=true↔a<b:=by simp [hR]
theorem Ke {a b:Int}:hR a b=false↔¬ a<b:=by simp [hR]
theorem FI:Ord hR where
 swo:=⟨λx=>by rw [Ke]; omega,λx y z h1 af=>by rw [Kd] at *; omega,λx y z h1 af=>by rw [Ke] at *; omega⟩
 je:=λx y h1 af=>by rw [Ke] at *; omega
theorem Hc {l:List Int}(ai:e3 hR l) {i j:Nat}(hi:i<l.length) (ag:j<l.length) (h:i<j):hR l[i] l[j]=true:=List.pairwise_iff_getElem.1 ai i j hi ag h
theorem Be (l:List Int) (x:Int) (ai:e3 hR l) (aE:l.length<=100000):Tot (pM l x) λr=>e3 hR r/\r.length<=l.length+1/\(∀ y,y∈r↔y∈l\/y=x):=by
 unfold pM;refine .ay (Ξ:=λz:Int=>∃ k:Nat,z=(k:Int)/\k<=l.length/\(∀ (i:Nat) (h:i<l.length),k<=i->hR x l[i]=true)/\∀ (h:0<k),hR x (l[k - 1]?.getD default)=false) ?_ λz aX=>?_
 ·refine Tot.count (λs=>-s) 1 (λs=>∃ k:Nat,s=(k:Int)/\k<=l.length/\∀ (i:Nat) (h:i<l.length),k<=i->hR x l[i]=true) ⟨l.length,rfl,Nat.le_refl _,λi h hk=>by omega⟩ (by show 1 - -(l.length:Int)<_; omega) λs aA=>?_;obtain ⟨k,rfl,hk,uk⟩:=aA;refine .ay (Ξ:=λc:Bool=>(c=true->0<k/\hR x (l[k - 1]?.getD default)=true)/\(c=false->∀ (h:0<k),hR x (l[k - 1]?.getD default)=false)) ?_ λc aa=>Tot.bB (λh=>?_) (λh=>.ao ⟨k,rfl,hk,uk,aa.2 h⟩)
  ·refine Tot.bm (λh=>?_) (λh=>.ao ⟨λaL=>(by cases aL),λ_ aL=>by omega⟩);have gZ:k - 1<l.length:=by omega
   have hw:aM ((k:Int) - 1)=((k - 1:Nat):Int):=by rw [cK]; omega
   rw [hw,dT gZ,List.getElem?_eq_getElem gZ];simp only [Option.bind_some,Option.getD_some];exact .ao ⟨λaL=>⟨by omega,aL⟩,λaL _=>aL⟩
  ·obtain ⟨aT,h1⟩:=aa.1 h;refine .ao ⟨⟨k - 1,by rw [cK]; omega,by omega,λi hi V4=>?_⟩,by show -(k:Int) < -aM _; rw [cK]; omega,by show -aM _<=1; rw [cK]; omega⟩
   grind
 ·obtain ⟨k,rfl,hk,uk,lJ⟩:=aX;refine .ay (Ξ:=λc:Bool=>(c=true↔(0<k/\l[k - 1]?.getD default=x))) ?_ λc aa=>Tot.bB (λh=>?_) (λh=>?_)
  ·refine Tot.bm (λh=>?_) (λh=>.ao ⟨λaL=>(by cases aL),λaL=>by omega⟩);have gZ:k - 1<l.length:=by omega
   have hw:aM ((k:Int) - 1)=((k - 1:Nat):Int):=by rw [cK]; omega
   rw [hw,dT gZ,List.getElem?_eq_getElem gZ];simp only [Option.bind_some,Option.getD_some];generalize l[k - 1]=y;refine .ao ?_
   grind
  ·obtain ⟨aT,h1⟩:=aa.1 h;have gZ:k - 1<l.length:=by omega
   rw [List.getElem?_eq_getElem gZ] at h1;have J:x∈l:=by rw [<- h1]; exact List.getElem_mem gZ
   exact .ao ⟨ai,by omega,λy=>⟨.inl,λh=>h.elim id λe=>e ▸ J⟩⟩
  ·have da:∀ (i:Nat) (hi:i<l.length),i<k->hR l[i] x=true:=by
    intro i hi IT;have gZ:k - 1<l.length:=by omega
    have lJ:=lJ (by omega);have aE:l[k - 1]?.getD default≠x:=λe=>by rw [aa.2 ⟨by omega,e⟩] at h; cases h
    rw [List.getElem?_eq_getElem gZ] at lJ aE;simp only [Option.getD_some] at lJ aE;have f':hR l[k - 1] x=true:=by
     grind [hR]
    by_cases e:i=k - 1
    ·grind
    ·exact FI.swo.trans _ _ _ (Hc ai hi gZ (by omega)) f'
   refine .ay (Ξ:=λz=>z=l.take k) (Tot.sub ⟨by omega,by omega,by omega⟩ (by simp)) λz aX=>?_;subst aX;refine .ay (Ξ:=λ_=>True) (Tot.ap (by simp [lim]; omega) trivial) λ_ _=>.ay (Ξ:=λ_=>True) (Tot.ap (by simp [lim]; omega) trivial) λ_ _=>?_;refine .ay (Ξ:=λz=>z=l.drop k) (Tot.sub ⟨by omega,by omega,by omega⟩ ?_) λz aX=>?_
   ·grind [List.take_of_length_le]
   subst aX;refine .ay (Ξ:=λ_=>True) (Tot.ap (by simp [lim]; omega) trivial) λ_ _=>.ao ?_;rw [List.nil_append];refine ⟨?_,?_,?_⟩
   ·have h1:∀ a∈l.take k,hR a x=true:=by
     grind [List.mem_iff_getElem]
    have af:∀ a∈l.drop k,hR x a=true:=by
     grind [List.mem_iff_getElem]
    unfold e3;rw [List.append_assoc,List.pairwise_append];refine ⟨List.Pairwise.sublist (List.take_sublist k l) ai,?_,λa aR b au=>?_⟩
    ·rw [List.singleton_append,List.pairwise_cons];exact ⟨af,List.Pairwise.sublist (List.drop_sublist k l) ai⟩
    ·rcases List.mem_append.1 au with au | au
     ·grind
     ·exact FI.swo.trans _ _ _ (h1 a aR) (af b au)
   ·grind
   grind [List.take_append_drop]
theorem Qn {α:Type}{l:List α}{k:Nat}{x:α}(hk:k<l.length) (i:Nat):(l.set k x)[i]?=if i=k then some x else l[i]?:=by
 rw [List.getElem?_set];by_cases e:k=i
 ·subst e; simp [hk]
 ·simp [e,Ne.symm e]
theorem TT (x y:Item):(decide (x.Prod=y.Prod)&&(decide (x.fc=y.fc)&&true))=decide (x=y):=by
 obtain ⟨a8,x2⟩:=x;obtain ⟨bu,y2⟩:=y;simp
theorem SD (a b:List Item) (h:a.length<=1000000):Tot (CS a b) λc=>(c=true↔a=b):=by
 unfold CS;refine Tot.oD (λda=>.ao ⟨λh=>(by cases h),λe=>absurd (by rw [e]) da⟩) (λhe=>?_);have ai:a.length=b.length:=by omega
 refine Tot.ay (Ξ:=hG (λ_=>a=b) (λx:Bool=>x=false/\a≠b)) ?_ λx J=>?_
 ·refine Tot.count (λs=>s) a.length (λs=>∃ k:Nat,k<=a.length/\s=(k:Int)/\∀ (j:Nat) (h:j<a.length),j<k->a[j]=b[j]) ⟨0,Nat.zero_le _,rfl,λj _ ag=>absurd ag (Nat.not_lt_zero _)⟩ (by show (a.length:Int) - 0<_; omega) λs aA=>?_;obtain ⟨k,hk,rfl,k'⟩:=aA;rw [eh k (by omega)];refine Tot.bm (λaQ=>?_) (λdG=>.ao ?_)
  ·have aQ:k<a.length:=by omega
   have zu:k<b.length:=by omega
   rw [dT aQ,dT zu];simp only [Option.bind_some,TT];refine Tot.oD (λda=>.ao ⟨rfl,λe=>da (by subst e; rfl)⟩) (λheq=>.ao ⟨⟨k+1,by omega,rfl,λj ag fU=>?_⟩,by show (k:Int)<((k+1:Nat):Int); omega,by show ((k+1:Nat):Int)<=_; omega⟩);by_cases e:j=k
   ·subst e; exact heq
   ·exact k' j ag (by omega)
  ·exact List.ext_getElem ai λi h1 af=>k' i h1 (by omega)
 ·rcases x with _ | x
  ·exact .ao ⟨λ_=>J,λ_=>rfl⟩
  ·obtain ⟨rfl,da⟩:x=false/\a≠b:=J;exact .ao ⟨λh=>(by cases h),λh=>absurd h da⟩
def syms (g:bO):List Int:=(List.range g.ba.length).map (λk:Nat=>(k:Int))++(List.range g.ca.length).map (λk:Nat=>1000+(k:Int))
theorem My (g:bO) (aY:hb g):Tot (Dd g) λl=>l=syms g:=by
 have dK:=aY.kk;have bd:=aY.dx;unfold Dd;refine .ay (Ξ:=λl:List Int=>l=(List.range g.ba.length).map (λk:Nat=>(k:Int))) ?_ λl ai=>?_
 ·refine Tot.upto (λs=>s.2) g.ba.length (λk s=>s.1=(List.range k).map (λk:Nat=>(k:Int))) rfl (by omega) rfl λk s hk he bb=>?_;obtain ⟨l,i⟩:=s;simp only at he bb ⊢;subst he bb;rw [eh k (by omega)];refine Tot.bm (λaQ=>?_) (λdG=>.ao ?_)
  ·refine .ay (Ξ:=λ_=>True) (Tot.ap (by simp [lim]; omega) trivial) λ_ _=>.ao ⟨by omega,rfl,?_⟩;show _=(List.range (k+1)).map _;rw [List.range_succ,List.map_append]; rfl
  ·have:k=g.ba.length:=by omega
   subst this; rfl
 ·subst ai;refine .ay (Ξ:=λl:List Int=>l=syms g) ?_ λr aj=>.ao aj;refine Tot.upto (λs=>s.2) g.ca.length (λk s=>s.1=(List.range g.ba.length).map (λk:Nat=>(k:Int))++(List.range k).map (λk:Nat=>1000+(k:Int))) rfl (by omega) (by simp) λk s hk he bb=>?_;obtain ⟨l,i⟩:=s;simp only at he bb ⊢;subst he bb;rw [eh k (by omega)];refine Tot.bm (λaQ=>?_) (λdG=>.ao ?_)
  ·refine .ay (Ξ:=λ_=>True) (Tot.ap (by simp [lim]; omega) trivial) λ_ _=>.ao ⟨by omega,rfl,?_⟩;have hw:aM (1000+(k:Int))=1000+(k:Int):=by rw [cK]; omega
   show _=_++(List.range (k+1)).map _;rw [hw,List.range_succ,List.map_append,List.append_assoc]; rfl
  ·have:k=g.ca.length:=by omega
   subst this; rfl
theorem Zq (g:bO):(syms g).length=g.ba.length+g.ca.length:=by simp [syms]
theorem XM {g:bO}{s:Int}:s∈syms g↔(0<=s/\s<g.ba.length)\/(1000<=s/\s<1000+g.ca.length):=by
 unfold syms;rw [List.mem_append,List.mem_map,List.mem_map];constructor
 ·rintro (⟨k,hk,rfl⟩ | ⟨k,hk,rfl⟩)
  ·rw [List.mem_range] at hk; exact .inl (by omega)
  ·rw [List.mem_range] at hk; exact .inr (by omega)
 ·rintro (h | h)
  ·exact .inl ⟨s.toNat,by rw [List.mem_range]; omega,by omega⟩
  ·exact .inr ⟨(s - 1000).toNat,by rw [List.mem_range]; omega,by omega⟩
theorem Zr {g:bO}(aY:hb g):(syms g).Nodup:=by
 have aw:=aY.kk;unfold syms;rw [List.nodup_append];refine ⟨List.pairwise_map.2 ((List.nodup_range (n:=g.ba.length)).imp λ{a b} h e=>h (by omega)),List.pairwise_map.2 ((List.nodup_range (n:=g.ca.length)).imp λ{a b} h e=>h (by omega)),λa aR b au=>?_⟩;obtain ⟨i,hi,rfl⟩:=List.mem_map.1 aR;obtain ⟨j,ag,rfl⟩:=List.mem_map.1 au;rw [List.mem_range] at hi;omega
structure yM (g:bO) (K:List Item):Prop where
 a:e3 gT K
 i:∀ x∈K,ja g x
theorem yM.len {g:bO}(aY:hb g) {K:List Item}(h:yM g K):K.length<=540:=tz aY h.a h.i
theorem Mw (l:List Int) (x:Int) (h:l.length<=1000000):Tot (uI l x) λc=>(c=true↔x∈l):=by
 unfold uI;refine .ay (Ξ:=hG (λ_=>x∉l) (λr:Bool=>r=true/\x∈l)) ?_ λr aj=>?_
 ·refine Tot.upto (λs=>s) l.length (λk s=>x∉l.take k) rfl (by omega) (by simp) λk s hk he bb=>?_;subst he;rw [eh k (by omega)];refine Tot.bm (λaQ=>?_) (λdG=>.ao ?_)
  ·have aQ:k<l.length:=by omega
   rw [dT aQ];simp only [Option.bind_some];refine Tot.bm (λe=>.ao ⟨rfl,by rw [<- e]; exact List.getElem_mem aQ⟩) (λe=>.ao ⟨aQ,rfl,?_⟩);rw [kj aQ,List.mem_append,List.mem_singleton];exact λh=>h.elim bb λh=>e h.symm
  ·rw [List.take_of_length_le (by omega)] at bb;exact bb
 ·rcases r with r | r
  ·exact .ao ⟨λh=>(by cases h),λh=>absurd h aj⟩
  ·obtain ⟨rfl,h⟩:=aj;exact .ao ⟨λ_=>h,λ_=>rfl⟩
theorem S0 (m:List State) (k:List Item) (aT:m.length<=1000) (h1:∀ st∈m,st.Kernel.length<=1000000):Tot (Dg m k) λr=>-1<=r/\r<m.length:=by
 unfold Dg;refine .ay (Ξ:=hG (λ_=>True) (λr:Int=>0<=r/\r<m.length)) ?_ λx J=>?_
 ·refine Tot.upto (λs=>s) m.length (λ_ _=>True) rfl (by omega) trivial λj s ag he _=>?_;subst he;rw [eh j (by omega)];refine Tot.bm (λaQ=>?_) (λdG=>.ao trivial);have aQ:j<m.length:=by omega
  rw [dT aQ];refine Tot.aV (.ay (SD _ k (h1 _ (List.getElem_mem aQ))) λc aa=>Tot.bB (λh=>.ao ⟨by omega,by omega⟩) (λh=>.ao ⟨aQ,rfl,trivial⟩))
 ·rcases x with x | x
  ·exact .ao ⟨by omega,by omega⟩
  ·have J:0<=x/\x<m.length:=J;exact .ao ⟨by omega,by omega⟩
structure yQ (g:bO) (n:Nat) (v:Move):Prop where
 s:v.Sym∈syms g
 t0:0<=v.jy
 t1:v.jy<n
structure mb (g:bO) (m:List State) (q j:Nat):Prop where
 gG:0<m.length
 nL:m.length<=150
 qt:∀ st∈m,yM g st.Kernel
 ms:∀ (i:Nat) (st:State),m[i]?=some st->(st.eV.map (·.Sym)).Sublist (if i<q then syms g else if i=q then (syms g).take j else [])
 aZ:∀ st∈m,∀ v∈st.eV,yQ g m.length v
structure mH (g:bO) (m:List State):Prop where
 gG:0<m.length
 nL:m.length<=150
 qt:∀ st∈m,yM g st.Kernel
 xQ:∀ st∈m,st.eV.length<=64
 nd:∀ st∈m,(st.eV.map (·.Sym)).Nodup
 aZ:∀ st∈m,∀ v∈st.eV,yQ g m.length v
theorem yQ.up {g:bO}{n cB:Nat}{v:Move}(h:yQ g n v) (aE:n<=cB):yQ g cB v:=⟨h.s,h.t0,by have:=h.t1; omega⟩
theorem mb.put {g:bO}{m:List State}{q j:Nat}(h:mb g m q j) {st:State}(bg:m[q]?=some st) {v:Move}(hv:yQ g m.length v) (ag:(syms g)[j]?=some v.Sym):mb g (m.set q ⟨st.Kernel,st.eV++[v]⟩) q (j+1):=by
 have mX:=(List.getElem?_eq_some_iff.1 bg).1;have hm:=List.mem_of_getElem? bg;refine ⟨by rw [List.length_set]; exact h.gG,by rw [List.length_set]; exact h.nL,λs aA=>?_,λi s aA=>?_,λs aA w hw=>?_⟩
 ·rcases List.mem_or_eq_of_mem_set aA with aL | aL
  ·exact h.qt s aL
  ·rw [aL]; exact h.qt st hm
 ·rw [Qn mX] at aA;by_cases e:i=q
  ·subst e;rw [if_pos rfl] at aA; cases aA;have:=h.ms i st bg;rw [if_neg (by omega),if_pos rfl] at this ⊢;rw [List.map_append,List.take_add_one,ag];exact this.append (List.Sublist.refl _)
  ·rw [if_neg e] at aA;have:=h.ms i s aA;rw [if_neg e] at this ⊢;exact this
 ·rw [List.length_set];rcases List.mem_or_eq_of_mem_set aA with aL | aL
  ·exact h.aZ s aL w hw
  ·rw [aL] at hw;rcases List.mem_append.1 hw with hw | hw
   ·exact h.aZ st hm w hw
   ·rw [List.mem_singleton.1 hw]; exact hv
theorem mb.more {g:bO}{m:List State}{q j:Nat}(h:mb g m q j) (ai:m.length<150) {K:List Item}(hk:yM g K):mb g (m++[⟨K,[]⟩]) q j:=by
 refine ⟨by simp,by simp; omega,λs aA=>?_,λi s aA=>?_,λs aA w hw=>?_⟩
 ·rcases List.mem_append.1 aA with aA | aA
  ·exact h.qt s aA
  ·rw [List.mem_singleton.1 aA]; exact hk
 ·by_cases e:i<m.length
  ·rw [List.getElem?_append_left e] at aA; exact h.ms i s aA
  ·rw [List.getElem?_append_right (by omega)] at aA;have:s=⟨K,[]⟩:=by
    have:=List.mem_of_getElem? aA;simpa using this
   rw [this]; exact List.nil_sublist _
 ·rcases List.mem_append.1 aA with aA | aA
  ·exact (h.aZ s aA w hw).up (by simp)
  ·rw [List.mem_singleton.1 aA] at hw; cases hw
theorem mb.mono {g:bO}{m:List State}{q j vM:Nat}(h:mb g m q j) (ag:j<=vM):mb g m q vM:=by
 refine ⟨h.gG,h.nL,h.qt,λi s aA=>?_,h.aZ⟩;have:=h.ms i s aA;split
 ·rename_i e; rw [if_pos e] at this; exact this
 ·rename_i e; rw [if_neg e] at this;split
  ·rename_i cf; rw [if_pos cf] at this;exact this.trans (List.take_sublist_take_left ag)
  ·rename_i cf; rw [if_neg cf] at this; exact this
theorem mb.next {g:bO}{m:List State}{q j:Nat}(h:mb g m q j):mb g m (q+1) 0:=by
 refine ⟨h.gG,h.nL,h.qt,λi s aA=>?_,h.aZ⟩;have:=h.ms i s aA;by_cases e:i<q+1
 ·rw [if_pos e]
  split at this
  ·exact this
  ·split at this
   ·exact this.trans (List.take_sublist _ _)
   ·exact this.trans (List.nil_sublist _)
 ·rw [if_neg (by omega),if_neg (by omega)] at this;rw [if_neg e];exact this.trans (List.nil_sublist _)
theorem SP (g:bO) (aY:hb g):Tot (Ak g) λr=>(r.2=0/\mH g r.1)\/r.2=4:=by
 have dK:=aY.kk;have bd:=aY.dx;have b_:=aY.hE;unfold Ak;refine Tot.ay (My g aY) λa8 h1=>?_;subst h1;have hr:=Zq g;refine Tot.ay (Ξ:=hG (λm=>mb g m m.length 0) (λr:List State × Int=>r.2=4)) ?_ λx J=>?_
 ·refine Tot.loop (λs=>∃ q:Nat,s.2=(q:Int)/\q<=s.1.length/\mb g s.1 q 0) (λs=>151 - s.2.toNat) ⟨0,rfl,Nat.zero_le _,⟨by simp,by simp,λs aA=>?_,λi s aA=>?_,λs aA v hv=>?_⟩⟩ (by show 151 - 0<1000000000000000000; omega) λs b0=>?_
  ·rw [List.mem_singleton.1 aA];refine ⟨List.pairwise_singleton ..,λx J=>?_⟩;rw [List.mem_singleton.1 J];obtain ⟨q,bg⟩:∃ q,g.bj[0]?=some q:=⟨g.bj[0]'(by omega),List.getElem?_eq_getElem _⟩;exact OX (p:=0) bg
  ·have:=List.mem_of_getElem? aA;rw [List.mem_singleton.1 this]; exact List.nil_sublist _
  ·rw [List.mem_singleton.1 aA] at hv; cases hv
  obtain ⟨q,he,bg,BA⟩:=b0;obtain ⟨m,i⟩:=s;simp only at he bg BA ⊢;subst he;have xk:=BA.nL;rw [eh q (by omega)];refine Tot.bm (λaQ=>?_) (λdG=>.ao ?_)
  ·have aQ:q<m.length:=by omega
   rw [dT aQ];have dj:=BA.qt _ (List.getElem_mem aQ);refine Tot.aV (Tot.ay (Hz g aY _ (by have:=dj.len aY; omega)) λc aa=>?_);have gR:=tz aY aa.1 λx J=>((aa.2 x).1 J).ja;refine Tot.ay (Ξ:=λl:List Int=>l.length<=1000) ?_ λRZ acG=>?_
   ·refine Tot.upto (λs=>s.2) c.length (λk s=>e3 hR s.1/\s.1.length<=k) rfl (by omega) ⟨.nil,Nat.le_refl 0⟩ λk s hk he bb=>?_;obtain ⟨l,i⟩:=s;obtain ⟨g1,g2⟩:=bb;simp only at he g1 g2 ⊢;subst he;rw [eh k (by omega)];refine Tot.bm (λaQ=>?_) (λdG=>.ao (show l.length<=1000 by omega));have aQ:k<c.length:=by omega
    rw [dT aQ];refine .ay (Ξ:=λl:List Int=>e3 hR l/\l.length<=k+1) ?_ λo aY=>.ao ⟨aQ,rfl,aY⟩;refine Tot.aV ?_;rw [HI g _];refine Tot.aV (.ay (Ξ:=λl:List Int=>e3 hR l/\l.length<=k+1) ?_ λo aY=>.ao aY);refine Tot.bm (λar=>.ay (Be l _ g1 (by omega)) λr aj=>.ao ⟨aj.1,by have:=aj.2.1; omega⟩) (λar=>.ao ⟨g1,by omega⟩)
   ·refine Tot.ay (Ξ:=hG (λm=>mb g m q (syms g).length/\q<m.length) (λr:List State × Int=>r.2=4)) ?_ λx J=>?_
    ·refine Tot.upto (λs=>s.2) (syms g).length (λk s=>mb g s.1 q k/\q<s.1.length) rfl (by omega) ⟨BA,aQ⟩ λk s hk he bb=>?_;obtain ⟨m,i⟩:=s;obtain ⟨tP,mX⟩:=bb;simp only at he tP mX ⊢;subst he;rw [eh k (by omega)];have vx:=tP.nL;refine Tot.bm (λaQ=>?_) (λdG=>.ao ?_)
     ·have aQ:k<(syms g).length:=by omega
      have nD:=List.getElem_mem aQ;have pr:(syms g)[k]?=some (syms g)[k]:=List.getElem?_eq_getElem aQ;rw [dT aQ];generalize (syms g)[k]=s at *;refine Tot.aV (Tot.ay (Mw RZ s (by omega)) λcA _=>?_);refine Tot.bB (λ_=>.ao ⟨aQ,rfl,tP.mono (by omega),mX⟩) (λ_=>?_);have mv:m[q]?=some m[q]:=List.getElem?_eq_getElem mX;have dj:=tP.qt _ (List.getElem_mem mX);rw [dT mX];generalize m[q]=st at *;refine Tot.aV (Tot.aV (Tot.ay (SZ g aY st.Kernel s (by have:=dj.len aY; omega)) λDY zl=>?_));have h6:yM g DY:=⟨zl.1,λy av=>((zl.2 y).1 av).ja aY⟩;refine Tot.ay (S0 m DY (by omega) λt aw=>by have:=(tP.qt t aw).len aY; omega) λz aX=>?_;have WD:=(tP.ms q st mv).length_le;rw [if_neg (by omega),if_pos rfl,List.length_map,List.length_take] at WD;refine Tot.bm (λac_=>Tot.bm (λ_=>.ao rfl) (λOm=>?_)) (λsR=>?_)
      ·refine .ay (Ξ:=λ_=>True) (Tot.ap (by simp [lim]; omega) trivial) λ_ _=>?_;have UT:=tP.more (by omega) h6;have N5:(m++[(⟨DY,[]⟩:State)])[q]?=some st:=by rw [List.getElem?_append_left mX]; exact mv
       have BQ:idx (m++[(⟨DY,[]⟩:State)]) (q:Int)=some st:=by simp only [idx,if_pos (show (0:Int)<=(q:Int) by omega),Int.toNat_natCast]; exact N5
       rw [BQ];refine Tot.aV (Tot.aV ?_);refine .ay (Ξ:=λ_=>True) (Tot.ap (by simp [lim]; omega) trivial) λ_ _=>.ao ⟨aQ,rfl,?_⟩;refine ⟨?_,by show q<(List.set _ _ _).length; rw [List.length_set]; simp; omega⟩;show mb g (List.set _ (q:Int).toNat _) q (k+1);rw [Int.toNat_natCast];exact UT.put N5 ⟨nD,by show (0:Int)<=(m.length:Int); omega,by show (m.length:Int)<_; simp; omega⟩ pr
      ·refine Tot.aV (Tot.aV ?_);refine .ay (Ξ:=λ_=>True) (Tot.ap (by simp [lim]; omega) trivial) λ_ _=>.ao ⟨aQ,rfl,?_⟩;refine ⟨?_,by show q<(List.set _ _ _).length; rw [List.length_set]; exact mX⟩;show mb g (List.set _ (q:Int).toNat _) q (k+1);rw [Int.toNat_natCast];exact tP.put mv ⟨nD,by show 0<=z; omega,aX.2⟩ pr
     ·have:k=(syms g).length:=by omega
      subst this;exact ⟨tP,mX⟩
    ·rcases x with x | x
     ·obtain ⟨h1,af⟩:=J;refine .ao ⟨⟨q+1,rfl,af,h1.next⟩,?_⟩;show 151 - ((q+1:Nat):Int).toNat<151 - (q:Int).toNat;omega
     ·exact .ao J
  ·have:q=m.length:=by omega
   subst this;exact BA
 ·rcases x with x | x
  ·have J:mb g x x.length 0:=J;have key:∀ st∈x,(st.eV.map (·.Sym)).Sublist (syms g):=λst b0=>by
    obtain ⟨i,hi⟩:=List.getElem?_of_mem b0;have:=J.ms i st hi;rw [if_pos (List.getElem?_eq_some_iff.1 hi).1] at this;exact this
   refine .ao (.inl ⟨rfl,J.gG,J.nL,J.qt,λst b0=>?_,λst b0=>(key st b0).nodup (Zr aY),J.aZ⟩);have:=(key st b0).length_le;rw [List.length_map] at this; omega
  ·exact .ao (.inr J)
theorem Xp {α:Type}{m:List α}{q:Nat}{x:α}(h:m[q]?=some x):idx m (q:Int)=some x:=by simp [idx,h]
def GoTo (m:List State) (a s r:Int):Prop:=(r=-1/\∀ st,idx m a=some st->∀ v∈st.eV,v.Sym≠s)\/∃ st v,idx m a=some st/\v∈st.eV/\v.Sym=s/\r=v.jy
theorem Ee (m:List State) (a s:Int) (hm:∀ st∈m,st.eV.length<=64):Tot (rl m a s) (GoTo m a s):=by
 unfold rl;by_cases aT:0<=a/\a<(m.length:Int)
 ·obtain ⟨st,b0,nz⟩:=nH aT.1 aT.2;have ai:=hm st nz;have d1:decide (0<=a)=true:=decide_eq_true aT.1;have d2:decide (a<(m.length:Int))=true:=decide_eq_true aT.2;rw [d1,d2];simp only [cond_true,b0,Option.bind_some];refine .ay (Ξ:=hG (λ_=>∀ v∈st.eV,v.Sym≠s) (λr:Int=>∃ v,v∈st.eV/\v.Sym=s/\r=v.jy)) ?_ λx J=>?_
  ·refine Tot.upto (λs=>s) st.eV.length (λk _=>∀ v∈st.eV.take k,v.Sym≠s) rfl (by omega) (by simp) λk i hk he bb=>?_;subst he;rw [eh k (by omega)];refine Tot.bm (λaQ=>?_) (λdG=>.ao (by
    show ∀ v∈st.eV,v.Sym≠s;rw [List.take_of_length_le (by omega)] at bb; exact bb))
   have aQ:k<st.eV.length:=by omega
   rw [dT aQ];simp only [Option.bind_some];refine Tot.bm (λe=>.ao ⟨_,List.getElem_mem aQ,e,rfl⟩) (λe=>.ao ⟨aQ,rfl,λv hv=>?_⟩);rw [kj aQ,List.mem_append,List.mem_singleton] at hv;rcases hv with hv | rfl
   ·exact bb v hv
   ·exact e
  ·rcases x with x | x
   ·exact .ao (.inl ⟨rfl,λQE aL=>by rw [b0] at aL; cases aL; exact J⟩)
   ·obtain ⟨v,h1,af,aI⟩:=J;exact .ao (.inr ⟨st,v,b0,h1,af,aI⟩)
 ·refine .ay (Ξ:=hG (λ_=>True) (λ_:Int=>False)) (Tot.loop (λ_=>True) (λ_=>0) trivial (by show 0<1000000000000000000; omega) λi _=>?_) λx J=>?_
  ·refine .ay (Ξ:=λc=>c=false) ?_ λc aa=>by subst aa; exact .ao trivial
   refine Tot.bm (λh1=>Tot.bm (λaf=>absurd ⟨h1,af⟩ aT) (λ_=>.ao rfl)) (λ_=>.ao rfl)
  ·rcases x with x | x
   ·refine .ao (.inl ⟨rfl,λst aL=>absurd ⟨(n' aL).1,(n' aL).2.1⟩ aT⟩)
   ·exact J.elim
theorem GoTo.aK {g:bO}{m:List State}(hm:mH g m) {a s r:Int}(h:GoTo m a s r):-1<=r/\r<m.length:=by
 rcases h with ⟨rfl,_⟩ | ⟨st,v,h1,af,_,rfl⟩
 ·have:=hm.gG; exact ⟨by omega,by omega⟩
 ·have:=hm.aZ st (n' h1).2.2 v af;exact ⟨by have:=this.t0; omega,this.t1⟩
theorem GoTo.yes {g:bO}{m:List State}(hm:mH g m) {a s r:Int}(h:GoTo m a s r) {st:State}{v:Move}(aA:idx m a=some st) (hv:v∈st.eV) (e:v.Sym=s):0<=r/\r<m.length:=by
 rcases h with ⟨rfl,h⟩ | ⟨st,v,h1,af,_,rfl⟩
 ·exact absurd e (h st aA v hv)
 ·have:=hm.aZ st (n' h1).2.2 v af;exact ⟨this.t0,this.t1⟩
theorem MA {g:bO}{m:List State}(hm:mH g m) (a:Int) (l:List Int) (aR:-1<=a/\a<m.length) (ai:l.length<=1000):Tot (Ao m a l) λr=>-1<=r/\r<m.length:=by
 unfold Ao;refine .ay (Ξ:=λr:Int=>-1<=r/\r<m.length) ?_ λr aj=>.ao aj;refine Tot.upto (λs=>s.2) l.length (λ_ s=>-1<=s.1/\s.1<m.length) rfl (by omega) aR λk s hk he bb=>?_;obtain ⟨r,i⟩:=s;simp only at he bb ⊢;subst he;rw [eh k (by omega)];refine .ay (Ξ:=λc=>c=true->k<l.length) (Tot.bm (λh=>.ao λ_=>by omega) (λ_=>.ao λh=>by cases h)) λc aa=>Tot.bB (λh=>?_) (λ_=>.ao bb);have aQ:=aa h;rw [dT aQ];exact Tot.aV (.ay (Ee m r _ hm.xQ) λz aX=>.ao ⟨aQ,rfl,aX.aK hm⟩)
def u7 (m:List State) (t:Trans):Prop:=∃ st v,idx m t.State=some st/\v∈st.eV/\v.Sym=t.fE/\1000<=t.fE
structure wD (m:List State) (l:List Trans):Prop where
 n:l.length<=9600
 ok:∀ t∈l,u7 m t
 fF:∀ (q:Nat) (st:State) (v:Move),m[q]?=some st->v∈st.eV->1000<=v.Sym->(⟨q,v.Sym⟩:Trans)∈l
theorem S4 {g:bO}{m:List State}(hm:mH g m):Tot (qx m) (wD m):=by
 have aE:=hm.nL;unfold qx;refine .ay (Ξ:=wD m) ?_ λr aj=>.ao aj;refine Tot.upto (λs=>s.2) m.length (λk s=>s.1.length<=64 * k/\(∀ t∈s.1,u7 m t)/\∀ (q:Nat) (st:State) (v:Move),q<k->m[q]?=some st->v∈st.eV->1000<=v.Sym->(⟨q,v.Sym⟩:Trans)∈s.1) rfl (by omega) ⟨Nat.le_refl 0,λt h=>(by cases h),λq _ _ h=>absurd h (Nat.not_lt_zero _)⟩ λk s hk he bb=>?_;obtain ⟨l,i⟩:=s;obtain ⟨h1,af,aI⟩:=bb;simp only at he h1 af aI ⊢;subst he;rw [eh k (by omega)];refine Tot.bm (λaQ=>?_) (λdG=>.ao ⟨?_,af,λq st v bg=>aI q st v ?_ bg⟩)
 ·have aQ:k<m.length:=by omega
  have mv:m[k]?=some m[k]:=List.getElem?_eq_getElem aQ;have nz:=List.getElem_mem aQ;rw [dT aQ];generalize m[k]=st at *;have vx:=hm.xQ st nz;simp only [Option.bind_some];refine .ay (Ξ:=λvN:List Trans=>vN.length<=64 * (k+1)/\(∀ t∈vN,u7 m t)/\(∀ t∈l,t∈vN)/\∀ v∈st.eV,1000<=v.Sym->(⟨k,v.Sym⟩:Trans)∈vN) ?_ λvN hQ=>.ao ⟨aQ,rfl,hQ.1,hQ.2.1,λq QE v bg bD cF dS=>?_⟩
  ·refine Tot.upto (λs=>s.2) st.eV.length (λj s=>s.1.length<=64 * k+j/\(∀ t∈s.1,u7 m t)/\(∀ t∈l,t∈s.1)/\∀ v∈st.eV.take j,1000<=v.Sym->(⟨k,v.Sym⟩:Trans)∈s.1) rfl (by omega) ⟨h1,af,λ_ h=>h,λv hv=>by simp at hv⟩ λj s ag he bb=>?_;obtain ⟨o,i⟩:=s;obtain ⟨g1,g2,g3,g4⟩:=bb;simp only at he g1 g2 g3 g4 ⊢;subst he;rw [eh j (by omega)];refine Tot.bm (λaQ=>?_) (λdG=>.ao ⟨by show o.length<=_; omega,g2,g3,by
    rw [List.take_of_length_le (by omega)] at g4; exact g4⟩)
   have aQ:j<st.eV.length:=by omega
   have ga:=kj aQ;have E1:=List.getElem_mem aQ;rw [dT aQ];generalize st.eV[j]=v at *;simp only [Option.bind_some];refine .ay (Ξ:=λo:List Trans=>o.length<=64 * k+(j+1)/\(∀ t∈o,u7 m t)/\(∀ t∈l,t∈o)/\∀ v∈st.eV.take (j+1),1000<=v.Sym->(⟨k,v.Sym⟩:Trans)∈o) ?_ λo aY=>.ao ⟨aQ,rfl,aY⟩;refine .ay (Ξ:=λo:List Trans=>o.length<=64 * k+(j+1)/\(∀ t∈o,u7 m t)/\(∀ t∈l,t∈o)/\∀ v∈st.eV.take (j+1),1000<=v.Sym->(⟨k,v.Sym⟩:Trans)∈o) (Tot.bm (λh=>?_) (λh=>.ao ⟨by omega,g2,g3,λw hw aA=>?_⟩)) λo aY=>.ao aY
   ·refine .ay (Ξ:=λ_=>True) (Tot.ap (by simp [lim]; omega) trivial) λ_ _=>.ao ⟨by simp; omega,λt aw=>?_,λt aw=>List.mem_append_left _ (g3 t aw),λw hw aA=>?_⟩
    ·rcases List.mem_append.1 aw with aw | aw
     ·exact g2 t aw
     ·rw [List.mem_singleton.1 aw];exact ⟨st,v,Xp mv,E1,rfl,h⟩
    ·rw [ga,List.mem_append,List.mem_singleton] at hw;rcases hw with hw | rfl
     ·exact List.mem_append_left _ (g4 w hw aA)
     ·simp
   ·rw [ga,List.mem_append,List.mem_singleton] at hw;rcases hw with hw | rfl
    ·exact g4 w hw aA
    ·exact absurd aA h
  ·by_cases e:q=k
   ·subst e;rw [mv] at bD; cases bD;exact hQ.2.2.2 v cF dS
   ·exact hQ.2.2.1 _ (aI q QE v (by omega) bD cF dS)
 ·show l.length<=9600;omega
 ·have:=(List.getElem?_eq_some_iff.1 bg).1;omega
theorem Bc (l:List Trans) (a n:Int) (ai:l.length<=9600):Tot (z1 l a n) λr=>-1<=r/\r<l.length/\((⟨a,n⟩:Trans)∈l->0<=r):=by
 unfold z1;refine .ay (Ξ:=hG (λ_=>(⟨a,n⟩:Trans)∉l) (λr:Int=>0<=r/\r<l.length)) ?_ λx J=>?_
 ·refine Tot.upto (λs=>s) l.length (λk _=>(⟨a,n⟩:Trans)∉l.take k) rfl (by omega) (by simp) λk i hk he bb=>?_;subst he;rw [eh k (by omega)];refine Tot.bm (λaQ=>?_) (λdG=>.ao (by
   show (⟨a,n⟩:Trans)∉l;rw [List.take_of_length_le (by omega)] at bb; exact bb))
  have aQ:k<l.length:=by omega
  have ga:=kj aQ;rw [dT aQ];generalize l[k]=y at *;simp only [Option.bind_some];refine .ay (Ξ:=λc:Bool=>c=false->y≠⟨a,n⟩) (Tot.bm (λh=>.ao λaL e=>?_) (λh=>.ao λ_ e=>h (by rw [e]))) λc aa=>Tot.bB (λh=>.ao ⟨by show (0:Int)<=k; omega,by show (k:Int)<_; omega⟩) (λh=>.ao ⟨aQ,rfl,?_⟩)
  ·have:=of_decide_eq_false aL;exact this (by rw [e])
  ·rw [ga,List.mem_append,List.mem_singleton];exact λaL=>aL.elim bb λe=>aa h e.symm
 ·rcases x with x | x
  ·refine .ao ⟨by omega,by omega,λh=>absurd h J⟩
  ·have J:0<=x/\x<l.length:=J;exact .ao ⟨by omega,J.2,λ_=>J.1⟩
theorem SE (l:List Item) (ai:l.length<=1000000):Tot (CT l) λ_=>True:=by
 unfold CT;refine .ay (Ξ:=λ_=>True) ?_ λx J=>by
  rcases x with x | x
  ·exact .ao trivial
  ·exact .ao trivial
 refine Tot.upto (λs=>s) l.length (λ_ _=>True) rfl (by omega) trivial λk i hk he _=>?_;subst he;rw [eh k (by omega)];refine Tot.bm (λaQ=>?_) (λ_=>.ao trivial);have aQ:k<l.length:=by omega
 rw [dT aQ];simp only [Option.bind_some];refine .ay (Ξ:=λ_=>True) (Tot.bm (λ_=>.ao trivial) (λ_=>.ao trivial)) λc _=>Tot.bB (λ_=>.ao trivial) (λ_=>.ao ⟨aQ,rfl,trivial⟩)
theorem Mp (B:List Bool) (l:List Int) (ai:l.length<=1000) (h:∀ s∈l,s<1000\/(1000<=s/\s - 1000<B.length)) (eH:B.length<=1000):Tot (z6 B l) λ_=>True:=by
 unfold z6;refine .ay (Ξ:=λ_=>True) ?_ λx J=>by
  rcases x with x | x
  ·exact .ao trivial
  ·exact .ao trivial
 refine Tot.upto (λs=>s) l.length (λ_ _=>True) rfl (by omega) trivial λk i hk he _=>?_;subst he;rw [eh k (by omega)];refine Tot.bm (λaQ=>?_) (λ_=>.ao trivial);have aQ:k<l.length:=by omega
 have av:=h _ (List.getElem_mem aQ);rw [dT aQ];generalize l[k]=y at *;simp only [Option.bind_some];refine .ay (Ξ:=λ_=>True) (Tot.bm (λ_=>.ao trivial) (λh1=>?_)) λc _=>Tot.bB (λ_=>.ao trivial) (λ_=>.ao ⟨aQ,rfl,trivial⟩);have hw:aM (y - 1000)=y - 1000:=by rw [cK]; omega
 rw [hw];obtain ⟨b,au,_⟩:=nH (l:=B) (i:=y - 1000) (by omega) (by omega);rw [au];exact .ao trivial
theorem PX {g:bO}(aP:hb g) {q:Prod}(bg:q∈g.bj) {B:List Bool}(eH:B.length=g.ca.length):∀ s∈q.ef,s<1000\/(1000<=s/\s - 1000<B.length):=λs aA=>by
 have aw:=aP.kk;have aE:=aP.dx;rcases (aP.hl q bg).right s aA with h | h <;> omega
theorem Mo (g:bO) (aP:hb g):Tot (zZ g) λB=>B.length=g.ca.length:=by
 have aw:=aP.kk;have aE:=aP.dx;have ar:=aP.hE;unfold zZ;refine .ay (Ξ:=λB=>B=List.replicate g.ca.length false) (Tot.mk (by simp [lim]; omega) (by simp)) λaae UC=>?_;subst UC;refine .ay (Ξ:=λB:List Bool=>B.length=g.ca.length) ?_ λB eH=>.ao eH;refine Tot.loop (λs=>s.1.length=g.ca.length) (λs=>2 * (g.ca.length - hg s.1)+s.2.toNat) (by simp) (by
  show 2 * (g.ca.length - hg _)+1<1000000000000000000; omega) λs aA=>?_
 obtain ⟨B,f⟩:=s;simp only at aA ⊢;refine Tot.bB (λaW=>?_) (λ_=>.ao aA);subst aW;refine .ay (Ξ:=λr:List Bool × Bool=>r.1.length=g.ca.length/\hg B<=hg r.1/\(r.2=true->hg B<hg r.1)) ?_ λr aj=>?_
 ·refine Tot.upto (λs=>s.2.2) g.bj.length (λ_ s=>s.1.length=g.ca.length/\hg B<=hg s.1/\(s.2.1=true->hg B<hg s.1)) rfl (by omega) ⟨aA,Nat.le_refl _,λh=>by cases h⟩ λk s hk he bb=>?_;obtain ⟨C,f,i⟩:=s;obtain ⟨h1,af,aI⟩:=bb;simp only at he h1 af aI ⊢;subst he;rw [eh k (by omega)];refine Tot.bm (λaQ=>?_) (λdG=>.ao ⟨h1,af,aI⟩);have aQ:k<g.bj.length:=by omega
  have mX:=List.getElem_mem aQ;rw [dT aQ];generalize g.bj[k]=q at *;have bg:=aP.hl q mX;have Ou:=bg.left;obtain ⟨b,au,_⟩:=nH (l:=C) (i:=q.Left) Ou.1 (by omega);simp only [Option.bind_some,au];refine .ay (Ξ:=λr:List Bool × Bool=>r.1.length=g.ca.length/\hg B<=hg r.1/\(r.2=true->hg B<hg r.1)) ?_ λr aj=>.ao ⟨aQ,rfl,aj⟩;refine .ay (Ξ:=λc:Bool=>c=true->b=false) ?_ λc aa=>?_
  ·cases b with
   | true=>exact .ao λh=>by cases h
   | false =>
    refine .ay (Mp C q.ef (by have:=aP.aH q mX; omega) (PX aP mX h1) (by omega)) λ_ _=>.ao λ_=>rfl
  ·refine .ay (Ξ:=λr:List Bool × Bool=>r.1.length=g.ca.length/\hg B<=hg r.1/\(r.2=true->hg B<hg r.1)) (Tot.bB (λh=>.ao ?_) (λh=>.ao ⟨h1,af,aI⟩)) λr aj=>.ao aj;have VA:=aa h;subst VA;have r5:q.Left.toNat<C.length:=by omega
   have mv:C.getD q.Left.toNat false=false:=by
    unfold idx at au;rw [if_pos Ou.1] at au;rw [List.getD_eq_getElem?_getD,au]; rfl
   have:=wX C q.Left.toNat r5 mv;exact ⟨by rw [List.length_set]; exact h1,by show hg B<=hg (C.set _ _); omega,λ_=>by show hg B<hg (C.set _ _); omega⟩
 ·obtain ⟨h1,af,aI⟩:=aj;refine .ao ⟨h1,?_⟩;have aa:=S_ r.1;show 2 * (g.ca.length - hg r.1)+r.2.toNat<2 * (g.ca.length - hg B)+true.toNat;cases iM:r.2 with
  | false=>simp only [Bool.toNat_false,Bool.toNat_true]; omega
  | true =>
   have:=aI iM;simp only [Bool.toNat_true]; omega
structure jj (T:Nat) (r:List Int):Prop where
 a:e3 hR r
 i:∀ x∈r,0<=x/\x<T
theorem jj.len {T:Nat}{r:List Int}(h:jj T r):r.length<=T:=by
 have:=uy (m:=(List.range T).map λk:Nat=>(k:Int)) (h.a.nd FI) λx J=>by
  have:=h.i x J;exact List.mem_map.2 ⟨x.toNat,by rw [List.mem_range]; omega,by omega⟩
 grind
theorem jj.nil {T:Nat}:jj T []:=⟨.nil,λx h=>by cases h⟩
theorem jj.put {T:Nat}(dK:T<=100000) {r:List Int}(h:jj T r) {x:Int}(J:0<=x/\x<T):Tot (pM r x) λcW=>jj T cW/\r.length<=cW.length:=by
 have ai:=h.len;refine (Be r x h.a (by omega)).use λcW dN=>⟨⟨dN.1,λy av=>?_⟩,uy (h.a.nd FI) λy av=>(dN.2.2 y).2 (.inl av)⟩;rcases (dN.2.2 y).1 av with aL | rfl
 ·exact h.i y aL
 grind
def mB (L:List (List Int)) (i:Nat):Nat:=(L.getD i []).length
def je (L:List (List Int)):Nat:=(L.map List.length).sum
theorem QM:∀ (L L':List (List Int)),L.length=L'.length->(∀ i,mB L i<=mB L' i)->je L<=je L'/\((∃ i,mB L i<mB L' i)->je L<je L')
 | [],[],_,_=>⟨Nat.le_refl _,λ⟨i,h⟩=>absurd h (Nat.lt_irrefl _)⟩
 | a::L,b::L',ai,h=>by
  obtain ⟨h1,af⟩:=QM L L' (by simpa using ai) λi=>by simpa [mB] using h (i+1)
  have aT:a.length<=b.length:=by simpa [mB] using h 0
  have cu:je (a::L)=a.length+je L:=by simp [je]
  have cd:je (b::L')=b.length+je L':=by simp [je]
  rw [cu,cd];refine ⟨by omega,λ⟨i,hi⟩=>?_⟩;cases i with
  | zero =>
   have:a.length<b.length:=by simpa [mB] using hi
   omega
  | succ i =>
   have:=af ⟨i,by simpa [mB] using hi⟩;omega
def Sets (T:Nat) (L:List (List Int)):Prop:=∀ r∈L,jj T r
theorem QL {T:Nat}:∀ {L:List (List Int)},Sets T L->je L<=L.length * T
 | [],_=>by simp [je]
 | a::L,h=>by
  have h1:=(h a (by simp)).len;have af:=QL (L:=L) λr aj=>h r (by simp [aj]);have cu:je (a::L)=a.length+je L:=by simp [je]
  rw [cu,List.length_cons,Nat.succ_mul]; omega
structure o8 (T:Nat) (L L':List (List Int)):Prop where
 n:L'.length=L.length
 s:Sets T L'
 u:∀ i,mB L i<=mB L' i
theorem o8.refl {T:Nat}{L:List (List Int)}(h:Sets T L):o8 T L L:=⟨rfl,h,λ_=>Nat.le_refl _⟩
theorem o8.trans {T:Nat}{A B C:List (List Int)}(h:o8 T A B) (aL:o8 T B C):o8 T A C:=⟨aL.n.trans h.n,aL.s,λi=>Nat.le_trans (h.u i) (aL.u i)⟩
theorem o8.set {T:Nat}{L:List (List Int)}{k:Nat}{r cW:List Int}(aA:Sets T L) (hk:L[k]?=some r) (h:jj T cW) (ai:r.length<=cW.length):o8 T L (L.set k cW):=by
 have fq:=(List.getElem?_eq_some_iff.1 hk).1;refine ⟨List.length_set ..,λx J=>?_,λi=>?_⟩
 ·rcases List.mem_or_eq_of_mem_set J with aL | aL
  ·exact aA x aL
  grind
 grind [mB]
theorem Xq {L:List (List Int)}{k:Nat}{r:List Int}(h:L[k]?=some r):mB L k=r.length:=by
 grind [mB]
theorem Xo {α:Type}{l:List α}{i:Int}{y:α}(h:idx l i=some y):l[i.toNat]?=some y:=by
 grind [idx]
theorem Mz (T:Nat) (dK:T<=1000) (a0 aF:List (List Int)) (aE:a0.length<=9600) (he:aF.length=a0.length) (aT:Sets T a0) (h1:Sets a0.length aF):Tot (An a0 aF) λr=>r.length=a0.length/\Sets T r:=by
 unfold An;refine .ay (Ξ:=λr:List (List Int)=>r.length=a0.length/\Sets T r) ?_ λr aj=>.ao aj;have au:a0.length * T<=9600 * 1000:=Nat.mul_le_mul aE dK;refine Tot.loop (λs=>s.1.length=a0.length/\Sets T s.1) (λs=>2 * (a0.length * T - je s.1)+s.2.toNat) ⟨rfl,aT⟩ (by
  show 2 * (a0.length * T - je _)+1<1000000000000000000;omega) λs aA=>?_
 obtain ⟨L,f⟩:=s;obtain ⟨ai,aA⟩:=aA;simp only at ai aA ⊢;refine Tot.bB (λaW=>?_) (λ_=>.ao ⟨ai,aA⟩);subst aW;refine .ay (Ξ:=λr:List (List Int) × Bool=>o8 T L r.1/\(r.2=true->∃ i,mB L i<mB r.1 i)) ?_ λr aj=>?_
 ·refine Tot.upto (λs=>s.2.2) L.length (λ_ s=>o8 T L s.1/\(s.2.1=true->∃ i,mB L i<mB s.1 i)) rfl (by omega) ⟨.refl aA,λh=>by cases h⟩ λk s hk h5 bb=>?_;obtain ⟨C,f,i⟩:=s;obtain ⟨hu,sL⟩:=bb;simp only at h5 hu sL ⊢;subst h5;rw [eh k (by omega)];have OD:=hu.n;refine Tot.bm (λaQ=>?_) (λdG=>.ao ⟨hu,sL⟩);have Ob:k<C.length:=by omega
  have gZ:k<aF.length:=by omega
  have acO:C[k]?=some C[k]:=List.getElem?_eq_getElem Ob;have qi:=h1 _ (List.getElem_mem gZ);rw [dT gZ,dT Ob];generalize aF[k]=row at *;generalize C[k]=nf at *;simp only [Option.bind_some];have kR:=qi.len;refine .ay (Ξ:=λD:List (List Int)=>o8 T C D) ?_ λD oG=>?_
  ·refine Tot.upto (λs=>s.2) row.length (λ_ s=>o8 T C s.1) rfl (by omega) (.refl hu.s) λj s ag h5 bb=>?_;obtain ⟨D,i⟩:=s;simp only at h5 bb ⊢;subst h5;rw [eh j (by omega)];have UG:=bb.n;refine Tot.bm (λaQ=>?_) (λ_=>.ao bb);have aQ:j<row.length:=by omega
   have av:=qi.i _ (List.getElem_mem aQ);rw [dT aQ];generalize row[j]=y at *;simp only [Option.bind_some];refine .ay (Ξ:=λE:List (List Int)=>o8 T C E) ?_ λE k'=>.ao ⟨aQ,rfl,k'⟩;refine Tot.count (λs=>s.2) T (λs=>∃ n:Nat,s.2=(n:Int)/\o8 T C s.1) ⟨0,rfl,bb⟩ (by show (T:Int) - 0<_; omega) λs aA=>?_;obtain ⟨E,i⟩:=s;obtain ⟨n,EP,k'⟩:=aA;simp only at EP k' ⊢;subst EP;have acA:=k'.n;obtain ⟨z,aX,Xl⟩:=nH (l:=E) (i:=y) av.1 (by omega);have pB:=k'.s z Xl;have vJ:=pB.len;have IY:k<E.length:=by omega
   have VU:E[k]?=some E[k]:=List.getElem?_eq_getElem IY;rw [aX];simp only [Option.bind_some];refine Tot.bm (λaQ=>?_) (λ_=>.ao k');have aQ:n<z.length:=by omega
   rw [eh n (by omega),dT IY,dT aQ];simp only [Option.bind_some];refine .ay ((k'.s _ (List.getElem_mem IY)).put (by omega) (pB.i _ (List.getElem_mem aQ))) λcW dN=>.ao ⟨⟨n+1,rfl,?_⟩,by show (n:Int)<((n+1:Nat):Int); omega,by show ((n+1:Nat):Int)<=T; omega⟩;exact k'.trans (.set k'.s VU dN.1 dN.2)
  ·have UG:=oG.n;have Oc:k<D.length:=by omega
   have acP:D[k]?=some D[k]:=List.getElem?_eq_getElem Oc;have zB:=hu.trans oG;refine .ay (Ξ:=λc:Bool=>c=true->∃ i,mB L i<mB D i) ?_ λc aa=>.ao ⟨by omega,rfl,zB,aa⟩;refine Tot.bB (λaW=>.ao λ_=>?_) (λ_=>?_)
   ·obtain ⟨i,hi⟩:=sL aW;exact ⟨i,Nat.lt_of_lt_of_le hi (oG.u i)⟩
   ·rw [dT Oc];refine Tot.aV (.ao λh=>⟨k,?_⟩);have aI:=oG.u k;have bD:=hu.u k
    grind [Xq]
 ·obtain ⟨hu,aW⟩:=aj;have B8:=hu.n;obtain ⟨aI,bD⟩:=QM L r.1 B8.symm hu.u;have cF:=QL hu.s;rw [show r.1.length=a0.length by omega] at cF;refine .ao ⟨⟨by show r.1.length=_; omega,hu.s⟩,?_⟩;show 2 * (a0.length * T - je r.1)+r.2.toNat<2 * (a0.length * T - je L)+true.toNat;cases iM:r.2 with
  | false=>simp only [Bool.toNat_false,Bool.toNat_true]; omega
  | true =>
   grind
theorem mH.sym {g:bO}(aP:hb g) {m:List State}(hm:mH g m) {st:State}(b0:st∈m) {v:Move}(hv:v∈st.eV):0<=v.Sym/\(v.Sym<1000->v.Sym<g.ba.length)/\(1000<=v.Sym->v.Sym - 1000<g.ca.length):=by
 have aw:=aP.kk;rcases XM.1 (hm.aZ st b0 v hv).s with h | h
 ·exact ⟨h.1,λ_=>h.2,λaL=>by omega⟩
 ·exact ⟨by omega,λaL=>by omega,λ_=>by omega⟩
theorem u7.go {g:bO}{m:List State}(hm:mH g m) {t:Trans}(h:u7 m t):Tot (rl m t.State t.fE) λr=>0<=r/\r<m.length:=by
 obtain ⟨st,v,h1,af,aI,_⟩:=h;exact (Ee m t.State t.fE hm.xQ).use λr aj=>aj.yes hm h1 af aI
theorem Qq {T:Nat}{L:List (List Int)}{r:List Int}(h:Sets T L) (aj:jj T r):Sets T (L++[r]):=λx J=>by
 rcases List.mem_append.1 J with J | J
 ·exact h x J
 ·rw [List.mem_singleton.1 J]; exact aj
theorem S1 (g:bO) (aP:hb g) {m:List State}(hm:mH g m):Tot (Dh m) λr=>∃ dB,qx m=some dB/\wD m dB/\r.length=dB.length/\Sets g.ba.length r:=by
 have aw:=aP.kk;obtain ⟨dB,qc,iD⟩:=S4 hm;have xo:=iD.n;unfold Dh;rw [qc];refine Tot.aV (.ay (Ξ:=λr:List (List Int)=>r.length=dB.length/\Sets g.ba.length r) ?_ λr aj=>.ao ⟨dB,rfl,iD,aj⟩);refine Tot.upto (λs=>s.2) dB.length (λk s=>s.1.length=k/\Sets g.ba.length s.1) rfl (by omega) ⟨rfl,λr h=>by cases h⟩ λk s hk he bb=>?_;obtain ⟨L,i⟩:=s;obtain ⟨h1,af⟩:=bb;simp only at he h1 af ⊢;subst he;rw [eh k (by omega)];refine Tot.bm (λaQ=>?_) (λdG=>.ao ⟨by show L.length=_; omega,af⟩);have aQ:k<dB.length:=by omega
 have ga:=iD.ok _ (List.getElem_mem aQ);rw [dT aQ];generalize dB[k]=t at *;simp only [Option.bind_some];refine .ay (ga.go hm) λto Cc=>?_;obtain ⟨st,b0,nD⟩:=nH Cc.1 Cc.2;have dj:=hm.qt st nD;have vx:=hm.xQ st nD;rw [b0];simp only [Option.bind_some];refine .ay (SE _ (by have:=dj.len aP; omega)) λc _=>?_;refine .ay (Ξ:=jj g.ba.length) (Tot.bB (λ_=>?_) (λ_=>.ao .nil)) λAx zy=>?_
 ·refine .ay (Ξ:=λ_=>True) (Tot.ap (by simp [lim]) trivial) λ_ _=>.ao ⟨List.pairwise_singleton ..,λx J=>?_⟩;rw [List.mem_singleton.1 J]; omega
 refine .ay (Ξ:=jj g.ba.length) ?_ λr aj=>?_
 ·refine Tot.upto (λs=>s.2) st.eV.length (λk s=>jj g.ba.length s.1) rfl (by omega) zy λj s ag he bb=>?_;obtain ⟨r,i⟩:=s;simp only at he bb ⊢;subst he;rw [eh j (by omega)];refine Tot.bm (λaQ=>?_) (λ_=>.ao bb);have aQ:j<st.eV.length:=by omega
  have hv:=hm.sym aP nD (List.getElem_mem aQ);rw [dT aQ];generalize st.eV[j]=v at *;simp only [Option.bind_some];refine .ay (Ξ:=jj g.ba.length) ?_ λr aj=>.ao ⟨aQ,rfl,aj⟩;refine .ay (Ξ:=jj g.ba.length) (Tot.bm (λh=>?_) (λ_=>.ao bb)) λr aj=>.ao aj;exact .ay (bb.put (by omega) ⟨hv.1,hv.2.1 h⟩) λr aj=>.ao aj.1
 ·refine .ay (Ξ:=λ_=>True) (Tot.ap (by simp [lim]; omega) trivial) λ_ _=>.ao ⟨aQ,rfl,by simp; omega,Qq af aj⟩
theorem S2 (g:bO) (aP:hb g) {m:List State}(hm:mH g m) {dB:List Trans}(qc:qx m=some dB) (iD:wD m dB):Tot (Di g m) λr=>r.length=dB.length/\Sets dB.length r:=by
 have aw:=aP.kk;have kb:=aP.dx;have xo:=iD.n;unfold Di;rw [qc];refine Tot.aV (.ay (Mo g aP) λB eH=>.ay (Ξ:=λr:List (List Int)=>r.length=dB.length/\Sets dB.length r) ?_ λr aj=>.ao aj);refine Tot.upto (λs=>s.2) dB.length (λk s=>s.1.length=k/\Sets dB.length s.1) rfl (by omega) ⟨rfl,λr h=>by cases h⟩ λk s hk he bb=>?_;obtain ⟨L,i⟩:=s;obtain ⟨h1,af⟩:=bb;simp only at he h1 af ⊢;subst he;rw [eh k (by omega)];refine Tot.bm (λaQ=>?_) (λdG=>.ao ⟨by show L.length=_; omega,af⟩);have aQ:k<dB.length:=by omega
 have ga:=iD.ok _ (List.getElem_mem aQ);rw [dT aQ];generalize dB[k]=t at *;simp only [Option.bind_some];refine .ay (ga.go hm) λto Cc=>?_;obtain ⟨st,b0,nD⟩:=nH Cc.1 Cc.2;have qj:=Xo b0;have vx:=hm.xQ st nD;rw [b0];simp only [Option.bind_some];refine .ay (Ξ:=jj dB.length) ?_ λr aj=>?_
 ·refine Tot.upto (λs=>s.2) st.eV.length (λk s=>jj dB.length s.1) rfl (by omega) .nil λj s ag he bb=>?_;obtain ⟨r,i⟩:=s;simp only at he bb ⊢;subst he;rw [eh j (by omega)];refine Tot.bm (λaQ=>?_) (λ_=>.ao bb);have aQ:j<st.eV.length:=by omega
  have E1:=List.getElem_mem aQ;have hv:=hm.sym aP nD E1;rw [dT aQ];generalize st.eV[j]=v at *;simp only [Option.bind_some];refine .ay (Ξ:=jj dB.length) ?_ λr aj=>.ao ⟨aQ,rfl,aj⟩;refine .ay (Ξ:=λc:Bool=>c=true->1000<=v.Sym) (Tot.bm (λh=>?_) (λ_=>.ao λh=>by cases h)) λc aa=>?_
  ·have hw:aM (v.Sym - 1000)=v.Sym - 1000:=by
    have:=hv.2.2 h;rw [cK]; omega
   rw [hw];obtain ⟨b,au,_⟩:=nH (l:=B) (i:=v.Sym - 1000) (by omega) (by have:=hv.2.2 h; omega);rw [au];exact Tot.aV (.ao λ_=>h)
  ·refine .ay (Ξ:=jj dB.length) (Tot.bB (λh=>?_) (λ_=>.ao bb)) λr aj=>.ao aj;have vt:=iD.fF to.toNat st v qj E1 (aa h);rw [show ((to.toNat:Nat):Int)=to by omega] at vt;refine .ay (Bc dB to v.Sym xo) λz aX=>?_;exact .ay (bb.put (by omega) ⟨aX.2.2 vt,aX.2.1⟩) λr aj=>.ao aj.1
 ·refine .ay (Ξ:=λ_=>True) (Tot.ap (by simp [lim]; omega) trivial) λ_ _=>.ao ⟨aQ,rfl,by simp; omega,Qq af aj⟩
theorem S3 (g:bO) (aP:hb g) {m:List State}(hm:mH g m) {dB:List Trans}(qc:qx m=some dB) (iD:wD m dB):Tot (Dj g m) λr=>r.length=dB.length/\Sets dB.length r:=by
 have aw:=aP.kk;have kb:=aP.dx;have q_:=aP.hE;have xo:=iD.n;unfold Dj;rw [qc];refine Tot.aV (.ay (Mo g aP) λB eH=>.ay (Ξ:=λr=>r=List.replicate dB.length ([]:List Int)) (Tot.mk (by simp [lim]; omega) (by simp)) λaag UP=>.ay (Ξ:=λr:List (List Int)=>r.length=dB.length/\Sets dB.length r) ?_ λr aj=>.ao aj);subst UP;have aad:∀ {L:List (List Int)},(L.length=dB.length/\Sets dB.length L)->∀ {z:Int}{r cW:List Int},idx L z=some r->jj dB.length cW->(L.set z.toNat cW).length=dB.length/\Sets dB.length (L.set z.toNat cW):=λ{L} hr {z r cW} _ dN=>⟨by rw [List.length_set]; exact hr.1,λx J=>by
  rcases List.mem_or_eq_of_mem_set J with aL | aL
  ·exact hr.2 x aL
  ·rw [aL]; exact dN⟩
 refine Tot.upto (λs=>s.2) dB.length (λk s=>s.1.length=dB.length/\Sets dB.length s.1) rfl (by omega) ⟨by simp,λr h=>by rw [List.eq_of_mem_replicate h]; exact .nil⟩ λk s hk he bb=>?_;obtain ⟨L,i⟩:=s;simp only at he bb ⊢;subst he;rw [eh k (by omega)];refine Tot.bm (λaQ=>?_) (λdG=>.ao bb);have aQ:k<dB.length:=by omega
 have ga:=iD.ok _ (List.getElem_mem aQ);rw [dT aQ];generalize dB[k]=t at *;simp only [Option.bind_some];refine .ay (Ξ:=λr:List (List Int)=>r.length=dB.length/\Sets dB.length r) ?_ λr aj=>.ao ⟨aQ,rfl,aj⟩;refine Tot.upto (λs=>s.2) g.bj.length (λk s=>s.1.length=dB.length/\Sets dB.length s.1) rfl (by omega) bb λp s ar he bb=>?_;obtain ⟨L,i⟩:=s;simp only at he bb ⊢;subst he;rw [eh p (by omega)];refine Tot.bm (λEO=>?_) (λdG=>.ao bb);have EO:p<g.bj.length:=by omega
 have mX:=List.getElem_mem EO;rw [dT EO];generalize g.bj[p]=q at *;have bg:=aP.hl q mX;have B8:=aP.aH q mX;have kc:=PX aP mX eH;simp only [Option.bind_some];refine .ay (Ξ:=λr:List (List Int)=>r.length=dB.length/\Sets dB.length r) ?_ λr aj=>.ao ⟨EO,rfl,aj⟩;refine Tot.bB (λ_=>.ao bb) (λ_=>.ay (Ξ:=λr:List (List Int)=>r.length=dB.length/\Sets dB.length r) ?_ λr aj=>.ao aj);refine Tot.upto (λs=>s.2) q.ef.length (λk s=>s.1.length=dB.length/\Sets dB.length s.1) rfl (by omega) bb λj s ag he bb=>?_;obtain ⟨L,i⟩:=s;simp only at he bb ⊢;subst he;rw [eh j (by omega)];refine Tot.bm (λeB=>?_) (λdG=>.ao bb);have eB:j<q.ef.length:=by omega
 rw [dT eB];generalize q.ef[j]=y at *;simp only [Option.bind_some];refine .ay (Ξ:=λr:List (List Int)=>r.length=dB.length/\Sets dB.length r) ?_ λr aj=>.ao ⟨eB,rfl,aj⟩;refine .ay (Ξ:=λ_=>True) (Tot.bm (λ_=>.ao trivial) (λ_=>?_)) λc _=>Tot.bB (λ_=>.ao bb) (λ_=>?_)
 ·refine .ay (Ξ:=λr=>r=q.ef.drop (j+1)) (Tot.sub ⟨by omega,by omega,by omega⟩ ?_) λr aj=>?_
  ·rw [List.take_of_length_le]
   ·congr 1
   ·rw [List.length_drop]; omega
  ·subst aj;exact .ay (Mp B _ (by rw [List.length_drop]; omega) (λs aA=>kc s (List.mem_of_mem_drop aA)) (by omega)) λ_ _=>.ao trivial
 refine .ay (Ξ:=λr=>r.length<=8) (Tot.sub ⟨by omega,by omega,by omega⟩ (by rw [List.length_take,List.length_drop]; omega)) λr aj=>?_;obtain ⟨st,_,b0,_⟩:=ga;have Jl:=n' b0;refine .ay (MA hm t.State r ⟨by omega,Jl.2.1⟩ (by omega)) λz aX=>?_;refine .ay (Ξ:=λr:List (List Int)=>r.length=dB.length/\Sets dB.length r) (Tot.bB (λ_=>?_) (λ_=>.ao bb)) λr aj=>.ao aj;refine .ay (Bc dB z y xo) λn aE=>?_;refine .ay (Ξ:=λr:List (List Int)=>r.length=dB.length/\Sets dB.length r) (Tot.bm (λaT=>?_) (λ_=>.ao bb)) λr aj=>.ao aj;obtain ⟨Ax,zy,uj⟩:=nH (l:=L) aT (by rw [bb.1]; exact aE.2.1);rw [zy];refine Tot.aV (.ay ((bb.2 Ax uj).put (by omega) ⟨by omega,by omega⟩) λcW dN=>.ao (aad bb zy dN.1))
theorem SR (g:bO) (aP:hb g) {m:List State}(hm:mH g m):Tot (Al g m) λr=>∃ dB,qx m=some dB/\wD m dB/\r.length=dB.length/\Sets g.ba.length r:=by
 have aw:=aP.kk;unfold Al;refine .ay (S1 g aP hm) λs' h1=>?_;obtain ⟨dB,qc,iD,I3,xn⟩:=h1;have xo:=iD.n;refine .ay (S2 g aP hm qc iD) λlr af=>.ay (Mz g.ba.length (by omega) s' lr (by omega) (by omega) xn (by rw [I3]; exact af.2)) λAy aI=>?_;refine .ay (S3 g aP hm qc iD) λyb bD=>.ay (Mz g.ba.length (by omega) Ay yb (by omega) (by omega) aI.2 (by rw [aI.1,I3]; exact bD.2)) λDq cF=>?_;exact .ao ⟨dB,qc,iD,by omega,cF.2⟩
def qU (g:bO) (p:Int):Prop:=0<p/\p<g.bj.length
theorem Bf (g:bO) (aP:hb g) (K:List Item) (ai:K.length<=1000000):Tot (C' g K) λr=>r.length<=540/\∀ p∈r,qU g p:=by
 unfold C';refine .ay (Hz g aP K ai) λc aa=>?_;have gR:=tz aP aa.1 λx J=>((aa.2 x).1 J).ja;refine .ay (Ξ:=λr:List Int=>r.length<=540/\∀ p∈r,qU g p) ?_ λr aj=>.ao aj;refine Tot.upto (λs=>s.2) c.length (λk s=>s.1.length<=k/\∀ p∈s.1,qU g p) rfl (by omega) ⟨Nat.le_refl 0,λp h=>by cases h⟩ λk s hk he bb=>?_;obtain ⟨L,i⟩:=s;obtain ⟨h1,af⟩:=bb;simp only at he h1 af ⊢;subst he;rw [eh k (by omega)];refine Tot.bm (λaQ=>?_) (λdG=>.ao ⟨by show L.length<=_; omega,af⟩);have aQ:k<c.length:=by omega
 have hi:=((aa.2 _).1 (List.getElem_mem aQ)).ja;rw [dT aQ];generalize c[k]=x at *;obtain ⟨q,bg,aI,bD⟩:=hi;simp only [Option.bind_some];refine .ay (Ξ:=λL:List Int=>L.length<=k+1/\∀ p∈L,qU g p) ?_ λr aj=>.ao ⟨aQ,rfl,aj⟩;refine .ay (Ξ:=λc:Bool=>c=true->0<x.Prod) (Tot.bm (λh=>?_) (λ_=>.ao λh=>by cases h)) λc aa=>?_
 ·rw [bg]; exact Tot.aV (.ao λ_=>h)
 refine .ay (Ξ:=λL:List Int=>L.length<=k+1/\∀ p∈L,qU g p) (Tot.bB (λh=>?_) (λ_=>.ao ⟨by omega,af⟩)) λr aj=>.ao aj;refine .ay (Ξ:=λ_=>True) (Tot.ap (by simp [lim]; omega) trivial) λ_ _=>.ao ⟨by simp; omega,λp ar=>?_⟩;rcases List.mem_append.1 ar with ar | ar
 ·exact af p ar
 ·rw [List.mem_singleton.1 ar]; exact ⟨aa h,(n' bg).2.1⟩
theorem SS (g:bO) (aP:hb g) {m:List State}(hm:mH g m) {dB:List Trans}(qc:qx m=some dB) (iD:wD m dB) (q p:Int):Tot (Da g m q p) λr=>r.length<=9600/\∀ x∈r,0<=x/\x<dB.length:=by
 have xo:=iD.n;have q_:=aP.hE;have kb:=aP.dx;unfold Da;refine .ay (Ξ:=λc:Bool=>c=false->0<=p/\p<g.bj.length) (Tot.bm (λ_=>.ao λh=>by cases h) (λ_=>Tot.bm (λ_=>.ao λh=>by cases h) (λ_=>Tot.bm (λ_=>.ao λh=>by cases h) (λh=>.ao λaL=>by have:=of_decide_eq_false aL; omega)))) λc aa=>Tot.bB (λ_=>.ao ⟨Nat.zero_le _,λx h=>by cases h⟩) (λh=>?_);obtain ⟨aT,h1⟩:=aa h;rw [qc];refine Tot.aV ?_;refine .ay (Ξ:=λr:List Int=>r.length<=9600/\∀ x∈r,0<=x/\x<dB.length) ?_ λr aj=>.ao aj;obtain ⟨hl,EV,Wk⟩:=nH aT h1;have B8:=aP.aH hl Wk;refine Tot.upto (λs=>s.2) dB.length (λk s=>s.1.length<=k/\∀ x∈s.1,0<=x/\x<dB.length) rfl (by omega) ⟨Nat.le_refl 0,λp h=>by cases h⟩ λk s hk he bb=>?_;obtain ⟨L,i⟩:=s;obtain ⟨af,aI⟩:=bb;simp only at he af aI ⊢;subst he;rw [eh k (by omega)];refine Tot.bm (λaQ=>?_) (λdG=>.ao ⟨by show L.length<=_; omega,aI⟩);have aQ:k<dB.length:=by omega
 have ga:=iD.ok _ (List.getElem_mem aQ);rw [dT aQ,EV];generalize dB[k]=t at *;obtain ⟨st,_,b0,_⟩:=ga;have Jl:=n' b0;simp only [Option.bind_some];refine .ay (Ξ:=λL:List Int=>L.length<=k+1/\∀ x∈L,0<=x/\x<dB.length) ?_ λr aj=>.ao ⟨aQ,rfl,aj⟩;refine .ay (Ξ:=λ_=>True) (Tot.bm (λh=>?_) (λ_=>.ao trivial)) λc aa=>?_
 ·exact .ay (MA hm t.State hl.ef ⟨by omega,Jl.2.1⟩ (by omega)) λ_ _=>.ao trivial
 refine .ay (Ξ:=λL:List Int=>L.length<=k+1/\∀ x∈L,0<=x/\x<dB.length) (Tot.bB (λh=>?_) (λ_=>.ao ⟨by omega,aI⟩)) λr aj=>.ao aj;refine .ay (Ξ:=λ_=>True) (Tot.ap (by simp [lim]; omega) trivial) λ_ _=>.ao ⟨by simp; omega,λp ar=>?_⟩;rcases List.mem_append.1 ar with ar | ar
 ·exact aI p ar
 ·rw [List.mem_singleton.1 ar]; exact ⟨by omega,by omega⟩
structure yP (g:bO) (l:k6):Prop where
 p:qU g l.Prod
 t:jj g.ba.length l.ba
theorem SK (g:bO) (aP:hb g) {m:List State}(hm:mH g m):Tot (C8 g m) λr=>r.length<=81000/\∀ l∈r,yP g l:=by
 have aw:=aP.kk;have xk:=hm.nL;unfold C8;refine .ay (SR g aP hm) λF aO=>?_;obtain ⟨dB,qc,iD,acB,jD⟩:=aO;have xo:=iD.n;refine .ay (Ξ:=λr:List k6=>r.length<=81000/\∀ l∈r,yP g l) ?_ λr aj=>.ao aj;refine Tot.upto (λs=>s.2) m.length (λk s=>s.1.length<=540 * k/\∀ l∈s.1,yP g l) rfl (by omega) ⟨Nat.le_refl 0,λp h=>by cases h⟩ λk s hk he bb=>?_;obtain ⟨L,i⟩:=s;obtain ⟨h1,af⟩:=bb;simp only at he h1 af ⊢;subst he;rw [eh k (by omega)];refine Tot.bm (λaQ=>?_) (λdG=>.ao ⟨by show L.length<=_; omega,af⟩);have aQ:k<m.length:=by omega
 have dj:=hm.qt _ (List.getElem_mem aQ);rw [dT aQ];generalize m[k]=st at *;refine Tot.aV (.ay (Bf g aP st.Kernel (by have:=dj.len aP; omega)) λE k'=>?_);obtain ⟨acz,UH⟩:=k';refine .ay (Ξ:=λL:List k6=>L.length<=540 * (k+1)/\∀ l∈L,yP g l) ?_ λr aj=>.ao ⟨aQ,rfl,aj⟩;refine Tot.upto (λs=>s.2) E.length (λj s=>s.1.length<=540 * k+j/\∀ l∈s.1,yP g l) rfl (by omega) ⟨h1,af⟩ λj s ag he bb=>?_;obtain ⟨L,i⟩:=s;obtain ⟨h1,af⟩:=bb;simp only at he h1 af ⊢;subst he;rw [eh j (by omega)];refine Tot.bm (λeB=>?_) (λdG=>.ao ⟨by show L.length<=_; omega,af⟩);have eB:j<E.length:=by omega
 have ar:=UH _ (List.getElem_mem eB);rw [dT eB];generalize E[j]=p at *;simp only [Option.bind_some];refine .ay (SS g aP hm qc iD k p) λB eH=>?_;obtain ⟨acx,UE⟩:=eH;refine .ay (Ξ:=jj g.ba.length) ?_ λS bk=>?_
 ·refine Tot.upto (λs=>s.2) B.length (λ_ s=>jj g.ba.length s.1) rfl (by omega) .nil λb s au he bb=>?_;obtain ⟨S,i⟩:=s;simp only at he bb ⊢;subst he;rw [eh b (by omega)];refine Tot.bm (λzu=>?_) (λdG=>.ao bb);have zu:b<B.length:=by omega
  have J:=UE _ (List.getElem_mem zu);rw [dT zu];generalize B[b]=x at *;obtain ⟨row,qi,uj⟩:=nH (l:=F) J.1 (by omega);have l3:=jD row uj;have kR:=l3.len;simp only [Option.bind_some,qi];refine .ay (Ξ:=jj g.ba.length) ?_ λS bk=>.ao ⟨zu,rfl,bk⟩;refine Tot.upto (λs=>s.2) row.length (λ_ s=>jj g.ba.length s.1) rfl (by omega) bb λz s aX he bb=>?_;obtain ⟨S,i⟩:=s;simp only at he bb ⊢;subst he;rw [eh z (by omega)];refine Tot.bm (λqg=>?_) (λdG=>.ao bb);have qg:z<row.length:=by omega
  rw [dT qg];exact Tot.aV (.ay (bb.put (by omega) (l3.i _ (List.getElem_mem qg))) λr aj=>.ao ⟨qg,rfl,aj.1⟩)
 ·refine .ay (Ξ:=λ_=>True) (Tot.ap (by simp [lim]; omega) trivial) λ_ _=>.ao ⟨eB,rfl,by simp; omega,λl ai=>?_⟩;rcases List.mem_append.1 ai with ai | ai
  ·exact af l ai
  ·rw [List.mem_singleton.1 ai]; exact ⟨ar,bk⟩
def oh (c:Cell):Nat:=c.bj.length+(if 0<=c.j1 then 1 else 0)+(if c.lT then 1 else 0)
theorem ZF {x:Option Int}{c:Cell}(ai:c.bj.length<=1000) (e:x=(((bif decide (0<=c.j1) then
some (aM ((c.bj.length:Int)+1))
else
some (c.bj.length:Int))).bind λjn =>
((bif c.lT then
some (aM (jn+1))
else
some jn)).bind λir =>
some ir)):x=some (oh c:Int):=by
 subst e;have hw:aM ((c.bj.length:Int)+1)=(c.bj.length:Int)+1:=by rw [cK]; omega
 have WT:aM ((c.bj.length:Int)+1+1)=(c.bj.length:Int)+1+1:=by rw [cK]; omega
 unfold oh;by_cases h:0<=c.j1
 ·cases af:c.lT <;> simp [h,hw,WT]
 ·cases af:c.lT <;> simp [h,hw]
theorem MS (c:Cell) (ai:c.bj.length<=1000):Ag c=some (oh c:Int):=ZF ai (by unfold Ag; rfl)
structure o1 (g:bO) (n:Nat) (c:Cell):Prop where
 s:0<=c.State/\c.State<n
 t:0<=c.bT/\c.bT<g.ba.length
 f:-1<=c.j1/\c.j1<n
 p:e3 hR c.bj
 q:∀ p∈c.bj,qU g p
 ZB:0<oh c
theorem o1.len {g:bO}(aP:hb g) {n:Nat}{c:Cell}(h:o1 g n c):c.bj.length<=60:=by
 have:=aP.hE;have:=jj.len (T:=g.bj.length) ⟨h.p,λx J=>⟨by have:=(h.q x J).1; omega,(h.q x J).2⟩⟩;omega
def yD (a b:Cell):Prop:=a.State<b.State\/(a.State=b.State/\a.bT<b.bT)
structure AT (g:bO) (n:Nat) (l:List Cell):Prop where
 ok:∀ c∈l,o1 g n c
 ady:l.Pairwise yD
 n:l.length<=6000
theorem Bd (g:bO) (aP:hb g) {m:List State}(hm:mH g m) (qu:List k6) (ai:qu.length<=81000) (hk:∀ l∈qu,yP g l):Tot (C7 g m qu) (AT g m.length):=by
 have aw:=aP.kk;have xk:=hm.nL;have q_:=aP.hE;unfold C7;refine .ay (Ξ:=AT g m.length) ?_ λr aj=>.ao aj;refine Tot.upto (λs=>s.2) m.length (λk s=>s.1.length<=40 * k/\(∀ c∈s.1,o1 g m.length c)/\s.1.Pairwise yD/\∀ c∈s.1,c.State<k) rfl (by omega) ⟨Nat.le_refl 0,λp h=>(by cases h),.nil,λp h=>by cases h⟩ λk s xh he bb=>?_;obtain ⟨L,i⟩:=s;obtain ⟨h1,af,aI,bD⟩:=bb;simp only at he h1 af aI bD ⊢;subst he;rw [eh k (by omega)];refine Tot.bm (λaQ=>?_) (λdG=>.ao ⟨af,aI,by show L.length<=_; omega⟩);have aQ:k<m.length:=by omega
 have dj:=hm.qt _ (List.getElem_mem aQ);rw [dT aQ];generalize m[k]=st at *;have acE:=dj.len aP;refine .ay (Ξ:=λL:List Cell=>L.length<=40 * (k+1)/\(∀ c∈L,o1 g m.length c)/\L.Pairwise yD/\∀ c∈L,c.State<(k+1:Nat)) ?_ λr aj=>.ao ⟨aQ,rfl,aj⟩;refine Tot.upto (λs=>s.2) g.ba.length (λj s=>s.1.length<=40 * k+j/\(∀ c∈s.1,o1 g m.length c)/\s.1.Pairwise yD/\∀ c∈s.1,c.State<k\/(c.State=k/\c.bT<j)) rfl (by omega) ⟨h1,af,aI,λc aa=>.inl (bD c aa)⟩ λj s ag he bb=>?_;obtain ⟨L,i⟩:=s;obtain ⟨h1,af,aI,bD⟩:=bb;simp only at he h1 af aI bD ⊢;subst he;rw [eh j (by omega)];refine Tot.bm (λeB=>?_) (λdG=>.ao ⟨by show L.length<=_; omega,af,aI,λc aa=>by rcases bD c aa with h | h <;> omega⟩);refine .ay (Ξ:=λL:List Cell=>L.length<=40 * k+(j+1)/\(∀ c∈L,o1 g m.length c)/\L.Pairwise yD/\∀ c∈L,c.State<k\/(c.State=k/\c.bT<(j+1:Nat))) ?_ λr aj=>.ao ⟨by omega,rfl,aj⟩;refine .ay (Ee m k j hm.xQ) λeP Wz=>?_;have WA:=Wz.aK hm;refine .ay (Ξ:=λ_=>True) ?_ λac _=>?_
 ·refine Tot.upto (λs=>s.2) st.Kernel.length (λ_ _=>True) rfl (by omega) trivial λz s aX he _=>?_;obtain ⟨b,i⟩:=s;simp only at he ⊢;subst he;rw [eh z (by omega)];simp only [Option.bind_some];refine Tot.bm (λqg=>?_) (λ_=>.ao trivial);have qg:z<st.Kernel.length:=by omega
  rw [dT qg];simp only [Option.bind_some];refine .ay (Ξ:=λ_=>True) (Tot.bB (λ_=>.ao trivial) (λ_=>Tot.bm (λ_=>Tot.bm (λ_=>.ao trivial) (λ_=>.ao trivial)) (λ_=>.ao trivial))) λ_ _=>.ao ⟨qg,rfl,trivial⟩
 refine .ay (Ξ:=λP:List Int=>e3 hR P/\∀ p∈P,qU g p) ?_ λP b_=>?_
 ·refine Tot.upto (λs=>s.2) qu.length (λ_ s=>e3 hR s.1/\∀ p∈s.1,qU g p) rfl (by omega) ⟨.nil,λp h=>by cases h⟩ λz s aX he bb=>?_;obtain ⟨P,i⟩:=s;obtain ⟨g1,g2⟩:=bb;simp only at he g1 g2 ⊢;subst he;rw [eh z (by omega)];refine Tot.bm (λqg=>?_) (λdG=>.ao ⟨g1,g2⟩);have qg:z<qu.length:=by omega
  have hr:=hk _ (List.getElem_mem qg);rw [dT qg];generalize qu[z]=l at *;have WH:=hr.t.len;have UY:=jj.len (T:=g.bj.length) ⟨g1,λx J=>⟨by have:=(g2 x J).1; omega,(g2 x J).2⟩⟩;simp only [Option.bind_some];refine .ay (Ξ:=λP:List Int=>e3 hR P/\∀ p∈P,qU g p) ?_ λr aj=>.ao ⟨qg,rfl,aj⟩;refine .ay (Ξ:=λ_=>True) (Tot.bm (λ_=>.ay (Mw l.ba j (by omega)) λ_ _=>.ao trivial) (λ_=>.ao trivial)) λc _=>?_;refine .ay (Ξ:=λP:List Int=>e3 hR P/\∀ p∈P,qU g p) (Tot.bB (λ_=>?_) (λ_=>.ao ⟨g1,g2⟩)) λr aj=>.ao aj;refine .ay (Be P l.Prod g1 (by omega)) λr aj=>.ao ⟨aj.1,λp ar=>?_⟩;rcases (aj.2.2 p).1 ar with h | rfl
  ·exact g2 p h
  ·exact hr.p
 ·have UY:=jj.len (T:=g.bj.length) ⟨b_.1,λx J=>⟨by have:=(b_.2 x J).1; omega,(b_.2 x J).2⟩⟩;rw [MS _ (by show P.length<=_; omega)];refine Tot.aV (.ay (Ξ:=λL:List Cell=>L.length<=40 * k+(j+1)/\(∀ c∈L,o1 g m.length c)/\L.Pairwise yD/\∀ c∈L,c.State<k\/(c.State=k/\c.bT<(j+1:Nat))) (Tot.bm (λaT=>?_) (λ_=>.ao ⟨by omega,af,aI,λc aa=>by rcases bD c aa with h | h <;> omega⟩)) λr aj=>.ao aj);refine .ay (Ξ:=λ_=>True) (Tot.ap (by simp [lim]; omega) trivial) λ_ _=>.ao ⟨by simp; omega,λc aa=>?_,List.pairwise_append.2 ⟨aI,List.pairwise_singleton ..,λa aR b au=>?_⟩,λc aa=>?_⟩
  ·rcases List.mem_append.1 aa with aa | aa
   ·exact af c aa
   ·rw [List.mem_singleton.1 aa];exact ⟨⟨by show (0:Int)<=k; omega,by show (k:Int)<_; omega⟩,⟨by show (0:Int)<=j; omega,by show (j:Int)<_; omega⟩,WA,b_.1,b_.2,by omega⟩
  ·rw [List.mem_singleton.1 au];rcases bD a aR with h | h
   ·exact .inl h
   ·exact .inr h
  ·rcases List.mem_append.1 aa with aa | aa
   ·rcases bD c aa with h | h
    ·exact .inl h
    ·exact .inr ⟨h.1,by omega⟩
   ·rw [List.mem_singleton.1 aa];exact .inr ⟨rfl,by show (j:Int)<_; omega⟩
open Go Go.Own
theorem iH.XN {m:fJ}{T L:Nat}(h:iH m T L):k7 m (3+T) m.cb.length 0 0 :=
 ⟨h.gC,h.lo,h.hi,by have:=h.ty; omega,rfl,by rw [h.hs]; decide,by rw [h.hl]; exact Nat.le_refl 0,by rw [h.hl]; exact λp ar=>absurd ar (by simp),h.lvl,h.jq⟩
theorem t77 (s:Source) (au:qV s):Tot (we s) λr=>r.2.1=0->hb r.1:=by
 unfold we;refine .ay (t103 s au) λc aa=>Tot.bB (λ_=>.ao λh=>absurd h (by decide)) (λih=>?_);have ok:LN s:=aa (by simpa using ih);refine .ay (Tot.mk (by decide) (rfl:List.replicate (3:Int).toNat false=List.replicate (3:Int).toNat false)) λa7 jP=>?_;have VL:=au.ze;have B8:=au.aH
 -- declarations
 refine Tot.ay (Ξ:=λr=>iH r.1 (1001 * 1000) 0) ?_ λbQ cF=>?_
 ·refine Tot.count (λz=>z.2.2) s.Decls.length (λz=>0<=z.2.2/\z.2.2<=s.Decls.length/\iH z.1 (1001 * z.2.2.toNat) 0/\z.1.cq<=z.2.2) ⟨Int.le_refl 0,by show (0:Int)<=_; omega,⟨by show a7.length=3; rw [<- jP]; rfl,Nat.le_refl 3,Nat.le_refl 3,Nat.le_refl 0,Nat.le_refl 0,rfl,rfl,Int.le_refl 0,by show ∀ t∈[_,_,_],0<=bT.Level t; simp⟩,Int.le_refl 0⟩ (by show (s.Decls.length:Int) - 0<_; omega) λz aX=>?_;obtain ⟨m,st,i⟩:=z;obtain ⟨aT,h1,hm,pq⟩:=aX;simp only at aT h1 hm pq ⊢;have hw:aM (i+1)=i+1:=by rw [cK]; omega
  rw [hw];have I2:=hm.lvl;refine Tot.bm (λaQ=>?_) (λ_=>.ao (hm.mono (by omega) (Nat.le_refl _)));refine .ay (Tot.hd (Φ:=λy=>y∈s.Decls) aT aQ λy _ av=>av) λd aS=>?_;have oG:=au.decls d aS;have zq:=oG.n;refine .ay (Ξ:=λ_=>True) (Tot.bB (λ_=>.ao trivial) (λ_=>.ao trivial)) λie _=>.ay (Ξ:=λj=>0<=j/\j<=i+1) (Tot.bB (λ_=>.ao (by rw [cK]; omega)) (λ_=>.ao (by omega))) λjo zj=>?_;refine Tot.ay (Ξ:=λr=>iH r.1 (1001 * i.toNat+1000) 0/\r.1.cq<=i+1) ?_ λeL sF=>.ao ⟨⟨?_,?_,?_,?_⟩,?_,?_⟩
  ·refine Tot.count (λz=>z.2.2) d.eF.length (λz=>0<=z.2.2/\z.2.2<=d.eF.length/\iH z.1 (1001 * i.toNat+z.2.2.toNat) 0/\z.1.cq<=i+1) ⟨Int.le_refl 0,by show (0:Int)<=_; omega,⟨hm.gC,hm.lo,hm.hi,hm.ty,hm.fy,hm.hl,hm.hs,zj.1,hm.jq⟩,zj.2⟩ (by show (d.eF.length:Int) - 0<_; omega) λz aX=>?_;obtain ⟨m,st,k⟩:=z;obtain ⟨g0,g1,hm,pq⟩:=aX;simp only at g0 g1 hm pq ⊢;have r':aM (k+1)=k+1:=by rw [cK]; omega
   rw [r'];refine Tot.bm (λxi=>?_) (λ_=>.ao ⟨hm.mono (by omega) (Nat.le_refl _),pq⟩);have Fe:Tot (idx d.eF k) λy=>y∈d.eF:=Tot.hd g0 xi λy _ av=>av;refine Tot.ay (Ξ:=λj=>iH j.1 (1001 * i.toNat+k.toNat+1) 0/\j.1.cq<=i+1) ?_ λj ag=>.ao ⟨⟨?_,?_,?_,ag.2⟩,?_,?_⟩
   ·refine Tot.bB (λ_=>?_) (λ_=>?_)
    ·refine .ay Fe λx J=>.ay (t104 m d x hm.gC (by have:=hm.hi; omega) (by have:=hm.ty; omega) (ok.decls d aS x J)) λm' aP=>.ao ⟨hm.grow aP,by show m'.cq<=_; rw [aP.lvl]; exact pq⟩
    ·refine Tot.ay (Ξ:=λj=>iH j (1001 * i.toNat+k.toNat+1) 0/\j.cq<=i+1) ?_ λj ag=>.ay Fe λ_ _=>.ao ag;refine Tot.bB (λ_=>?_) (λ_=>.ao ⟨hm.mono (by omega) (Nat.le_refl _),pq⟩);exact .ay Fe λ_ _=>.ay Fe λ_ _=>.ay (t105 m _ _) λm' ij=>.ao ⟨(hm.same ij.1).mono (by omega) (Nat.le_refl _),by rw [ij.1.jq]; exact pq⟩
   ·show 0<=k+1; omega
   ·show k+1<=(d.eF.length:Int); omega
   ·show iH j.1 (1001 * i.toNat+(k+1).toNat) 0;exact ag.1.mono (by omega) (Nat.le_refl _)
   ·show k<k+1; omega
   ·show k+1<=(d.eF.length:Int); omega
  ·show 0<=i+1; omega
  ·show i+1<=(s.Decls.length:Int); omega
  ·show iH eL.1 (1001 * (i+1).toNat) 0;exact sF.1.mono (by omega) (Nat.le_refl _)
  ·exact sF.2
  ·show i<i+1; omega
  ·show i+1<=(s.Decls.length:Int); omega
 -- what stands on the left
 refine Tot.ay (Ξ:=λr=>iH r (1001 * 1000) 1000) ?_ λc3 H7=>?_
 ·refine Tot.count (λz=>z.2) s.dz.length (λz=>0<=z.2/\z.2<=s.dz.length/\iH z.1 (1001 * 1000) z.2.toNat) ⟨Int.le_refl 0,by show (0:Int)<=_; omega,cF⟩ (by show (s.dz.length:Int) - 0<_; omega) λz aX=>?_;obtain ⟨m,i⟩:=z;obtain ⟨aT,h1,hm⟩:=aX;simp only at aT h1 hm ⊢;have hw:aM (i+1)=i+1:=by rw [cK]; omega
  rw [hw];refine Tot.bm (λaQ=>?_) (λ_=>.ao (hm.mono (Nat.le_refl _) (by omega)));have vr:=hm.hi;have vv:=hm.fy;refine Tot.ay (Ξ:=λj=>iH j (1001 * 1000) (i.toNat+1)) ?_ λj ag=>.ao ⟨⟨?_,?_,?_⟩,?_,?_⟩
  ·refine .ay (Tot.hd (Φ:=λ_=>True) aT aQ λy _ av=>trivial) λr aj=>.ay (t106 m _ (by simp only [dJ]; omega)) λt _=>?_;refine Tot.ay (Ξ:=λj=>iH j (1001 * 1000) i.toNat) ?_ λiO pd=>?_
   ·exact Tot.bB (λ_=>.ay (t105 m _ _) λm' ij=>.ao (hm.same ij.1)) (λ_=>.ao hm)
   ·have ac4:=pd.fy;refine .ay (t107 iO _ (by simp only [dJ]; omega)) λk _=>?_;refine Tot.ay (Ξ:=λl=>l.length<=i.toNat+1) ?_ λl ai=>.ao ⟨pd.gC,pd.lo,pd.hi,pd.ty,ai,pd.hl,pd.hs,pd.lvl,pd.jq⟩;refine Tot.bB (λ_=>?_) (λ_=>.ao (by omega));exact .ay (Ξ:=λ_=>True) (Tot.ap (by simp [lim]; omega) trivial) λ_ _=>.ao (by simp; omega)
  ·show 0<=i+1; omega
  ·show i+1<=(s.dz.length:Int); omega
  ·show iH j (1001 * 1000) (i+1).toNat;exact ag.mono (Nat.le_refl _) (by omega)
  ·show i<i+1; omega
  ·show i+1<=(s.dz.length:Int); omega
 -- types and starts
 refine Tot.ay (Ξ:=λr=>iH r (1001 * 1000) 1000) ?_ λha tM=>?_
 ·refine Tot.count (λz=>z.2) s.Decls.length (λz=>0<=z.2/\z.2<=s.Decls.length/\iH z.1 (1001 * 1000) 1000) ⟨Int.le_refl 0,by show (0:Int)<=_; omega,H7⟩ (by show (s.Decls.length:Int) - 0<_; omega) λz aX=>?_;obtain ⟨m,i⟩:=z;obtain ⟨aT,h1,hm⟩:=aX;simp only at aT h1 hm ⊢;have hw:aM (i+1)=i+1:=by rw [cK]; omega
  rw [hw];refine Tot.bm (λaQ=>?_) (λ_=>.ao hm);refine Tot.ay (Ξ:=λr=>iH r (1001 * 1000) 1000) ?_ λom Um=>.ao ⟨⟨?_,?_,Um⟩,?_,?_⟩
  ·have mV:i.toNat<s.Decls.length:=by omega
   have hi:idx s.Decls i=some s.Decls[i.toNat]:=by simp [idx,aT,mV]
   rw [hi];generalize aS:s.Decls[i.toNat]=d;have jO:d∈s.Decls:=by rw [<- aS]; exact List.getElem_mem mV
   have zq:=(au.decls d jO).n;refine Tot.count (λz=>z.2) d.eF.length (λz=>0<=z.2/\z.2<=d.eF.length/\iH z.1 (1001 * 1000) 1000) ⟨Int.le_refl 0,by show (0:Int)<=_; omega,hm⟩ (by show (d.eF.length:Int) - 0<_; omega) λz aX=>?_;obtain ⟨m,k⟩:=z;obtain ⟨g0,g1,hm⟩:=aX;simp only at g0 g1 hm ⊢;have r':aM (k+1)=k+1:=by rw [cK]; omega
   rw [r'];refine Tot.aV (Tot.bm (λxi=>?_) (λ_=>.ao hm));have vv:=hm.fy;refine Tot.ay (Ξ:=λj=>iH j (1001 * 1000) 1000) ?_ λj ag=>.ao ⟨⟨?_,?_,ag⟩,?_,?_⟩
   ·refine Tot.aV (.ay (Tot.hd (Φ:=λ_=>True) g0 xi λ_ _ _=>trivial) λx _=>?_);refine .ay (Ξ:=λ_=>True) (Tot.aV (Tot.bB (λ_=>.ay (t107 m _ (by simp only [dJ]; omega)) λ_ _=>.ao trivial) (λ_=>.ao trivial))) λc _=>?_;refine Tot.ay (Ξ:=λj=>iH j (1001 * 1000) 1000) ?_ λj ag=>.ao ag;exact Tot.bB (λ_=>.ay (t105 m _ _) λm' ij=>.ao (hm.same ij.1)) (λ_=>.ao hm)
   ·show 0<=k+1; omega
   ·show k+1<=(d.eF.length:Int); omega
   ·show k<k+1; omega
   ·show k+1<=(d.eF.length:Int); omega
  ·show 0<=i+1; omega
  ·show i+1<=(s.Decls.length:Int); omega
  ·show i<i+1; omega
  ·show i+1<=(s.Decls.length:Int); omega
 -- the start
 have sR:=ok.pos;refine Tot.ay (Ξ:=λ_=>True) (Tot.bB (λ_=>.ay (Ξ:=λ_=>True) (Tot.hd (by decide) (by omega) λ_ _ _=>trivial) λ_ _=>.ao trivial) (λ_=>.ao trivial)) λxI _=>?_;have ac6:=tM.fy;refine .ay (t107 ha xI (by simp only [dJ]; omega)) λmF q4=>?_;have Ut:-1<=mF/\mF<ha.cb.length:=by rcases q4 with h | h <;> omega
 -- the alternatives
 have hr:ha.cb.length<=1000:=tM.fy;generalize UQ:ha.cb.length=L at hr Ut;refine Tot.ay (Ξ:=λr=>k7 r (3+1001 * 1000+1001 * 1000000) L (1001 * 1000000) (1+1001 * 1000000)/\1<=r.aG.bj.length) ?_ λbt Uu=>?_
 ·have uf:=tM.XN;rw [UQ] at uf;refine Tot.count (λz=>z.2) s.dz.length (λz=>0<=z.2/\z.2<=s.dz.length/\k7 z.1 (3+1001 * 1000+1001 * (1000 * z.2.toNat)) L (1001 * (1000 * z.2.toNat)) (1+1001 * (1000 * z.2.toNat))/\1<=z.1.aG.bj.length) ⟨Int.le_refl 0,by show (0:Int)<=_; omega,⟨uf.gC,uf.lo,uf.hi,uf.ty,uf.fy,uf.hs,Nat.le_refl 1,λp ar=>?_,uf.lvl,uf.jq⟩,Nat.le_refl 1⟩ (by show (s.dz.length:Int) - 0<_; omega) λz aX=>?_
  ·rw [List.mem_singleton.1 ar];have acS:=tM.hs;have lJ:=tM.lo;refine ⟨⟨Int.le_refl 0,by show (0:Int)<=L+ha.b8; omega⟩,λy av=>?_,⟨by show (-1:Int)<=-1; omega,by show (-1:Int)<_; omega⟩⟩;have av:y∈[aM (1001+mF)]:=av;rw [List.mem_singleton.1 av];have:aM (1001+mF)=1001+mF:=by rw [cK]; omega
   rw [this];exact .inr (by show 1000<=1001+mF/\1001+mF<=1000+((L:Int)+ha.b8); omega)
  ·obtain ⟨m,i⟩:=z;obtain ⟨aT,h1,hm,vz⟩:=aX;simp only at aT h1 hm vz ⊢;have hw:aM (i+1)=i+1:=by rw [cK]; omega
   rw [hw];refine Tot.bm (λaQ=>?_) (λ_=>.ao ⟨hm.mono (by omega) (by omega) (by omega),vz⟩);refine Tot.ay (Ξ:=λr=>k7 r (3+1001 * 1000+1001 * (1000 * (i.toNat+1))) L (1001 * (1000 * (i.toNat+1))) (1+1001 * (1000 * (i.toNat+1)))/\1<=r.aG.bj.length) ?_ λkE Ew=>.ao ⟨⟨?_,?_,?_,Ew.2⟩,?_,?_⟩
   ·have mV:i.toNat<s.dz.length:=by omega
    have hi:idx s.dz i=some s.dz[i.toNat]:=by simp [idx,aT,mV]
    rw [hi];generalize aS:s.dz[i.toNat]=d;have jO:d∈s.dz:=by rw [<- aS]; exact List.getElem_mem mV
    have zq:=(au.rules d jO).n;refine Tot.count (λz=>z.2) d.eC.length (λz=>0<=z.2/\z.2<=d.eC.length/\k7 z.1 (3+1001 * 1000+1001 * (1000 * i.toNat+z.2.toNat)) L (1001 * (1000 * i.toNat+z.2.toNat)) (1+1001 * (1000 * i.toNat+z.2.toNat))/\1<=z.1.aG.bj.length) ⟨Int.le_refl 0,by show (0:Int)<=_; omega,hm,vz⟩ (by show (d.eC.length:Int) - 0<_; omega) λz aX=>?_;obtain ⟨m,k⟩:=z;obtain ⟨g0,g1,hm,vz⟩:=aX;simp only at g0 g1 hm vz ⊢;have r':aM (k+1)=k+1:=by rw [cK]; omega
    rw [r'];refine Tot.aV (Tot.bm (λxi=>?_) (λ_=>.ao ⟨hm.mono (by omega) (by omega) (by omega),vz⟩));refine Tot.aV (Tot.aV (.ay (Tot.hd (Φ:=λy=>y∈d.eC) g0 xi λ_ _ h=>h) λa aR=>?_));refine .ay (t108 m d.Left a hm (by omega) (by omega) (by omega) (by omega) ((au.rules d jO).alts a aR) (ok.rules d jO a aR)) λm' ij=>.ao ⟨⟨?_,?_,?_,ij.2⟩,?_,?_⟩
    ·show 0<=k+1; omega
    ·show k+1<=(d.eC.length:Int); omega
    ·show k7 m' (3+1001 * 1000+1001 * (1000 * i.toNat+(k+1).toNat)) L (1001 * (1000 * i.toNat+(k+1).toNat)) (1+1001 * (1000 * i.toNat+(k+1).toNat));exact ij.1.mono (by omega) (by omega) (by omega)
    ·show k<k+1; omega
    ·show k+1<=(d.eC.length:Int); omega
   ·show 0<=i+1; omega
   ·show i+1<=(s.dz.length:Int); omega
   ·show k7 kE (3+1001 * 1000+1001 * (1000 * (i+1).toNat)) L (1001 * (1000 * (i+1).toNat)) (1+1001 * (1000 * (i+1).toNat));exact Ew.1.mono (by omega) (by omega) (by omega)
   ·show i<i+1; omega
   ·show i+1<=(s.dz.length:Int); omega
 obtain ⟨pe,Uv⟩:=Uu;refine Tot.oD (λh=>.ao λaL=>absurd aL h) (λhe=>?_);have acq:=pe.fy;have aco:=pe.hi;have acs:=pe.ty;have acp:=pe.hs;have acr:=pe.Au
 -- nonterminals
 refine Tot.ay (Ξ:=λl=>l.length=1+L) ?_ λuV H_=>?_
 ·refine Tot.count (λz=>z.2) bt.cb.length (λz=>0<=z.2/\z.2<=bt.cb.length/\z.1.length=1+z.2.toNat) ⟨Int.le_refl 0,by show (0:Int)<=_; omega,rfl⟩ (by show (bt.cb.length:Int) - 0<_; omega) λz aX=>?_;obtain ⟨l,i⟩:=z;obtain ⟨aT,h1,ai⟩:=aX;simp only at aT h1 ai ⊢;have hw:aM (i+1)=i+1:=by rw [cK]; omega
  rw [hw];refine Tot.bm (λaQ=>?_) (λ_=>.ao (by show l.length=1+L; omega));refine .ay (Tot.hd (Φ:=λ_=>True) aT aQ λ_ _ _=>trivial) λqJ _=>.ay (t109 _ _ (by show bt.cJ.length<=_; simp only [dJ]; omega)) λyv Uw=>?_;have acv:yv=-1\/(0<=yv/\yv<bt.cJ.length):=Uw;refine .ay (Ξ:=λ_=>True) (Tot.bm (λh=>.ay (Ξ:=λ_=>True) (Tot.hd h (by omega) λ_ _ _=>trivial) λ_ _=>.ao trivial) (λ_=>.ao trivial)) λuw _=>?_;refine .ay (Ξ:=λ_=>True) (Tot.ap (by simp [lim]; omega) trivial) λ_ _=>.ao ⟨⟨?_,?_,?_⟩,?_,?_⟩
  ·show 0<=i+1; omega
  ·show i+1<=(bt.cb.length:Int); omega
  ·show (l++[_]).length=1+(i+1).toNat;simp; omega
  ·show i<i+1; omega
  ·show i+1<=(bt.cb.length:Int); omega
 refine Tot.ay (Ξ:=λl=>(l.length:Int)=1+L+bt.b8) ?_ λk3 Ns=>?_
 ·refine Tot.count (λz=>z.2) (bt.b8+1) (λz=>1<=z.2/\z.2<=bt.b8+1/\(z.1.length:Int)=1+L+(z.2 - 1)) ⟨Int.le_refl 1,by show (1:Int)<=_; omega,by show (uV.length:Int)=1+L+(1 - 1); omega⟩ (by show bt.b8+1 - 1<_; omega) λz aX=>?_;obtain ⟨l,i⟩:=z;obtain ⟨aT,h1,ai⟩:=aX;simp only at aT h1 ai ⊢;have hw:aM (i+1)=i+1:=by rw [cK]; omega
  rw [hw];refine Tot.bm (λaQ=>?_) (λ_=>.ao (by show (l.length:Int)=1+L+bt.b8; omega));refine .ay (t110 i (by omega) (by omega)) λGK acw=>.ay (Ξ:=λ_=>True) (Tot.cat (by show 1+GK.size<=_; omega) trivial) λwz _=>?_;refine .ay (Ξ:=λ_=>True) (Tot.ap (by simp [lim]; omega) trivial) λ_ _=>.ao ⟨⟨?_,?_,?_⟩,?_,?_⟩
  ·show 1<=i+1; omega
  ·show i+1<=bt.b8+1; omega
  ·show ((l++[_]).length:Int)=1+L+(i+1 - 1);simp; omega
  ·show i<i+1; omega
  ·show i+1<=bt.b8+1; omega
 -- numbers
 have r3:=pe.gC;refine Tot.ay (Ξ:=λl=>l.length=bt.aG.ba.length/\∀ t∈l,0<=t.Level) ?_ λl_ Ux=>?_
 ·refine Tot.count (λz=>z.2.2) bt.aG.ba.length (λz=>3<=z.2.2/\z.2.2<=bt.aG.ba.length/\z.1.length=bt.aG.ba.length/\∀ t∈z.1,0<=t.Level) ⟨Int.le_refl 3,by have:=pe.lo; show (3:Int)<=_; omega,rfl,pe.jq⟩ (by show (bt.aG.ba.length:Int) - 3<_; omega) λz aX=>?_;obtain ⟨l,n,i⟩:=z;obtain ⟨aT,h1,ai,hv⟩:=aX;simp only at aT h1 ai hv ⊢;have hw:aM (i+1)=i+1:=by rw [cK]; omega
  rw [hw];refine Tot.bm (λaQ=>?_) (λ_=>.ao ⟨ai,hv⟩);refine Tot.ay (Ξ:=λj=>j.1.length=bt.aG.ba.length/\∀ t∈j.1,0<=t.Level) ?_ λj ag=>.ao ⟨⟨?_,?_,ag⟩,?_,?_⟩
  ·refine .ay (Tot.hd (Φ:=λ_=>True) (by omega) (by rw [r3]; omega) λ_ _ _=>trivial) λ_ _=>?_;refine Tot.ay (Ξ:=λj=>j.1.length=bt.aG.ba.length/\∀ t∈j.1,0<=t.Level) ?_ λj ag=>.ao ag;refine Tot.bB (λ_=>?_) (λ_=>.ao ⟨ai,hv⟩);refine .ay (Tot.hd (Φ:=λy=>y∈l) (by omega) aQ λ_ _ h=>h) λy av=>.ao ⟨by show (l.set _ _).length=_; simp [ai],λt aw=>?_⟩;rcases Pa aw with aw | rfl
   ·exact hv t aw
   ·exact (hv y av:0<=y.Level)
  ·show 3<=i+1; omega
  ·show i+1<=(bt.aG.ba.length:Int); omega
  ·show i<i+1; omega
  ·show i+1<=(bt.aG.ba.length:Int); omega
 -- limits
 obtain ⟨Nt,Uy⟩:=Ux;refine Tot.ay (Ξ:=λc=>c=false->l_.length<=40/\k3.length<=24/\bt.aG.bj.length<=60) ?_ λBc H3=>?_
 ·refine Tot.bm (λ_=>.ao λh=>by cases h) (λh1=>Tot.bm (λ_=>.ao λh=>by cases h) (λaf=>.ao λh=>?_));have aI:=of_decide_eq_false h;omega
 refine Tot.ay (Ξ:=λc=>c=false->Bc=false/\∀ p∈bt.aG.bj,p.ef.length<=8) ?_ λAM H4=>?_
 ·refine Tot.count (λz=>z.2) bt.aG.bj.length (λz=>0<=z.2/\z.2<=bt.aG.bj.length/\(z.1=false->Bc=false/\∀ (j:Nat) (p:Prod),(j:Int)<z.2->bt.aG.bj[j]?=some p->p.ef.length<=8)) ⟨Int.le_refl 0,by show (0:Int)<=_; omega,λh=>⟨h,λj p ag=>by have ag:(j:Int)<0:=ag; omega⟩⟩ (by show (bt.aG.bj.length:Int) - 0<_; omega) λz aX=>?_;obtain ⟨c,i⟩:=z;obtain ⟨aT,h1,ai⟩:=aX;simp only at aT h1 ai ⊢;have hw:aM (i+1)=i+1:=by rw [cK]; omega
  rw [hw];refine Tot.bm (λaQ=>?_) (λdG=>.ao λh=>⟨(ai h).1,λp ar=>?_⟩)
  ·refine Tot.ay (Ξ:=λfj=>fj=false->c=false/\∀ p,bt.aG.bj[i.toNat]?=some p->p.ef.length<=8) ?_ λfj fp=>.ao ⟨⟨?_,?_,λh=>?_⟩,?_,?_⟩
   ·refine Tot.bB (λ_=>.ao λh=>by cases h) (λVD=>.ay (Tot.hd (Φ:=λy=>idx bt.aG.bj i=some y) aT aQ λ_ h _=>h) λy av=>.ao λh=>⟨VD,λp ar=>?_⟩);have af:=(pD av).2.2;rw [ar] at af; cases af;have:=of_decide_eq_false h;omega
   ·show 0<=i+1; omega
   ·show i+1<=(bt.aG.bj.length:Int); omega
   ·obtain ⟨aF,a2⟩:=fp h;obtain ⟨gP,h3⟩:=ai aF;refine ⟨gP,λj p ag ar=>?_⟩;have ag:(j:Int)<i+1:=ag;by_cases V0:(j:Int)<i
    ·exact h3 j p V0 ar
    ·have:j=i.toNat:=by omega
     subst this;exact a2 p ar
   ·show i<i+1; omega
   ·show i+1<=(bt.aG.bj.length:Int); omega
  ·obtain ⟨j,ag,rfl⟩:=List.mem_iff_getElem.1 ar;exact (ai h).2 j _ (by omega) (List.getElem?_eq_getElem ag)
 refine Tot.bB (λ_=>.ao λh=>absurd h (by decide)) (λaa=>.ao λ_=>?_);obtain ⟨aF,a2⟩:=H4 aa;obtain ⟨gP,h3,kL⟩:=H3 aF;have lJ:=pe.lo;refine ⟨⟨?_,gP⟩,⟨?_,h3⟩,⟨Uv,kL⟩,λp ar=>?_,a2,Uy⟩
 ·show 3<=l_.length; omega
 ·show 1<=k3.length; omega
 ·have:=pe.hl p ar;exact this.mono (by show _<=l_.length; omega) (by show (L:Int)+bt.b8<=((k3.length:Nat):Int) - 1; omega)
theorem t62 (s:Source) (au:qV s):Tot (x7 s) λr=>r.2=true->hb r.1:=by
 unfold x7;exact .ay (t77 s au) λr aj=>.ao λh=>aj (of_decide_eq_true h)
theorem SJ (s:Source) (au:qV s):Tot (x5 s) λr=>r.2.2=true->hb r.1/\mH r.1 r.2.1:=by
 unfold x5;refine .ay (t62 s au) λr aj=>Tot.bB (λ_=>.ao λh=>by cases h) (λh=>?_);have aP:=aj (by simpa using h);refine .ay (SP r.1 aP) λm hm=>.ao λh=>⟨aP,?_⟩;have h:m.2=0:=of_decide_eq_true h;rcases hm with hm | hm
 ·exact hm.2
 ·omega
structure GQ (g:bO) (m:List State) (cs:List Cell):Prop where
 rU:hb g
 adr:mH g m
 ce:AT g m.length cs
theorem p9 (s:Source) (au:qV s):Tot (v8 s) λr=>r.2.2.2=true->GQ r.1 r.2.1 r.2.2.1:=by
 unfold v8;refine .ay (SJ s au) λr aj=>Tot.bB (λ_=>.ao λh=>by cases h) (λh=>?_);obtain ⟨aP,hm⟩:=aj (by simpa using h);exact .ay (SK r.1 aP hm) λqu Oh=>.ay (Bd r.1 aP hm qu Oh.1 Oh.2) λcs hC=>.ao λ_=>⟨aP,hm,hC⟩
def zM (g:bO) (p:Int):Int × Int:=match idx g.bj p with
 | some q=>match idx g.ba q.Prec with
  | some t=>(t.Level,t.fv)
  | none=>(0,0)
 | none=>(0,0)
def dec (g:bO) (p t:Int):Int:=match idx g.ba t with
 | some k=>if (zM g p).1=0\/k.Level=0 then 0 else if (zM g p).1<k.Level then 1 else if k.Level<(zM g p).1 then 2 else if k.fv=1 then 2 else if k.fv=2 then 1 else 3
 | none=>0
theorem TN (g:bO) (aP:hb g) (p:Int) (ar:0<=p/\p<g.bj.length):Dk g p=some (zM g p):=by
 obtain ⟨q,bg,hm⟩:=nH ar.1 ar.2;have au:=(aP.hl q hm).prec;unfold Dk zM;have d1:decide (p<0)=false:=decide_eq_false (by omega);have d2:decide ((g.bj.length:Int)<=p)=false:=decide_eq_false (by omega);rw [d1,d2,bg];simp only [cond_false,Option.bind_some];by_cases h:q.Prec<0
 ·rw [decide_eq_true h,JN (.inl h)]; rfl
 ·obtain ⟨t,aw,_⟩:=nH (l:=g.ba) (i:=q.Prec) (by omega) au.2;rw [decide_eq_false h,aw]; rfl
theorem TM (g:bO) (aP:hb g) (p t:Int) (ar:0<=p/\p<g.bj.length) (aw:0<=t/\t<g.ba.length):Db g p t=some (dec g p t):=by
 obtain ⟨k,hk,hm⟩:=nH aw.1 aw.2;unfold Db dec;rw [TN g aP p ar,hk];have d1:decide (t<0)=false:=decide_eq_false (by omega);have d2:decide ((g.ba.length:Int)<=t)=false:=decide_eq_false (by omega);rw [d1,d2];generalize zM g p=x;simp only [cond_false,Option.bind_some];by_cases h1:x.1=0
 ·simp [h1]
 ·by_cases af:k.Level=0
  ·simp [h1,af]
  ·rw [if_neg (by omega)];simp only [h1,af,decide_false,cond_false,Option.bind_some];by_cases aI:x.1<k.Level
   ·simp [aI]
   ·by_cases bD:k.Level<x.1
    ·simp [aI,bD]
    ·by_cases cF:k.fv=1
     ·simp [aI,bD,cF]
     ·by_cases dS:k.fv=2 <;> simp [aI,bD,cF,dS]
def sw (g:bO) (c:Cell):Act:=match c.bj with
 | []=>if c.lT=true then ⟨3,0⟩ else ⟨1,c.j1⟩
 | p::_=>if c.lT=true then ⟨3,0⟩ else if c.j1<0 then ⟨2,p⟩ else if dec g p c.bT=2 then ⟨2,p⟩ else if dec g p c.bT=3 then ⟨4,0⟩ else ⟨1,c.j1⟩
def zb (g:bO) (c:Cell):List fg:=match c.bj with
 | []=>[]
 | p::r=>r.map (λx=>(⟨c.State,c.bT,p,x⟩:fg))++(if c.lT=true\/(0<=c.j1/\dec g p c.bT=0) then [(⟨c.State,c.bT,-1,p⟩:fg)] else [])
structure ss (g:bO) (n:Nat) (a:Act):Prop where
 k:0<=a.Kind/\a.Kind<=4
 gG:a.Kind=0->a.N=0
 nL:a.Kind=1->0<=a.N/\a.N<n
 rf:a.Kind=2->qU g a.N
 XS:a.Kind=3->a.N=0
 ads:a.Kind=4->a.N=0
theorem RW {g:bO}{n:Nat}{c:Cell}(h:o1 g n c):ss g n (sw g c)/\(sw g c).Kind≠0:=by
 have Cb:=h.ZB;have aW:=h.f;have a3:ss g n ⟨3,0⟩:=⟨⟨by decide,by decide⟩,λh=>(by cases h),λh=>(by cases h),λh=>(by cases h),λ_=>rfl,λh=>by cases h⟩;have a4:ss g n ⟨4,0⟩:=⟨⟨by decide,by decide⟩,λh=>(by cases h),λh=>(by cases h),λh=>(by cases h),λ_=>rfl,λ_=>rfl⟩;have aF:0<=c.j1->ss g n ⟨1,c.j1⟩:=λaT=>⟨⟨by show (0:Int)<=1; decide,by show (1:Int)<=4; decide⟩,λh=>(by cases h),λ_=>⟨aT,aW.2⟩,λh=>(by cases h),λh=>(by cases h),λh=>by cases h⟩;have a2:∀ p∈c.bj,ss g n ⟨2,p⟩:=λp ar=>⟨⟨by show (0:Int)<=2; decide,by show (2:Int)<=4; decide⟩,λh=>(by cases h),λh=>(by cases h),λ_=>h.q p ar,λh=>(by cases h),λh=>by cases h⟩;unfold sw;unfold oh at Cb;cases b_:c.bj with
 | nil =>
  simp only;rw [b_] at Cb;by_cases h1:c.lT=true
  ·rw [if_pos h1]; exact ⟨a3,by decide⟩
  ·rw [if_neg h1];rw [if_neg h1] at Cb;refine ⟨aF ?_,by show (1:Int)≠0; decide⟩;by_cases af:0<=c.j1
   ·exact af
   ·rw [if_neg af] at Cb; simp at Cb
 | cons p r =>
  simp only;have ar:=a2 p (by rw [b_]; simp);split
  ·exact ⟨a3,by decide⟩
  ·split
   ·exact ⟨ar,by show (2:Int)≠0; decide⟩
   ·split
    ·exact ⟨ar,by show (2:Int)≠0; decide⟩
    ·split
     ·exact ⟨a4,by decide⟩
     ·exact ⟨aF (by omega),by show (1:Int)≠0; decide⟩
theorem MD {g:bO}(aP:hb g) {n:Nat}{c:Cell}(h:o1 g n c):(zb g c).length<=60:=by
 have ai:=h.len aP;unfold zb;cases b_:c.bj with
 | nil=>simp
 | cons p r =>
  rw [b_,List.length_cons] at ai;simp only [List.length_append,List.length_map];split
  ·simp; omega
  ·simp; omega
theorem w3 (g:bO) (aP:hb g) {n:Nat}(c:Cell) (h:o1 g n c):x6 g c=some (sw g c,zb g c):=by
 have ai:=h.len aP
 suffices aA:Tot (x6 g c) λr=>r=(sw g c,zb g c) by
  obtain ⟨r,aj,e⟩:=aA; rw [aj,e]
 unfold x6 sw zb;cases b_:c.bj with
 | nil =>
  simp only;refine .ay (Ξ:=λl:List fg=>l=[]) ?_ λl ai=>?_
  ·refine Tot.loop (λs=>s=(([]:List fg),(1:Int))) (λ_=>0) rfl (by show 0<1000000000000000000; omega) λs aA=>?_;subst aA;exact .ao rfl
  ·subst ai;cases h1:c.lT
   ·exact .ao (by simp)
   ·exact .ao (by simp)
 | cons p r =>
  rw [b_,List.length_cons] at ai;simp only;have hq:idx (p::r) 0=some p:=rfl;refine .ay (Ξ:=λl:List fg=>l=r.map (λx=>(⟨c.State,c.bT,p,x⟩:fg))) ?_ λl ai=>?_
  ·refine Tot.count (λs=>s.2) ((r.length:Int)+1) (λs=>∃ k:Nat,k<=r.length/\s.2=((k+1:Nat):Int)/\s.1=(r.take k).map (λx=>(⟨c.State,c.bT,p,x⟩:fg))) ⟨0,Nat.zero_le _,rfl,rfl⟩ (by show (r.length:Int)+1 - 1<_; omega) λs aA=>?_;obtain ⟨l,i⟩:=s;obtain ⟨k,hk,he,bb⟩:=aA;simp only at he bb ⊢;subst he bb;rw [eh (k+1) (by omega),hq];refine Tot.bm (λaQ=>?_) (λdG=>.ao ?_)
   ·rw [List.length_cons] at aQ;have aQ:k<r.length:=by omega
    have cu:idx (p::r) ((k+1:Nat):Int)=some r[k]:=by
     simp only [idx,if_pos (show (0:Int)<=((k+1:Nat):Int) by omega),Int.toNat_natCast,List.getElem?_cons_succ];exact List.getElem?_eq_getElem aQ
    rw [cu];refine Tot.aV (Tot.aV (.ay (Ξ:=λ_=>True) (Tot.ap (by simp [lim]; omega) trivial) λ_ _=>.ao ⟨⟨k+1,by omega,rfl,?_⟩,by show ((k+1:Nat):Int)<((k+1+1:Nat):Int); omega,by show ((k+1+1:Nat):Int)<=(r.length:Int)+1; omega⟩));show _=(r.take (k+1)).map _;rw [kj aQ,List.map_append]; rfl
   ·rw [List.length_cons] at dG;rw [List.take_of_length_le (by omega)]; rfl
  ·subst ai;have ar:=h.q p (by rw [b_]; simp);have HJ:=TM g aP p c.bT ⟨by have:=ar.1; omega,ar.2⟩ h.t;have dl:decide (((p::r).length:Int)=0)=false:=decide_eq_false (by simp; omega);simp only [hq,HJ,dl,cond_false,Option.bind_some];generalize vq:dec g p c.bT=v;refine ⟨_,?_,rfl⟩;have NP:dc (r.map (λx=>(⟨c.State,c.bT,p,x⟩:fg))) [(⟨c.State,c.bT,(-1),p⟩:fg)]=some (r.map (λx=>(⟨c.State,c.bT,p,x⟩:fg))++[⟨c.State,c.bT,(-1),p⟩]):=by
    unfold dc; rw [if_pos (by simp [lim]; omega)]
   cases h1:c.lT
   ·by_cases af:c.j1<0
    ·have aI:¬ (0<=c.j1):=by omega
     simp [af,aI]
    ·have aI:0<=c.j1:=by omega
     by_cases bD:v=0
     ·simp [af,aI,bD,NP]
     ·by_cases cF:v=2
      ·simp [af,aI,cF]
      ·by_cases dS:v=3
       ·simp [af,aI,dS]
       ·simp [af,aI,bD,cF,dS]
   ·simp [NP]
def rowOf (g:bO) (l:List Cell):List Act:=l.foldl (λrow c=>row.set c.bT.toNat (sw g c)) (List.replicate g.ba.length ⟨0,0⟩)
def iB (cs:List Cell) (q:Nat):List Cell:=cs.filter λc=>decide (c.State=(q:Int))
def go (m:List State) (q s:Int):Int:=(rl m q s).getD (-1)
theorem go_eq {g:bO}{m:List State}(hm:mH g m) (q s:Int):rl m q s=some (go m q s)/\GoTo m q s (go m q s):=by
 obtain ⟨r,aj,h⟩:=Ee m q s hm.xQ;unfold go;rw [aj];exact ⟨rfl,h⟩
theorem P0 (g:bO):∀ (l:List Cell),(rowOf g l).length=g.ba.length:=λl=>by
 suffices h:∀ (l:List Cell) (r:List Act),(l.foldl (λrow c=>row.set c.bT.toNat (sw g c)) r).length=r.length by
  unfold rowOf; rw [h]; simp
 intro l
 induction l with
 | nil=>intro r; rfl
 | cons c l aU=>intro r; rw [List.foldl_cons,aU,List.length_set]
theorem YL (g:bO) (l:List Cell) (c:Cell):rowOf g (l++[c])=(rowOf g l).set c.bT.toNat (sw g c):=by
 unfold rowOf; rw [List.foldl_append]; rfl
theorem YI {g:bO}{n:Nat}:∀ {l:List Cell},(∀ c∈l,o1 g n c)->∀ a∈rowOf g l,ss g n a:=by
 intro l h
 suffices aA:∀ (l:List Cell) (r:List Act),(∀ c∈l,o1 g n c)->(∀ a∈r,ss g n a)->∀ a∈l.foldl (λrow c=>row.set c.bT.toNat (sw g c)) r,ss g n a by
  refine aA l _ h λa aR=>?_;rw [List.eq_of_mem_replicate aR];exact ⟨⟨by decide,by decide⟩,λ_=>rfl,λh=>(by cases h),λh=>(by cases h),λh=>(by cases h),λh=>by cases h⟩
 intro l
 induction l with
 | nil=>intro r _ aj; exact aj
 | cons c l aU =>
  intro r ai aj;rw [List.foldl_cons];refine aU _ (λd aS=>ai d (by simp [aS])) λa aR=>?_;rcases List.mem_or_eq_of_mem_set aR with h | h
  ·exact aj a h
  ·rw [h]; exact (RW (ai c (by simp))).1
def w7 (g:bO) (m:List State) (q:Nat):List Int:=(List.range g.ca.length).map λa:Nat=>go m q (1000+(a:Int))
def lY (g:bO) (l:List Cell):List fg:=l.flatMap (zb g)
theorem HD {g:bO}(aP:hb g) {n:Nat}:∀ {l:List Cell},(∀ c∈l,o1 g n c)->(lY g l).length<=60 * l.length
 | [],_=>by simp [lY]
 | c::l,h=>by
  have h1:=MD aP (h c (by simp));have af:=HD aP (l:=l) λd aS=>h d (by simp [aS]);unfold lY at af ⊢;rw [List.flatMap_cons,List.length_append,List.length_cons];omega
theorem QK {α:Type}{l:List α}{k:Nat}(h:k<l.length) (p:α->Bool):(l.take (k+1)).filter p=(l.take k).filter p++(if p l[k] then [l[k]] else []):=by
 rw [kj h,List.filter_append];congr 1;rw [List.filter_cons]
 split <;> simp
structure GU (g:bO) (m:List State) (cs:List Cell) (d:gz):Prop where
 a:d.dI=(List.range m.length).map λq=>rowOf g (iB cs q)
 o:d.ei=(List.range m.length).map λq=>w7 g m q
theorem SH (g:bO) (m:List State) (cs:List Cell) (ek:GQ g m cs):Tot (Ac g m cs) λr=>GU g m cs r.1/\r.2=(List.range m.length).flatMap λq=>lY g (iB cs q):=by
 obtain ⟨aP,hm,aa⟩:=ek;have aw:=aP.kk;have aE:=aP.dx;have xk:=hm.nL;have IH:=aa.n;unfold Ac;refine .ay (Ξ:=λr:List (List Act) × List (List Int) × List fg=>r.1=(List.range m.length).map (λq=>rowOf g (iB cs q))/\r.2.1=(List.range m.length).map (λq=>w7 g m q)/\r.2.2=(List.range m.length).flatMap λq=>lY g (iB cs q)) ?_ λr aj=>.ao ⟨⟨aj.1,aj.2.1⟩,aj.2.2⟩;have sL:∀ q,(lY g (iB cs q)).length<=360000:=λq=>by
  have h1:=HD aP (l:=iB cs q) λc vm=>aa.ok c ((List.mem_filter.1 vm).1);have af:=List.length_filter_le (λc:Cell=>decide (c.State=(q:Int))) cs;unfold iB at h1 ⊢;omega
 have IN:∀ k,((List.range k).flatMap λq=>lY g (iB cs q)).length<=360000 * k:=λk=>by
  induction k with
  | zero=>simp
  | succ k aU =>
   rw [List.range_succ,List.flatMap_append,List.length_append];have:=sL k;simp only [List.flatMap_cons,List.flatMap_nil,List.append_nil];omega
 refine Tot.upto (λs=>s.2.2.2) m.length (λk s=>s.1=(List.range k).map (λq=>rowOf g (iB cs q))/\s.2.1=(List.range k).map (λq=>w7 g m q)/\s.2.2.1=(List.range k).flatMap λq=>lY g (iB cs q)) rfl (by omega) ⟨rfl,rfl,rfl⟩ λk s hk he bb=>?_;obtain ⟨A,G,C,i⟩:=s;obtain ⟨h1,af,aI⟩:=bb;simp only at he h1 af aI ⊢;subst he h1 af aI;rw [eh k (by omega)];refine Tot.bm (λaQ=>?_) (λdG=>.ao ?_)
 ·have aQ:k<m.length:=by omega
  refine .ay (Ξ:=λr=>r=List.replicate g.ba.length (⟨0,0⟩:Act)) (Tot.mk (by simp [lim]; omega) (by simp)) λtq gD=>?_;subst gD;have acN:=IN k;refine .ay (Ξ:=λr:List fg × List Act=>r.1=(List.range k).flatMap (λq=>lY g (iB cs q))++lY g (iB cs k)/\r.2=rowOf g (iB cs k)) ?_ λr aj=>?_
  ·refine Tot.upto (λs=>s.2.2) cs.length (λj s=>s.1=(List.range k).flatMap (λq=>lY g (iB cs q))++lY g (iB (cs.take j) k)/\s.2.1=rowOf g (iB (cs.take j) k)) rfl (by omega) ⟨by simp [iB,lY],by simp [iB,rowOf]⟩ λj s ag he bb=>?_;obtain ⟨C,R,i⟩:=s;obtain ⟨h1,af⟩:=bb;simp only at he h1 af ⊢;subst he h1 af;rw [eh j (by omega)];refine Tot.bm (λeB=>?_) (λdG=>.ao ?_)
   ·have eB:j<cs.length:=by omega
    have xf:=aa.ok _ (List.getElem_mem eB);have sM:=QK eB (λc:Cell=>decide (c.State=(k:Int)));have adf:(lY g (iB (cs.take j) k)).length<=360000:=by
     have h1:=HD aP (l:=iB (cs.take j) k) λc vm=>aa.ok c (List.mem_of_mem_take ((List.mem_filter.1 vm).1));have af:=List.length_filter_le (λc:Cell=>decide (c.State=(k:Int))) (cs.take j);rw [List.length_take] at af;unfold iB at h1 ⊢;omega
    rw [dT eB];generalize cs[j]=c at *;simp only [Option.bind_some];refine .ay (Ξ:=λr:List fg × List Act=>r.1=(List.range k).flatMap (λq=>lY g (iB cs q))++lY g (iB (cs.take (j+1)) k)/\r.2=rowOf g (iB (cs.take (j+1)) k)) ?_ λr aj=>.ao ⟨eB,rfl,aj⟩;refine .ay (Ξ:=λr:List fg × List Act=>r.1=(List.range k).flatMap (λq=>lY g (iB cs q))++lY g (iB (cs.take (j+1)) k)/\r.2=rowOf g (iB (cs.take (j+1)) k)) (Tot.bm (λaA=>?_) (λaA=>.ao ?_)) λr aj=>.ao aj
    ·rw [decide_eq_true aA,if_pos rfl] at sM;rw [w3 g aP c xf];simp only [Option.bind_some];have kR:=P0 g (iB (cs.take j) k);obtain ⟨a0,w_,_⟩:=nH (l:=rowOf g (iB (cs.take j) k)) (i:=c.bT) xf.t.1 (by rw [kR]; exact xf.t.2);rw [w_];have gR:=MD aP xf;refine Tot.aV (.ay (Ξ:=λ_=>True) (Tot.ap (by rw [List.length_append]; simp only [lim]; omega) trivial) λ_ _=>.ao ⟨?_,?_⟩)
     ·show _=_++lY g ((cs.take (j+1)).filter _);rw [sM];unfold lY;rw [List.flatMap_append,List.append_assoc];simp [iB]
     ·show _=rowOf g ((cs.take (j+1)).filter _);rw [sM,YL]; rfl
    ·have:(if (decide (c.State=(k:Int)))=true then [c] else [])=[]:=by simp [aA]
     rw [this,List.append_nil] at sM;unfold iB;rw [sM];exact ⟨rfl,rfl⟩
   ·have e:cs.take j=cs:=List.take_of_length_le (by omega);rw [e];exact ⟨rfl,rfl⟩
  ·obtain ⟨C,R⟩:=r;obtain ⟨h1,af⟩:=aj;simp only at h1 af ⊢;subst h1 af;refine .ay (Ξ:=λr=>r=List.replicate g.ca.length (0:Int)) (Tot.mk (by simp [lim]; omega) (by simp)) λGX UL=>?_;subst UL;refine .ay (Ξ:=λr:List Int=>r=w7 g m k) ?_ λr aj=>?_
   ·refine Tot.upto (λs=>s.2) g.ca.length (λj s=>s.1.length=g.ca.length/\∀ i:Nat,i<j->s.1[i]?=some (go m k (1000+(i:Int)))) rfl (by omega) ⟨by simp,λi hi=>absurd hi (Nat.not_lt_zero _)⟩ λj s ag he bb=>?_;obtain ⟨L,i⟩:=s;obtain ⟨h1,af⟩:=bb;simp only at he h1 af ⊢;subst he;rw [eh j (by omega)];refine Tot.bm (λeB=>?_) (λdG=>.ao ?_)
    ·have eB:j<L.length:=by omega
     have hw:aM (1000+(j:Int))=1000+(j:Int):=by rw [cK]; omega
     rw [hw,(go_eq hm k _).1,dT eB];refine Tot.aV (Tot.aV (.ao ⟨by omega,rfl,?_,λi hi=>?_⟩))
     ·show (L.set _ _).length=_;rw [List.length_set]; exact h1
     ·show (L.set (j:Int).toNat _)[i]?=_;rw [Int.toNat_natCast,Qn eB];by_cases e:i=j
      ·subst e; rw [if_pos rfl]
      ·rw [if_neg e]; exact af i (by omega)
    ·show L=w7 g m k;refine List.ext_getElem? λi=>?_;unfold w7;by_cases hi:i<g.ca.length
     ·rw [af i (by omega),List.getElem?_map,List.getElem?_range hi]; rfl
     ·rw [List.getElem?_eq_none (by omega),List.getElem?_eq_none (by simp; omega)]
   ·subst aj;refine .ay (Ξ:=λ_=>True) (Tot.ap (by simp [lim]; omega) trivial) λ_ _=>.ay (Ξ:=λ_=>True) (Tot.ap (by simp [lim]; omega) trivial) λ_ _=>.ao ⟨aQ,rfl,?_,?_,?_⟩
    ·show _=(List.range (k+1)).map _;rw [List.range_succ,List.map_append]; rfl
    ·show _=(List.range (k+1)).map _;rw [List.range_succ,List.map_append]; rfl
    ·show _=(List.range (k+1)).flatMap _;rw [List.range_succ,List.flatMap_append]; simp
 ·have:k=m.length:=by omega
  subst this;exact ⟨rfl,rfl,rfl⟩
structure pY (g:bO) (n:Nat) (d:gz):Prop where
 gG:0<n/\n<=150
 rU:hb g
 a:d.dI.length=n
 jK:∀ r∈d.dI,r.length=g.ba.length/\∀ a∈r,ss g n a
 o:d.ei.length=n
 xW:∀ r∈d.ei,r.length=g.ca.length/\∀ v∈r,-1<=v/\v<n
theorem GU.aK {g:bO}{m:List State}{cs:List Cell}{d:gz}(h:GU g m cs d) (ek:GQ g m cs):pY g m.length d:=by
 obtain ⟨aP,hm,aa⟩:=ek;refine ⟨⟨hm.gG,hm.nL⟩,aP,by rw [h.a]; simp,λr aj=>?_,by rw [h.o]; simp,λr aj=>?_⟩
 ·rw [h.a] at aj;obtain ⟨q,_,rfl⟩:=List.mem_map.1 aj;exact ⟨P0 g _,YI λc vm=>aa.ok c (List.mem_filter.1 vm).1⟩
 ·rw [h.o] at aj;obtain ⟨q,_,rfl⟩:=List.mem_map.1 aj;refine ⟨by simp [w7],λv hv=>?_⟩;obtain ⟨a,_,rfl⟩:=List.mem_map.1 hv;exact (go_eq hm q _).2.aK hm
theorem Yz {g:bO}(aP:hb g) {n:Nat}{cs:List Cell}(aa:AT g n cs) {f:Cell->Option Int}(aW:∀ c:Cell,c.bj.length<=1000->f c=some (oh c:Int)):Tot (b6 (R:=Int) (λ(s1:Int × Int) =>
(bif decide (s1.2<(cs.length:Int)) then
((idx cs s1.2).bind λbF =>
(f bF).bind λbV =>
((bif decide (1<bV) then
some (aM (s1.1+1))
else
some s1.1)).bind λfe =>
some fe).bind λkT =>
some (.inl (kT,aM (s1.2+1)))
else
some (.inr s1.1))) (0,0)) λr=>r=((cs.filter λc=>decide (1<oh c)).length:Int):=by
 have IH:=aa.n;refine Tot.upto (λs=>s.2) cs.length (λk s=>s.1=(((cs.take k).filter λc=>decide (1<oh c)).length:Int)) rfl (by omega) rfl λk s hk he bb=>?_;obtain ⟨z,i⟩:=s;simp only at he bb ⊢;subst he bb;rw [eh k (by omega)];refine Tot.bm (λaQ=>?_) (λdG=>.ao ?_)
 ·have aQ:k<cs.length:=by omega
  have VF:=aa.ok _ (List.getElem_mem aQ);have sM:=QK aQ (λc:Cell=>decide (1<oh c));have sL:=List.length_filter_le (λc:Cell=>decide (1<oh c)) (cs.take k);rw [List.length_take] at sL;rw [dT aQ];generalize cs[k]=c at *;have gR:=VF.len aP;rw [show (some c).bind=λ(f:Cell->Option Int)=>f c from rfl]
  simp only [aW c (by omega),Option.bind_some];refine .ay (Ξ:=λz:Int=>z=(((cs.take (k+1)).filter λc=>decide (1<oh c)).length:Int)) ?_ λr aj=>.ao ⟨aQ,rfl,aj⟩;rw [sM];refine .ay (Ξ:=λz:Int=>z=(((cs.take k).filter (λc=>decide (1<oh c))++if decide (1<oh c)=true then [c] else []).length:Int)) (Tot.bm (λh=>.ao ?_) (λh=>.ao ?_)) λr aj=>.ao aj
  ·have:1<oh c:=by omega
   rw [eh _ (by omega)];simp [this]
  ·have:¬ 1<oh c:=by omega
   simp [this]
 ·have e:cs.take k=cs:=List.take_of_length_le (by omega);rw [e]; rfl
theorem tE {g:bO}(aP:hb g) {n:Nat}{cs:List Cell}(aa:AT g n cs):Tot (C3 cs) λr=>r=((cs.filter λc=>decide (1<oh c)).length:Int):=by
 unfold C3;exact .ay (Yz aP aa MS) λr aj=>.ao aj
theorem SB (s:Source) (au:qV s):Tot (uB s) λr=>r.2.2.2=true->∃ n,pY r.1 n r.2.1:=by
 unfold uB;refine .ay (p9 s au) λr aj=>Tot.bB (λ_=>.ao λh=>by cases h) (λh=>?_);have ek:=aj (by simpa using h);exact .ay (SH _ _ _ ek) λd aS=>.ay (tE ek.rU ek.ce) λ_ _=>.ao λ_=>⟨_,aS.1.aK ek⟩
theorem TL (a:Act):Ai a=uG a:=by
 grind [Ai,uG]
theorem ZK (a:Act):Tot (uG a) λ_=>True:=by
 unfold uG
 repeat' first | apply Tot.bi | refine Tot.bB (λ_=>?_) (λ_=>?_) | exact Tot.ao trivial | apply Tot.ao
def o6 (l:List Int) (v:Int):Prop:=(l=[]/\v=-1)\/(v∈l/\∀ x∈l,l.count x<l.count v\/(l.count x=l.count v/\v<=x))
theorem o6.uniq {l:List Int}{v w:Int}(h:o6 l v) (aL:o6 l w):v=w:=by
 rcases h with ⟨h1,af⟩ | ⟨h1,af⟩ <;> rcases aL with ⟨aI,bD⟩ | ⟨aI,bD⟩
 ·omega
 ·subst h1; cases aI
 ·subst aI; cases h1
 ·have a:=af w aI;have b:=bD v h1;omega
theorem wZ (l:List Int) (y x:Int):(l++[y]).count x=l.count x+(if y=x then 1 else 0):=by
 rw [List.count_append];by_cases e:y=x
 ·subst e; simp
 ·rw [if_neg e,List.count_eq_zero.2 λhm=>e (List.mem_singleton.1 hm).symm]
theorem Tz {l:List Int}{x:Int}(h:x∈l):0<l.count x:=List.count_pos_iff.2 h
theorem o6.snoc {l:List Int}{b y:Int}(h:o6 l b) (aT:∀ x∈l,0<=x) (av:0<=y):o6 (l++[y]) (if b<0\/(l++[y]).count b<(l++[y]).count y\/((l++[y]).count y=(l++[y]).count b/\y<b) then y else b):=by
 refine .inr ?_;rcases h with ⟨rfl,rfl⟩ | ⟨au,hm⟩
 ·rw [if_pos (.inl (by decide))];refine ⟨by simp,λx J=>?_⟩;rw [List.nil_append,List.mem_singleton] at J;subst J; exact .inr ⟨rfl,Int.le_refl _⟩
 ·have EE:=aT b au;have key:∀ x∈l++[y],x∈l\/x=y:=λx J=>by simpa using J
  have w1:(l++[y]).count y=l.count y+1:=by rw [wZ,if_pos rfl]
  by_cases NS:b=y
  ·subst NS;rw [if_neg (by omega)];refine ⟨by simp,λx J=>?_⟩;rw [w1];by_cases e:x=b
   ·subst e; exact .inr ⟨w1,Int.le_refl _⟩
   ·rw [wZ,if_neg (λh=>e h.symm)];rcases key x J with J | J
    ·have:=hm x J; omega
    ·exact absurd J e
  ·have j6:(l++[y]).count b=l.count b:=by rw [wZ,if_neg (λh=>NS h.symm)]; rfl
   by_cases aa:b<0\/(l++[y]).count b<(l++[y]).count y\/((l++[y]).count y=(l++[y]).count b/\y<b)
   ·rw [if_pos aa];rw [j6,w1] at aa;refine ⟨by simp,λx J=>?_⟩;rw [w1];by_cases e:x=y
    ·subst e; exact .inr ⟨w1,Int.le_refl _⟩
    ·rw [wZ,if_neg (λh=>e h.symm)];rcases key x J with J | J
     ·have:=hm x J; omega
     ·exact absurd J e
   ·rw [if_neg aa];rw [j6,w1] at aa;refine ⟨by simp [au],λx J=>?_⟩;rw [j6];by_cases e:x=y
    ·subst e; rw [w1]; omega
    ·rw [wZ,if_neg (λh=>e h.symm)];rcases key x J with J | J
     ·have:=hm x J; omega
     ·exact absurd J e
theorem J3 {x:Int}(h:-1<=x/\x<=1000000):sh x=true:=by unfold sh; rw [decide_eq_true]; omega
theorem za (l:List Int) (ai:l.length<=100000) (aT:∀ x∈l,0<=x/\x<=1000000):Tot (wa l) (o6 l):=by
 unfold wa;refine .ay (Ξ:=o6 l) ?_ λr aj=>.ao aj;refine Tot.upto (λs=>s.2.2) l.length (λk s=>s.1.length=k/\(∀ x,(oW s.1 x).getD 0=((l.take k).count x:Int))/\o6 (l.take k) s.2.1) rfl (by omega) ⟨rfl,λx=>by simp [oW],.inl ⟨rfl,rfl⟩⟩ λk s hk he bb=>?_;obtain ⟨m,b,i⟩:=s;obtain ⟨h1,af,aI⟩:=bb;simp only at he h1 af aI ⊢;subst he;rw [eh k (by omega)];refine Tot.bm (λaQ=>?_) (λdG=>.ao ?_)
 ·have aQ:k<l.length:=by omega
  have av:=aT _ (List.getElem_mem aQ);have ga:=kj aQ;have NK:∀ x∈l.take k,0<=x/\x<=1000000:=λx J=>aT x (List.mem_of_mem_take J);have gR:=List.count_le_length (a:=l[k]) (l:=l.take k);rw [dT aQ];generalize l[k]=y at *;have au:-1<=b/\b<=1000000:=by
   rcases aI with ⟨_,rfl⟩ | ⟨h,_⟩
   ·omega
   ·have:=NK b h; omega
  rw [List.length_take] at gR;have cu:sj sh 0 m y=some ((l.take k).count y:Int):=by unfold sj; rw [if_pos (J3 ⟨by omega,av.2⟩),af]
  have cd:aM (((l.take k).count y:Int)+1)=(((l.take k).count y+1:Nat):Int):=eh _ (by omega);have fx:zO sh m y (((l.take k).count y+1:Nat):Int)=some ((y,(((l.take k).count y+1:Nat):Int))::m):=by
   unfold zO;rw [J3 ⟨by omega,av.2⟩,Bool.true_and,if_pos (decide_eq_true (by simp only [lim]; omega))]
  have Oj:∀ x,(oW ((y,(((l.take k).count y+1:Nat):Int))::m) x).getD 0=((l.take (k+1)).count x:Int):=λx=>by
   rw [ga,wZ];unfold oW;by_cases e:y=x
   ·subst e; rw [if_pos rfl,if_pos rfl]; rfl
   ·rw [if_neg e,if_neg e,af]; rfl
  have lZ:∀ x,(-1<=x/\x<=1000000)->sj sh 0 ((y,(((l.take k).count y+1:Nat):Int))::m) x=some ((l.take (k+1)).count x:Int):=λx J=>by unfold sj; rw [if_pos (J3 J),Oj]
  have aA:=aI.snoc (y:=y) (λx J=>(NK x J).1) av.1;rw [<- ga] at aA;have ih:=List.count_le_length (a:=y) (l:=l.take (k+1));have ua:=List.count_le_length (a:=b) (l:=l.take (k+1));rw [List.length_take] at ih ua;simp only [Option.bind_some,cu,cd,fx,lZ y ⟨by omega,av.2⟩,lZ b au];have hw:aM (((l.take (k+1)).count y:Int) - ((l.take (k+1)).count b:Int))=((l.take (k+1)).count y:Int) - ((l.take (k+1)).count b:Int):=by rw [cK]; omega
  rw [hw];refine .ay (Ξ:=λr:List (Int × Int) × Int=>r.1=(y,(((l.take k).count y+1:Nat):Int))::m/\o6 (l.take (k+1)) r.2) ?_ λr aj=>.ao ⟨aQ,rfl,by rw [aj.1]; simp [h1],by rw [aj.1]; exact Oj,aj.2⟩;refine .ay (Ξ:=λc:Bool=>c=decide (b<0\/(l.take (k+1)).count b<(l.take (k+1)).count y\/((l.take (k+1)).count y=(l.take (k+1)).count b/\y<b))) ?_ λc aa=>?_
  ·refine Tot.bm (λh=>.ao (decide_eq_true (.inl h)).symm) (λh=>Tot.bm (λaL=>.ao (decide_eq_true (.inr (.inl (by omega)))).symm) (λaL=>Tot.bm (λaf=>.ao ?_) (λaf=>.ao (decide_eq_false (by omega)).symm)));exact decide_eq_decide.2 (by omega)
  ·subst aa;refine .ay (Ξ:=λz=>z=(if b<0\/(l.take (k+1)).count b<(l.take (k+1)).count y\/((l.take (k+1)).count y=(l.take (k+1)).count b/\y<b) then y else b)) (Tot.bm (λh=>.ao (if_pos h).symm) (λh=>.ao (if_neg h).symm)) λz aX=>.ao ⟨rfl,?_⟩
   show o6 _ z;rw [aX]; exact aA
 ·have e:l.take k=l:=List.take_of_length_le (by omega);rw [e] at aI;exact aI
theorem y_ (l:List Int) (ai:l.length<=100000) (aT:∀ x∈l,0<=x/\x<=1000000):Tot (v' l) (o6 l):=by
 unfold v';refine .ay (Ξ:=λr:List Int=>e3 hR r/\r.length<=l.length/\∀ x,x∈r↔x∈l) ?_ λD oG=>?_
 ·refine Tot.upto (λs=>s.2) l.length (λk s=>e3 hR s.1/\s.1.length<=k/\∀ x,x∈s.1↔x∈l.take k) rfl (by omega) ⟨.nil,Nat.le_refl 0,λx=>by simp⟩ λk s hk he bb=>?_;obtain ⟨r,i⟩:=s;obtain ⟨h1,af,aI⟩:=bb;simp only at he h1 af aI ⊢;subst he;rw [eh k (by omega)];refine Tot.bm (λaQ=>?_) (λdG=>.ao ?_)
  ·have aQ:k<l.length:=by omega
   have ga:=kj aQ;rw [dT aQ];generalize l[k]=y at *;refine Tot.aV (.ay (Be r y h1 (by omega)) λcW dN=>.ao ⟨aQ,rfl,dN.1,by have:=dN.2.1; show cW.length<=k+1; omega,λx=>?_⟩);rw [ga,List.mem_append,List.mem_singleton,<- aI];exact dN.2.2 x
  ·have e:l.take k=l:=List.take_of_length_le (by omega);rw [e] at aI;exact ⟨h1,by omega,aI⟩
 ·obtain ⟨UF,acy,Ey⟩:=oG;refine .ay (Ξ:=λr:Int=>o6 l r) ?_ λr aj=>.ao aj;refine Tot.upto (λs=>s.2.2) D.length (λk s=>(k=0/\s.1=-1/\s.2.1=0)\/(s.1∈D.take k/\s.2.1=(l.count s.1:Int)/\∀ x∈D.take k,l.count x<l.count s.1\/(l.count x=l.count s.1/\s.1<=x))) rfl (by omega) (.inl ⟨rfl,rfl,rfl⟩) λk s hk he bb=>?_;obtain ⟨b,n,i⟩:=s;simp only at he bb ⊢;subst he;rw [eh k (by omega)];refine Tot.bm (λaQ=>?_) (λdG=>.ao ?_)
  ·have aQ:k<D.length:=by omega
   have ga:=kj aQ;have E5:=List.getElem_mem aQ;have uk:∀ x∈D.take k,x<D[k]:=λx J=>by
    obtain ⟨j,ag,rfl⟩:=List.mem_iff_getElem.1 J;rw [List.length_take] at ag;rw [List.getElem_take];exact Kd.1 (Hc UF (by omega) aQ (by omega))
   rw [dT aQ];generalize D[k]=y at *;have E4:=(Ey y).1 E5;refine .ay (Ξ:=λr:Int × Int=>r.1∈D.take (k+1)/\r.2=(l.count r.1:Int)/\∀ x∈D.take (k+1),l.count x<l.count r.1\/(l.count x=l.count r.1/\r.1<=x)) ?_ λr aj=>.ao ⟨aQ,rfl,.inr aj⟩;refine .ay (Ξ:=λz:Int=>z=(l.count y:Int)) ?_ λz aX=>?_
   ·refine Tot.upto (λs=>s.2) l.length (λj s=>s.1=((l.take j).count y:Int)) rfl (by omega) (by simp) λj s ag he bb=>?_;obtain ⟨z,i⟩:=s;simp only at he bb ⊢;subst he bb;rw [eh j (by omega)];refine Tot.bm (λeB=>?_) (λdG=>.ao ?_)
    ·have eB:j<l.length:=by omega
     have nE:=kj eB;have gR:=List.count_le_length (a:=y) (l:=l.take j);rw [List.length_take] at gR;rw [dT eB];generalize l[j]=x at *;simp only [Option.bind_some];refine .ay (Ξ:=λz:Int=>z=((l.take (j+1)).count y:Int)) ?_ λz aX=>.ao ⟨eB,rfl,aX⟩;rw [nE,wZ];refine .ay (Ξ:=λz:Int=>z=(((l.take j).count y+if x=y then 1 else 0:Nat):Int)) (Tot.bm (λe=>.ao ?_) (λe=>.ao ?_)) λz aX=>.ao aX
     ·rw [if_pos e,eh _ (by omega)]
     ·rw [if_neg e]; rfl
    ·have e:l.take j=l:=List.take_of_length_le (by omega);rw [e]; rfl
   ·subst aX;refine .ay (Ξ:=λr:Int × Int=>r.1∈D.take (k+1)/\r.2=(l.count r.1:Int)/\∀ x∈D.take (k+1),l.count x<l.count r.1\/(l.count x=l.count r.1/\r.1<=x)) ?_ λr aj=>.ao aj;have xg:=Tz E4;rw [ga];have key:∀ x∈D.take k++[y],x∈D.take k\/x=y:=λx J=>by simpa using J
    refine Tot.bm (λaa=>Tot.aV (.ao ⟨by simp,rfl,λx J=>?_⟩)) (λaa=>?_)
    ·rcases key x J with J | rfl
     ·rcases bb with ⟨rfl,_,_⟩ | ⟨h1,af,aI⟩
      ·simp at J
      ·have:=aI x J; show l.count x<l.count y\/_; omega
     ·exact .inr ⟨rfl,Int.le_refl _⟩
    ·rcases bb with ⟨rfl,_,rfl⟩ | ⟨h1,af,aI⟩
     ·omega
     ·refine .ao ⟨by simp [h1],af,λx J=>?_⟩;rcases key x J with J | rfl
      ·exact aI x J
      ·have:=uk b h1;have aa:¬ ((n:Int)<(l.count x:Int)):=aa;have af:n=(l.count b:Int):=af;show l.count x<l.count b\/(l.count x=l.count b/\b<=x);omega
  ·have e:D.take k=D:=List.take_of_length_le (by omega);rw [e] at bb;rcases bb with ⟨rfl,rfl,_⟩ | ⟨h1,af,aI⟩
   ·have:D=[]:=List.eq_nil_of_length_eq_zero (by omega);refine .inl ⟨?_,rfl⟩;refine List.eq_nil_iff_forall_not_mem.2 λx J=>?_;have:=(Ey x).2 J
    subst_vars
    cases this
   ·exact .inr ⟨(Ey b).1 h1,λx J=>aI x ((Ey x).2 J)⟩
def kX (l:List Int):Int:=(v' l).getD (-1)
def G0 (l:List Int):Prop:=l.length<=100000/\∀ x∈l,0<=x/\x<=1000000
theorem FF {l:List Int}(h:G0 l):wa l=some (kX l)/\v' l=some (kX l)/\o6 l (kX l):=by
 obtain ⟨v,hv,h1⟩:=za l h.1 h.2;obtain ⟨w,hw,af⟩:=y_ l h.1 h.2;have e:kX l=w:=by unfold kX; rw [hw]; rfl
 have cd:=h1.uniq af
 grind
def iu {α:Type}(keep:α->Bool) (val:α->Int) (l:List α):List b3:=(l.zipIdx.filter λp=>keep p.1).map λp=>(⟨(p.2:Nat),val p.1⟩:b3)
theorem FU {α:Type}(keep:α->Bool) (val:α->Int) (l:List α) (x:α):iu keep val (l++[x])=iu keep val l++(if keep x=true then [(⟨l.length,val x⟩:b3)] else []):=by
 grind [iu]
theorem wg {α:Type}(keep:α->Bool) (val:α->Int) (l:List α):(iu keep val l).length<=l.length:=by
 grind [iu,List.length_zipIdx]
theorem XL {α:Type}{keep:α->Bool}{val:α->Int}{l:List α}{p:b3}:p∈iu keep val l↔∃ (k:Nat) (x:α),l[k]?=some x/\keep x=true/\p=⟨k,val x⟩:=by
 unfold iu;rw [List.mem_map];constructor
 ·grind
 ·rintro ⟨k,x,h1,af,rfl⟩;exact ⟨(x,k),by rw [List.mem_filter,List.mem_zipIdx_iff_getElem?]; exact ⟨h1,af⟩,rfl⟩
def red (r:List Act):List Int:=(r.filter λa=>decide (a.Kind=2)).map (·.N)
theorem PW (r:List Act) (a:Act):red (r++[a])=red r++(if a.Kind=2 then [a.N] else []):=by
 grind [red]
theorem KH (r:List Act):(red r).length<=r.length:=by
 grind [red]
def mN (a:Act):Int:=(uG a).getD 0
theorem MF (a:Act):Ai a=some (mN a)/\uG a=some (mN a):=by
 obtain ⟨c,aa,_⟩:=ZK a
 grind [mN,TL]
def lM (d:Int) (a:Act):Bool:=!decide (a.Kind=0)&&(!decide (a.Kind=2)||!decide (a.N=d))
def qA (r:List Act):Row:=⟨kX (red r),iu (lM (kX (red r))) mN r⟩
def lN (d v:Int):Bool:=decide (0<=v)&&!decide (v=d)
def pos (c:List Int):List Int:=c.filter λv=>decide (0<=v)
theorem PQ (r:List Int) (a:Int):pos (r++[a])=pos r++(if 0<=a then [a] else []):=by
 grind [pos]
def qB (c:List Int):Row:=⟨kX (pos c),iu (lN (kX (pos c))) id c⟩
def eW (d:gz) (a:Nat):List Int:=d.ei.map λr=>r.getD a 0
theorem PV {g:bO}{n:Nat}(aP:hb g) {r:List Act}(ai:r.length=g.ba.length) (h:∀ a∈r,ss g n a):G0 (red r):=by
 have aw:=aP.kk;have ar:=aP.hE;have:=KH r;refine ⟨by omega,λx J=>?_⟩;unfold red at J;obtain ⟨a,aR,rfl⟩:=List.mem_map.1 J;rw [List.mem_filter] at aR;have hk:=(h a aR.1).rf (of_decide_eq_true aR.2);have h1:=hk.1;have af:=hk.2;omega
theorem PO {c:List Int}(ai:c.length<=150) (h:∀ v∈c,v<150):G0 (pos c):=by
 have:=List.length_filter_le (λv:Int=>decide (0<=v)) c;refine ⟨by unfold pos; omega,λx J=>?_⟩
 grind [pos]
theorem sB (g:bO) (n:Nat) (d:gz) (aS:pY g n d):Tot (C4 d) λr=>r=d.dI.map qA:=by
 have aP:=aS.rU;have aw:=aP.kk;have aE:=aS.gG;have aR:=aS.a;unfold C4;refine .ay (Ξ:=λr:List Row=>r=d.dI.map qA) ?_ λr aj=>.ao aj;refine Tot.upto (λs=>s.2) d.dI.length (λk s=>s.1=(d.dI.take k).map qA) rfl (by omega) rfl λk s hk he bb=>?_;obtain ⟨R,i⟩:=s;simp only at he bb ⊢;subst he bb;rw [eh k (by omega)];refine Tot.bm (λaQ=>?_) (λdG=>.ao ?_)
 ·have aQ:k<d.dI.length:=by omega
  have ga:=kj aQ;obtain ⟨kR,sS⟩:=aS.jK _ (List.getElem_mem aQ);simp only [dT aQ,Option.bind_some];generalize d.dI[k]=r at *;have nD:=PV aP kR sS;obtain ⟨w3,Bl,_⟩:=FF nD;refine .ay (Ξ:=λl:List Int=>l=red r) ?_ λl ai=>?_
  ·refine Tot.upto (λs=>s.2) r.length (λj s=>s.1=red (r.take j)) rfl (by omega) rfl λj s ag he bb=>?_;obtain ⟨L,i⟩:=s;simp only at he bb ⊢;subst he bb;rw [eh j (by omega)];refine Tot.bm (λeB=>?_) (λdG=>.ao ?_)
   ·have eB:j<r.length:=by omega
    have nE:=kj eB;have hlen:=KH (r.take j);rw [List.length_take] at hlen;simp only [dT eB,Option.bind_some];generalize r[j]=a at *;refine .ay (Ξ:=λL:List Int=>L=red (r.take (j+1))) ?_ λr aj=>.ao ⟨eB,rfl,aj⟩;rw [nE,PW];refine .ay (Ξ:=λL:List Int=>L=red (r.take j)++(if a.Kind=2 then [a.N] else [])) (Tot.bm (λh=>?_) (λh=>.ao ?_)) λr aj=>.ao aj
    ·rw [if_pos h];exact .ay (Ξ:=λ_=>True) (Tot.ap (by simp [lim]; omega) trivial) λ_ _=>.ao rfl
    grind
   grind
  ·subst ai;rw [w3];refine Tot.aV (.ay (Ξ:=λl:List b3=>l=iu (lM (kX (red r))) mN r) ?_ λl ai=>?_)
   ·generalize kX (red r)=D;refine Tot.upto (λs=>s.2) r.length (λj s=>s.1=iu (lM D) mN (r.take j)) rfl (by omega) rfl λj s ag he bb=>?_;obtain ⟨L,i⟩:=s;simp only at he bb ⊢;subst he bb;rw [eh j (by omega)];refine Tot.bm (λeB=>?_) (λdG=>.ao ?_)
    ·have eB:j<r.length:=by omega
     have nE:=kj eB;have hlen:=wg (lM D) mN (r.take j);have e0:(r.take j).length=j:=by rw [List.length_take]; omega
     rw [List.length_take] at hlen;simp only [dT eB,Option.bind_some];generalize r[j]=a at *;rw [(MF a).1];refine .ay (Ξ:=λL:List b3=>L=iu (lM D) mN (r.take (j+1))) ?_ λr aj=>.ao ⟨eB,rfl,aj⟩;rw [nE,FU,e0];refine .ay (Ξ:=λc:Bool=>c=lM D a) (Tot.bB (λh=>?_) (λh=>.ao ?_)) λc aa=>?_
     ·refine Tot.bB (λaf=>.ao ?_) (λaf=>.ao ?_)
      all_goals grind [lM]
     ·grind [lM]
     subst aa;refine .ay (Ξ:=λL:List b3=>L=iu (lM D) mN (r.take j)++(if lM D a=true then [(⟨j,mN a⟩:b3)] else [])) (Tot.bB (λh=>?_) (λh=>.ao ?_)) λr aj=>.ao aj
     ·rw [if_pos h];exact Tot.aV (.ay (Ξ:=λ_=>True) (Tot.ap (by simp [lim]; omega) trivial) λ_ _=>.ao rfl)
     grind
    grind
   ·subst ai;refine .ay (Ξ:=λ_=>True) (Tot.ap (by simp [lim]; omega) trivial) λ_ _=>.ao ⟨aQ,rfl,?_⟩
    grind [qA]
 grind
theorem tD (g:bO) (n:Nat) (d:gz) (aS:pY g n d):Tot (CX d) λr=>r=d.dI.map qA:=by
 have aP:=aS.rU;have aw:=aP.kk;have aE:=aS.gG;have aR:=aS.a;unfold CX;refine .ay (Ξ:=λr:List Row=>r=d.dI.map qA) ?_ λr aj=>.ao aj;refine Tot.upto (λs=>s.2) d.dI.length (λk s=>s.1=(d.dI.take k).map qA) rfl (by omega) rfl λk s hk he bb=>?_;obtain ⟨R,i⟩:=s;simp only at he bb ⊢;subst he bb;rw [eh k (by omega)];refine Tot.bm (λaQ=>?_) (λdG=>.ao ?_)
 ·have aQ:k<d.dI.length:=by omega
  have ga:=kj aQ;obtain ⟨kR,sS⟩:=aS.jK _ (List.getElem_mem aQ);simp only [dT aQ,Option.bind_some];generalize d.dI[k]=r at *;have nD:=PV aP kR sS;obtain ⟨w3,Bl,_⟩:=FF nD;refine .ay (Ξ:=λl:List Int=>l=red r) ?_ λl ai=>?_
  ·refine Tot.upto (λs=>s.2) r.length (λj s=>s.1=red (r.take j)) rfl (by omega) rfl λj s ag he bb=>?_;obtain ⟨L,i⟩:=s;simp only at he bb ⊢;subst he bb;rw [eh j (by omega)];refine Tot.bm (λeB=>?_) (λdG=>.ao ?_)
   ·have eB:j<r.length:=by omega
    have nE:=kj eB;have hlen:=KH (r.take j);rw [List.length_take] at hlen;simp only [dT eB,Option.bind_some];generalize r[j]=a at *;refine .ay (Ξ:=λL:List Int=>L=red (r.take (j+1))) ?_ λr aj=>.ao ⟨eB,rfl,aj⟩;rw [nE,PW];refine .ay (Ξ:=λL:List Int=>L=red (r.take j)++(if a.Kind=2 then [a.N] else [])) (Tot.bm (λh=>?_) (λh=>.ao ?_)) λr aj=>.ao aj
    ·rw [if_pos h];exact .ay (Ξ:=λ_=>True) (Tot.ap (by simp [lim]; omega) trivial) λ_ _=>.ao rfl
    grind
   grind
  ·subst ai;rw [Bl];refine Tot.aV (.ay (Ξ:=λl:List b3=>l=iu (lM (kX (red r))) mN r) ?_ λl ai=>?_)
   ·generalize kX (red r)=D;refine Tot.upto (λs=>s.2) r.length (λj s=>s.1=iu (lM D) mN (r.take j)) rfl (by omega) rfl λj s ag he bb=>?_;obtain ⟨L,i⟩:=s;simp only at he bb ⊢;subst he bb;rw [eh j (by omega)];refine Tot.bm (λeB=>?_) (λdG=>.ao ?_)
    ·have eB:j<r.length:=by omega
     have nE:=kj eB;have hlen:=wg (lM D) mN (r.take j);have e0:(r.take j).length=j:=by rw [List.length_take]; omega
     rw [List.length_take] at hlen;simp only [dT eB,Option.bind_some];generalize r[j]=a at *;rw [(MF a).2];refine .ay (Ξ:=λL:List b3=>L=iu (lM D) mN (r.take (j+1))) ?_ λr aj=>.ao ⟨eB,rfl,aj⟩;rw [nE,FU,e0];refine .ay (Ξ:=λc:Bool=>c=lM D a) (Tot.bB (λh=>?_) (λh=>.ao ?_)) λc aa=>?_
     ·refine Tot.bB (λaf=>.ao ?_) (λaf=>.ao ?_)
      all_goals grind [lM]
     ·grind [lM]
     subst aa;refine .ay (Ξ:=λL:List b3=>L=iu (lM D) mN (r.take j)++(if lM D a=true then [(⟨j,mN a⟩:b3)] else [])) (Tot.bB (λh=>?_) (λh=>.ao ?_)) λr aj=>.ao aj
     ·rw [if_pos h];exact Tot.aV (.ay (Ξ:=λ_=>True) (Tot.ap (by simp [lim]; omega) trivial) λ_ _=>.ao rfl)
     grind
    grind
   ·subst ai;refine .ay (Ξ:=λ_=>True) (Tot.ap (by simp [lim]; omega) trivial) λ_ _=>.ao ⟨aQ,rfl,?_⟩
    grind [qA]
 grind
theorem wY (d:gz) (a:Nat):(eW d a).length=d.ei.length:=by simp [eW]
theorem Ef {d:gz}{a q:Nat}(h:q<d.ei.length):(eW d a).take (q+1)=(eW d a).take q++[(d.ei[q]).getD a 0]:=by
 rw [kj (by rw [wY]; exact h)];congr 2;simp [eW]
theorem MG {g:bO}{n:Nat}{d:gz}(aS:pY g n d) {a:Nat}(aR:a<g.ca.length):∀ v∈eW d a,-1<=v/\v<n:=λv hv=>by
 unfold eW at hv;obtain ⟨r,aj,rfl⟩:=List.mem_map.1 hv;obtain ⟨h1,af⟩:=aS.xW r aj;refine af _ ?_;rw [List.getD_eq_getElem?_getD,List.getElem?_eq_getElem (by omega)];exact List.getElem_mem _
theorem E' {r:List Int}{a:Nat}(h:a<r.length):idx r (a:Int)=some (r.getD a 0):=by
 rw [dT h,List.getD_eq_getElem?_getD,List.getElem?_eq_getElem h]; rfl
theorem PN (c:List Int):(pos c).length<=c.length:=List.length_filter_le ..
theorem Ms (g:bO) (n:Nat) (d:gz) (aS:pY g n d):Tot (C5 d) λr=>r=(List.range g.ca.length).map λa=>qB (eW d a):=by
 have aP:=aS.rU;have aw:=aP.dx;have aE:=aS.gG;have aR:=aS.o;have aT:0<d.ei.length:=by omega
 obtain ⟨Wr,_⟩:=aS.xW _ (List.getElem_mem aT);have i0:idx d.ei 0=some d.ei[0]:=dT (k:=0) aT;unfold C5;refine Tot.bm (λh=>absurd h (by omega)) (λ_=>?_);rw [i0];refine Tot.aV (.ay (Ξ:=λr:List Row=>r=(List.range g.ca.length).map λa=>qB (eW d a)) ?_ λr aj=>.ao aj);refine Tot.upto (λs=>s.2) g.ca.length (λk s=>s.1=(List.range k).map λa=>qB (eW d a)) rfl (by omega) rfl λk s hk he bb=>?_;obtain ⟨R,i⟩:=s;simp only at he bb ⊢;subst he bb;rw [eh k (by omega)];refine Tot.bm (λaQ=>?_) (λdG=>.ao ?_)
 ·have h6:k<g.ca.length:=by omega
  have nD:=PO (c:=eW d k) (by rw [wY]; omega) λv hv=>by have:=(MG aS h6 v hv).2; omega
  obtain ⟨w3,Bl,_⟩:=FF nD;have gR:=wY d k;refine .ay (Ξ:=λl:List Int=>l=pos (eW d k)) ?_ λl ai=>?_
  ·refine Tot.upto (λs=>s.2) d.ei.length (λj s=>s.1=pos ((eW d k).take j)) rfl (by omega) rfl λj s ag he bb=>?_;obtain ⟨L,i⟩:=s;simp only at he bb ⊢;subst he bb;rw [eh j (by omega)];refine Tot.bm (λeB=>?_) (λdG=>.ao ?_)
   ·have eB:j<d.ei.length:=by omega
    have nE:=Ef (a:=k) eB;have hlen:=PN ((eW d k).take j);rw [List.length_take] at hlen;obtain ⟨kR,_⟩:=aS.xW _ (List.getElem_mem eB);simp only [dT eB,Option.bind_some,E' (show k<(d.ei[j]).length by omega)];generalize (d.ei[j]).getD k 0=v at *;refine .ay (Ξ:=λL:List Int=>L=pos ((eW d k).take (j+1))) ?_ λr aj=>.ao ⟨eB,rfl,aj⟩;rw [nE,PQ];refine .ay (Ξ:=λL:List Int=>L=pos ((eW d k).take j)++(if 0<=v then [v] else [])) (Tot.bm (λh=>?_) (λh=>.ao ?_)) λr aj=>.ao aj
    ·rw [if_pos h];exact .ay (Ξ:=λ_=>True) (Tot.ap (by simp [lim]; omega) trivial) λ_ _=>.ao rfl
    ·rw [if_neg h,List.append_nil]
   ·have e:(eW d k).take j=eW d k:=List.take_of_length_le (by omega);rw [e]; rfl
  ·subst ai;rw [w3];refine Tot.aV (.ay (Ξ:=λl:List b3=>l=iu (lN (kX (pos (eW d k)))) id (eW d k)) ?_ λl ai=>?_)
   ·generalize kX (pos (eW d k))=D;refine Tot.upto (λs=>s.2) d.ei.length (λj s=>s.1=iu (lN D) id ((eW d k).take j)) rfl (by omega) rfl λj s ag he bb=>?_;obtain ⟨L,i⟩:=s;simp only at he bb ⊢;subst he bb;rw [eh j (by omega)];refine Tot.bm (λeB=>?_) (λdG=>.ao ?_)
    ·have eB:j<d.ei.length:=by omega
     have nE:=Ef (a:=k) eB;have hlen:=wg (lN D) id ((eW d k).take j);have e0:((eW d k).take j).length=j:=by rw [List.length_take]; omega
     rw [e0] at hlen;obtain ⟨kR,_⟩:=aS.xW _ (List.getElem_mem eB);simp only [dT eB,Option.bind_some,E' (show k<(d.ei[j]).length by omega)];generalize (d.ei[j]).getD k 0=v at *;refine .ay (Ξ:=λL:List b3=>L=iu (lN D) id ((eW d k).take (j+1))) ?_ λr aj=>.ao ⟨eB,rfl,aj⟩;rw [nE,FU,e0];refine .ay (Ξ:=λc:Bool=>c=lN D v) (Tot.bB (λh=>.ao ?_) (λh=>.ao ?_)) λc aa=>?_
     ·unfold lN; rw [h]; rfl
     ·unfold lN; rw [h]; rfl
     subst aa;refine .ay (Ξ:=λL:List b3=>L=iu (lN D) id ((eW d k).take j)++(if lN D v=true then [(⟨j,id v⟩:b3)] else [])) (Tot.bB (λh=>?_) (λh=>.ao ?_)) λr aj=>.ao aj
     ·rw [if_pos h];exact .ay (Ξ:=λ_=>True) (Tot.ap (by simp [lim]; omega) trivial) λ_ _=>.ao rfl
     ·rw [if_neg (by rw [h]; decide),List.append_nil]
    ·have e:(eW d k).take j=eW d k:=List.take_of_length_le (by omega);rw [e]; rfl
   ·subst ai;refine .ay (Ξ:=λ_=>True) (Tot.ap (by simp [lim]; omega) trivial) λ_ _=>.ao ⟨h6,rfl,?_⟩;show _=(List.range (k+1)).map λa=>qB (eW d a);rw [List.range_succ,List.map_append]; rfl
 ·have:k=g.ca.length:=by omega
  subst this; rfl
theorem nu (g:bO) (n:Nat) (d:gz) (aS:pY g n d):Tot (C0 d) λr=>r=(List.range g.ca.length).map λa=>qB (eW d a):=by
 have aP:=aS.rU;have aw:=aP.dx;have aE:=aS.gG;have aR:=aS.o;have aT:0<d.ei.length:=by omega
 obtain ⟨Wr,_⟩:=aS.xW _ (List.getElem_mem aT);have i0:idx d.ei 0=some d.ei[0]:=dT (k:=0) aT;have g0:decide ((0:Int)<(d.ei.length:Int))=true:=decide_eq_true (by omega);unfold C0;refine .ay (Ξ:=λr:List Row=>r=(List.range g.ca.length).map λa=>qB (eW d a)) ?_ λr aj=>.ao aj;refine Tot.upto (λs=>s.2) g.ca.length (λk s=>s.1=(List.range k).map λa=>qB (eW d a)) rfl (by omega) rfl λk s hk he bb=>?_;obtain ⟨R,i⟩:=s;simp only at he bb ⊢;subst he bb;rw [eh k (by omega),g0,i0];simp only [cond_true,Option.bind_some];refine Tot.bm (λaQ=>?_) (λdG=>.ao ?_)
 ·have h6:k<g.ca.length:=by omega
  have nD:=PO (c:=eW d k) (by rw [wY]; omega) λv hv=>by have:=(MG aS h6 v hv).2; omega
  obtain ⟨w3,Bl,_⟩:=FF nD;have gR:=wY d k;refine .ay (Ξ:=λl:List Int=>l=pos (eW d k)) ?_ λl ai=>?_
  ·refine Tot.upto (λs=>s.2) d.ei.length (λj s=>s.1=pos ((eW d k).take j)) rfl (by omega) rfl λj s ag he bb=>?_;obtain ⟨L,i⟩:=s;simp only at he bb ⊢;subst he bb;rw [eh j (by omega)];refine Tot.bm (λeB=>?_) (λdG=>.ao ?_)
   ·have eB:j<d.ei.length:=by omega
    have nE:=Ef (a:=k) eB;have hlen:=PN ((eW d k).take j);rw [List.length_take] at hlen;obtain ⟨kR,_⟩:=aS.xW _ (List.getElem_mem eB);simp only [dT eB,Option.bind_some,E' (show k<(d.ei[j]).length by omega)];generalize (d.ei[j]).getD k 0=v at *;refine .ay (Ξ:=λL:List Int=>L=pos ((eW d k).take (j+1))) ?_ λr aj=>.ao ⟨eB,rfl,aj⟩;rw [nE,PQ];refine .ay (Ξ:=λL:List Int=>L=pos ((eW d k).take j)++(if 0<=v then [v] else [])) (Tot.bm (λh=>?_) (λh=>.ao ?_)) λr aj=>.ao aj
    ·rw [if_pos h];exact .ay (Ξ:=λ_=>True) (Tot.ap (by simp [lim]; omega) trivial) λ_ _=>.ao rfl
    ·rw [if_neg h,List.append_nil]
   ·have e:(eW d k).take j=eW d k:=List.take_of_length_le (by omega);rw [e]; rfl
  ·subst ai;rw [Bl];refine Tot.aV (.ay (Ξ:=λl:List b3=>l=iu (lN (kX (pos (eW d k)))) id (eW d k)) ?_ λl ai=>?_)
   ·generalize kX (pos (eW d k))=D;refine Tot.upto (λs=>s.2) d.ei.length (λj s=>s.1=iu (lN D) id ((eW d k).take j)) rfl (by omega) rfl λj s ag he bb=>?_;obtain ⟨L,i⟩:=s;simp only at he bb ⊢;subst he bb;rw [eh j (by omega)];refine Tot.bm (λeB=>?_) (λdG=>.ao ?_)
    ·have eB:j<d.ei.length:=by omega
     have nE:=Ef (a:=k) eB;have hlen:=wg (lN D) id ((eW d k).take j);have e0:((eW d k).take j).length=j:=by rw [List.length_take]; omega
     rw [e0] at hlen;obtain ⟨kR,_⟩:=aS.xW _ (List.getElem_mem eB);simp only [dT eB,Option.bind_some,E' (show k<(d.ei[j]).length by omega)];generalize (d.ei[j]).getD k 0=v at *;refine .ay (Ξ:=λL:List b3=>L=iu (lN D) id ((eW d k).take (j+1))) ?_ λr aj=>.ao ⟨eB,rfl,aj⟩;rw [nE,FU,e0];refine .ay (Ξ:=λc:Bool=>c=lN D v) (Tot.bB (λh=>.ao ?_) (λh=>.ao ?_)) λc aa=>?_
     ·unfold lN; rw [h]; rfl
     ·unfold lN; rw [h]; rfl
     subst aa;refine .ay (Ξ:=λL:List b3=>L=iu (lN D) id ((eW d k).take j)++(if lN D v=true then [(⟨j,id v⟩:b3)] else [])) (Tot.bB (λh=>?_) (λh=>.ao ?_)) λr aj=>.ao aj
     ·rw [if_pos h];exact .ay (Ξ:=λ_=>True) (Tot.ap (by simp [lim]; omega) trivial) λ_ _=>.ao rfl
     ·rw [if_neg (by rw [h]; decide),List.append_nil]
    ·have e:(eW d k).take j=eW d k:=List.take_of_length_le (by omega);rw [e]; rfl
   ·subst ai;refine .ay (Ξ:=λ_=>True) (Tot.ap (by simp [lim]; omega) trivial) λ_ _=>.ao ⟨h6,rfl,?_⟩;show _=(List.range (k+1)).map λa=>qB (eW d a);rw [List.range_succ,List.map_append]; rfl
 ·have:k=g.ca.length:=by omega
  subst this; rfl
theorem t33 (a:List b3) (h:a.length<=1000000):Ae a a=some true:=by
 suffices aA:Tot (Ae a a) λr=>r=true by
  obtain ⟨r,aj,e⟩:=aA; rw [aj,e]
 unfold Ae;refine Tot.oD (λh=>absurd rfl h) (λ_=>?_);refine .ay (Ξ:=hG (λ_=>True) (λ_:Bool=>False)) ?_ λx J=>by
  rcases x with x | x
  ·exact .ao rfl
  ·exact J.elim
 refine Tot.upto (λs=>s) a.length (λ_ _=>True) rfl (by omega) trivial λk i hk he _=>?_;subst he;rw [eh k (by omega)];refine Tot.bm (λaQ=>?_) (λ_=>.ao trivial);have aQ:k<a.length:=by omega
 simp only [dT aQ,Option.bind_some,decide_true,Bool.and_true,Bool.not_true,cond_false];exact .ao ⟨aQ,rfl,trivial⟩
theorem ZJ {α:Type}(a b:α) {i:Int}(aT:0<=i) (h:i<(([a,b]:List α).length:Int)):∃ y,idx [a,b] i=some y/\(y=a\/y=b):=by
 obtain ⟨y,av,hm⟩:=nH aT h;exact ⟨y,av,by simpa using hm⟩
theorem Yx {α:Type}(keep:α->Bool) (val:α->Int) (l:List α):(iu keep val l).Pairwise λa b=>a.At<b.At:=by
 unfold iu;rw [List.pairwise_map];refine List.Pairwise.sublist List.filter_sublist ?_;rw [List.pairwise_iff_getElem];intro i j hi ag acW;simp only [List.getElem_zipIdx];omega
abbrev eJ:=List b3
structure iy (r:eJ):Prop where
 lX:∀ p∈r,0<=p.At/\p.At<=999
 nd:(r.map (·.At)).Nodup
def Fit (gK:List Int) (r:eJ) (b:Nat):Prop:=∀ p∈r,gK.getD (b+p.At.toNat) 0=0
theorem oQ {α:Type}{l:List α}{k:Nat}(h:k<l.length):idx l (k:Int)=some l[k]:=by simp [idx,h]
theorem MB (p:b3) (b:Nat) (gK:List Int) (ar:0<=p.At/\p.At<=999) (au:b<=1000000000000) (aa:gK.length<=1000000000000):Tot (Aq p b gK) λc=>(c=true↔gK.getD (b+p.At.toNat) 0≠0):=by
 unfold Aq;have hw:aM ((b:Int)+p.At)=((b+p.At.toNat:Nat):Int):=by rw [cK]; omega
 rw [hw];refine .ay (Ξ:=λc=>(c=true↔gK.getD (b+p.At.toNat) 0≠0)) (Tot.bm (λh=>?_) (λh=>.ao ?_)) λc aa=>.ao aa
 ·have ai:b+p.At.toNat<gK.length:=by omega
  rw [oQ ai];refine Tot.aV (.ao ?_);rw [List.getD_eq_getElem?_getD,List.getElem?_eq_getElem ai];simp
 ·have ai:¬ b+p.At.toNat<gK.length:=by omega
  rw [List.getD_eq_getElem?_getD,List.getElem?_eq_none (by omega)];simp
theorem SY (gK:List Int) (r:eJ) (b:Nat) (aj:∀ p∈r,0<=p.At/\p.At<=999) (ai:r.length<=100000) (au:b<=1000000000000) (aa:gK.length<=1000000000000):Tot (x8 gK r b) λc=>(c=true↔Fit gK r b):=by
 unfold x8 FN FL;refine .ay (Ξ:=λx=>x=true↔¬ Fit gK r b) (.ay (Ξ:=λx=>(x=-1/\Fit gK r b)\/(0<=x/\¬ Fit gK r b)) ?_ λx J=>.ao ?_) λx J=>.ao ?_
 ·refine Tot.ay (Tot.scan r (λp=>gK.getD (b+p.At.toNat) 0=0) (λx:Int=>0<=x/\¬ Fit gK r b) (by omega) (λs y aT h1 hi hm=>?_) (λs aA=>by simp [aA])) λx J=>?_
  ·refine Tot.bm (λ_=>?_) (λh=>absurd h1 h);rw [hi];refine Tot.aV (.ay (MB y b gK (aj y hm) au aa) λc BN=>Tot.bB (λh=>.ao ⟨aT,λaW=>(BN.1 h) (aW y hm)⟩) (λh=>.ao ⟨?_,?_⟩))
   ·rw [cK]; omega
   ·exact Classical.byContradiction λaE=>by rw [BN.2 aE] at h; cases h
  ·rcases x with _ | x
   ·exact .ao (.inl ⟨rfl,J⟩)
   ·exact .ao (.inr J)
 ·rcases J with ⟨rfl,aW⟩ | ⟨aT,aW⟩
  ·simp [aW]
  ·simp [aT,aW]
 ·cases x <;> simp_all
theorem SO (gK:List Int) (r:eJ) (b:Nat) (aj:∀ p∈r,0<=p.At/\p.At<=999) (ai:r.length<=100000) (au:b<=1000000000000) (aa:gK.length<=1000000000000):Tot (Aj gK r b) λc=>(c=true↔Fit gK r b):=by
 unfold Aj;refine Tot.ay (Tot.scan r (λp=>gK.getD (b+p.At.toNat) 0=0) (λx:Bool=>x=false/\¬ Fit gK r b) (by omega) (λs y aT h1 hi hm=>?_) (λs aA=>by simp [aA])) λx J=>?_
 ·refine Tot.bm (λ_=>?_) (λh=>absurd h1 h);rw [hi];refine Tot.aV (.ay (Ξ:=λc=>(c=true↔gK.getD (b+y.At.toNat) 0≠0)) ?_ λc BN=>Tot.bB (λh=>.ao ⟨rfl,λaW=>(BN.1 h) (aW y hm)⟩) (λh=>.ao ⟨?_,?_⟩))
  ·have:=MB y b gK (aj y hm) au aa;unfold Aq at this;obtain ⟨v,hv,b_⟩:=this;simp only [Option.bind_eq_some_iff,Option.some.injEq] at hv;obtain ⟨c,aa,rfl⟩:=hv;exact ⟨c,aa,b_⟩
  ·rw [cK]; omega
  ·exact Classical.byContradiction λaE=>by rw [BN.2 aE] at h; cases h
 ·rcases x with _ | x
  ·exact .ao ⟨λ_=>J,λ_=>rfl⟩
  ·obtain ⟨rfl,aW⟩:x=false/\¬ Fit gK r b:=J;exact .ao ⟨λh=>(by cases h),λh=>absurd h aW⟩
theorem SQ (l:List Int) (n:Int) (h:l.length<=100000):Tot (uI l n) λc=>(c=true↔n∈l):=by
 unfold uI;refine Tot.ay (Tot.scan l (λx=>x≠n) (λx:Bool=>x=true/\n∈l) (by omega) (λs y aT h1 hi hm=>?_) (λs aA=>by simp [aA])) λx J=>?_
 ·refine Tot.bm (λ_=>?_) (λh=>absurd h1 h);rw [hi];refine Tot.aV (Tot.bm (λe=>.ao ⟨rfl,e ▸ hm⟩) (λe=>.ao ⟨?_,e⟩));rw [cK]; omega
 ·rcases x with _ | x
  ·have J:∀ y∈l,y≠n:=J;exact .ao ⟨λh=>(by cases h),λh=>absurd rfl (J n h)⟩
  ·obtain ⟨rfl,hm⟩:x=true/\n∈l:=J;exact .ao ⟨λ_=>hm,λ_=>rfl⟩
theorem p8 (l:List Int) (h:l.length<=100000000000000000):Tot (nh l l) λc=>c=true:=by
 unfold nh;refine Tot.oD (λh=>absurd rfl h) (λ_=>?_);refine Tot.ay (Tot.scan l (λ_=>True) (λ_=>False) h (λs y aT h1 hi hm=>?_) (λs aA=>by simp [aA])) λx J=>?_
 ·refine Tot.bm (λ_=>?_) (λh=>absurd h1 h);rw [hi];refine Tot.aV (Tot.aV (Tot.oD (λh=>absurd rfl h) (λ_=>.ao ⟨?_,trivial⟩)));rw [cK]; omega
 ·rcases x with _ | x
  ·exact .ao rfl
  ·exact (J:False).elim
theorem SL (a b:Int):uH a b=some (if a<b then -1 else if b<a then 1 else 0):=by
 unfold uH;have h:∀ x,wc x=some false:=λx=>by simp [wc]
 rw [h,h];by_cases h1:a<b
 ·simp [h1]
 ·by_cases af:b<a <;> simp [h1,af]
theorem SX (a b:Int):Dc [a,b]=some (if a=0 then b else a):=by
 unfold Dc;have gj:∀ (f:Int->Option (Int ⊕ (Unit ⊕ Int))),f 0=(if a=0 then some (.inl 1) else some (.inr (.inr a)))->f 1=(if b=0 then some (.inl 2) else some (.inr (.inr b)))->f 2=some (.inr (.inl ()))->b6 f 0=some (if a=0 then (if b=0 then .inl () else .inr b) else .inr a):=by
  intro f x y z;show iter f (999999999999999997+1+1+1) _=_;by_cases aR:a=0
  ·by_cases au:b=0 <;> simp only [iter,x,y,z,aR,au,if_true,if_false]
  ·simp only [iter,x,aR,if_false]
 rw [gj _ ?_ ?_ ?_]
 ·by_cases aR:a=0
  ·by_cases au:b=0 <;> simp [aR,au]
  ·simp [aR]
 ·show (bif decide ((0:Int)<2) then _ else _)=_;have e:idx [a,b] 0=some a:=rfl;simp only [e,Option.bind_some];by_cases aR:a=0 <;> simp [aR];rfl
 ·show (bif decide ((1:Int)<2) then _ else _)=_;have e:idx [a,b] 1=some b:=rfl;simp only [e,Option.bind_some];by_cases au:b=0 <;> simp [au];rfl
 ·rfl
def DV (rows:List eJ) (a b:Int):Prop:=∃ x y,idx rows a=some x/\idx rows b=some y/\(y.length<x.length\/(x.length=y.length/\a<b))
theorem Fa {α:Type}{l:List α}{i:Int}(aT:0<=i) (h1:i<l.length):∃ y,idx l i=some y/\y∈l:=by
 have aQ:i.toNat<l.length:=by omega
 exact ⟨l[i.toNat],by simp [idx,aT,aQ],List.getElem_mem aQ⟩
theorem SV (rows:List eJ) (a b:Int) (aR:0<=a/\a<rows.length) (au:0<=b/\b<rows.length):∃ v,wb a b rows=some v/\(v<0↔DV rows a b):=by
 obtain ⟨x,J,_⟩:=Fa aR.1 aR.2;obtain ⟨y,av,_⟩:=Fa au.1 au.2;unfold wb;rw [J,av];simp only [Option.bind_some,SL,SX];have eH:DV rows a b↔(y.length<x.length\/(x.length=y.length/\a<b)):=by
  unfold DV;rw [J,av];constructor
  ·rintro ⟨x',y',cu,cd,h⟩;cases cu; cases cd; exact h
  ·intro h;exact ⟨x,y,rfl,rfl,h⟩
 refine ⟨_,rfl,?_⟩;rw [eH];by_cases h1:(y.length:Int)<x.length
 ·simp only [h1,if_true];rw [if_neg (by decide)];constructor
  ·intro _; exact .inl (by omega)
  ·intro _; decide
 ·by_cases af:(x.length:Int)<y.length
  ·simp only [h1,af,if_true,if_false];rw [if_neg (by decide)];constructor
   ·intro h; exact absurd h (by decide)
   ·rintro (h | ⟨h,_⟩) <;> omega
  ·simp only [h1,af,if_false,if_true];by_cases aI:a<b
   ·simp only [aI,if_true];constructor
    ·intro _; exact .inr ⟨by omega,trivial⟩
    ·intro _; decide
   ·simp only [aI,if_false];constructor
    ·intro h
     split at h <;> omega
    ·rintro (h | ⟨_,h⟩)
     ·omega
     ·exact h.elim
structure o7 (c:e4) (r:eJ) (i b:Nat) (v b4:List Int):Prop where
 len:v.length=b4.length
 lo:c.b7.length<=b4.length
 JO:∀ p∈r,b+p.At.toNat<b4.length
 hi:b4.length=c.b7.length\/∃ p∈r,b4.length=b+p.At.toNat+1
 gK:∀ p∈r,b4.getD (b+p.At.toNat) 0=(i:Int)+1
 wV:∀ k,(∀ p∈r,b+p.At.toNat≠k)->b4.getD k 0=c.b7.getD k 0
 val:∀ p∈r,v.getD (b+p.At.toNat) 0=p.cc
 DB:∀ k,(∀ p∈r,b+p.At.toNat≠k)->v.getD k 0=c.cc.getD k 0
structure Step (r:eJ) (i:Nat) (c fj:e4) (b:Nat):Prop where
 fit:Fit c.b7 r b
 least:∀ ec,ec<b->¬ Fit c.b7 r ec
 base:fj.c5=c.c5.set i (b:Int)
 put:o7 c r i b fj.cc fj.b7
theorem M1 {l m:List Int}(ai:l.length=m.length) (h:∀ k,l.getD k 0=m.getD k 0):l=m:=by
 apply List.ext_getElem ai;intro k h1 af;have:=h k;simpa [List.getD_eq_getElem?_getD,List.getElem?_eq_getElem h1,List.getElem?_eq_getElem af] using this
theorem Fit.same {gK:List Int}{r cW:eJ}(h:∀ p,p∈r↔p∈cW) {b:Nat}:Fit gK r b↔Fit gK cW b :=
 ⟨λf p ar=>f p ((h p).2 ar),λf p ar=>f p ((h p).1 ar)⟩
theorem o7.Bj {c:e4}{r cW:eJ}{i b:Nat}{v b4 fM p_:List Int}(ai:c.cc.length=c.b7.length) (hm:∀ p,p∈r↔p∈cW) (h:o7 c r i b v b4) (aL:o7 c cW i b fM p_):v=fM/\b4=p_:=by
 have le:∀ {r cW:eJ}{v b4 fM p_:List Int},(∀ p,p∈r↔p∈cW)->o7 c r i b v b4->o7 c cW i b fM p_->p_.length<=b4.length:=by
  intro r cW v b4 fM p_ hm h aL;rcases aL.hi with e | ⟨p,ar,e⟩
  ·rw [e]; exact h.lo
  ·have:=h.JO p ((hm p).2 ar); omega
 have hlen:b4.length=p_.length:=Nat.le_antisymm (le (λp=>(hm p).symm) aL h) (le hm h aL);refine ⟨M1 (by rw [h.len,aL.len,hlen]) λk=>?_,M1 hlen λk=>?_⟩
 ·by_cases hk:∃ p∈r,b+p.At.toNat=k
  ·obtain ⟨p,ar,rfl⟩:=hk;rw [h.val p ar,aL.val p ((hm p).1 ar)]
  ·have hk:∀ p∈r,b+p.At.toNat≠k:=λp ar e=>hk ⟨p,ar,e⟩;rw [h.DB k hk,aL.DB k λp ar=>hk p ((hm p).2 ar)]
 ·by_cases hk:∃ p∈r,b+p.At.toNat=k
  ·obtain ⟨p,ar,rfl⟩:=hk;rw [h.gK p ar,aL.gK p ((hm p).1 ar)]
  ·have hk:∀ p∈r,b+p.At.toNat≠k:=λp ar e=>hk ⟨p,ar,e⟩;rw [h.wV k hk,aL.wV k λp ar=>hk p ((hm p).2 ar)]
theorem Step.Bj {r cW:eJ}{i b ec:Nat}{c c1 c2:e4}(ai:c.cc.length=c.b7.length) (hm:∀ p,p∈r↔p∈cW) (h:Step r i c c1 b) (aL:Step cW i c c2 ec):b=ec/\c1=c2:=by
 have au:b=ec:=by
  rcases Nat.lt_trichotomy b ec with aQ | e | aQ
  ·exact absurd ((Fit.same hm).1 h.fit) (aL.least b aQ)
  ·exact e
  ·exact absurd ((Fit.same hm).2 aL.fit) (h.least ec aQ)
 subst au;obtain ⟨cu,cd⟩:=h.put.Bj ai hm aL.put;refine ⟨rfl,?_⟩;cases c1; cases c2;simp only at cu cd;have h1:=h.base;have af:=aL.base;simp only at h1 af;subst cu cd h1;rw [af]
inductive dt (rows:List eJ):List Nat->e4->Prop
 | nil:dt rows [] ⟨List.replicate rows.length 0,[],[]⟩
 | cons {i b:Nat}{l:List Nat}{c fj:e4}{r:eJ}(aj:rows[i]?=some r) (hi:i∉l) (h:dt rows l c) (aA:Step r i c fj b):dt rows (i::l) fj
theorem dt.len {rows:List eJ}{l:List Nat}{c:e4}(h:dt rows l c):c.cc.length=c.b7.length/\c.c5.length=rows.length:=by
 induction h with
 | nil=>simp
 | cons _ _ _ aA aU=>exact ⟨aA.put.len,by rw [aA.base,List.length_set]; exact aU.2⟩
theorem dt.Bj {rows KP:List eJ}(ai:rows.length=KP.length) (hm:∀ (i:Nat) (r cW:eJ),rows[i]?=some r->KP[i]?=some cW->∀ p,p∈r↔p∈cW) {l:List Nat}{c fj:e4}(h:dt rows l c) (aL:dt KP l fj):c=fj:=by
 induction h generalizing fj with
 | nil=>cases aL with | nil=>rw [ai]
 | cons aj hi h aA aU =>
  cases aL with
  | cons dN EI aL Wv =>
   have:=aU aL;subst this;exact (aA.Bj h.len.1 (hm _ _ _ aj dN) Wv).2
theorem dt.rest {rows:List eJ}{l:List Nat}{c:e4}(h:dt rows l c):∀ j,j<rows.length->j∉l->c.c5[j]?=some 0:=by
 induction h with
 | nil=>intro j ag _; simp [ag]
 | @cons i b l c fj r aj hi h aA aU =>
  intro j ag aE;rw [aA.base,List.getElem?_set_ne (by rintro rfl; exact aE (by simp))];exact aU j ag λbY=>aE (by simp [bY])
theorem pad (x y:Int) (K:Nat) (dj:aM (x+y)=(K:Int)) (acD:K<=1000000000) (v b4:List Int) (ai:v.length=b4.length) (au:b4.length<=1000000000) :
  Tot (b6 (R:=List Int × List Int) (λ(s:List Int × List Int) =>
(bif decide ((s.2.length:Int)<=aM (x+y)) then
(dc s.2 [0]).bind λc7 =>
(dc s.1 [0]).bind λgy =>
some (.inl (s.1++[0],s.2++[0]))
else
some (.inr (s.1,s.2)))) (v,b4)) λr=>r.1.length=r.2.length/\r.2.length=max b4.length (K+1)/\(∀ k,r.1.getD k 0=v.getD k 0)/\∀ k,r.2.getD k 0=b4.getD k 0:=by
 have app:∀ (l:List Int) k,(l++[0]).getD k 0=l.getD k 0:=by
  intro l k;rw [List.getD_eq_getElem?_getD,List.getD_eq_getElem?_getD];by_cases hk:k<l.length
  ·rw [List.getElem?_append_left hk]
  ·rw [List.getElem?_append_right (by omega),List.getElem?_eq_none (l:=l) (by omega)];by_cases aT:k - l.length=0
   ·rw [aT]; rfl
   ·rw [List.getElem?_eq_none (by simp; omega)]
 refine Tot.loop (λs=>s.1.length=s.2.length/\b4.length<=s.2.length/\s.2.length<=max b4.length (K+1)/\(∀ k,s.1.getD k 0=v.getD k 0)/\∀ k,s.2.getD k 0=b4.getD k 0) (λs=>(K+1) - s.2.length) ⟨ai,Nat.le_refl _,Nat.le_max_left _ _,λ_=>rfl,λ_=>rfl⟩ (by show (K+1) - b4.length<1000000000000000000; omega) λs aA=>?_;obtain ⟨h1,af,aI,bD,cF⟩:=aA;rw [dj];refine Tot.bm (λhle=>?_) (λacR=>.ao ⟨h1,?_,bD,cF⟩)
 ·refine .ay (Ξ:=λ_=>True) (Tot.ap (by simp [lim]; omega) trivial) λ_ _=>.ay (Ξ:=λ_=>True) (Tot.ap (by simp [lim]; omega) trivial) λ_ _=>.ao ⟨⟨?_,?_,?_,λk=>?_,λk=>?_⟩,?_⟩
  ·show (s.1++[0]).length=(s.2++[0]).length; simp [h1]
  ·show b4.length<=(s.2++[0]).length; simp; omega
  ·show (s.2++[0]).length<=_; simp; omega
  ·exact (app _ _).trans (bD k)
  ·exact (app _ _).trans (cF k)
  ·show (K+1) - (s.2++[0]).length<(K+1) - s.2.length;simp; omega
 ·show s.2.length=_; omega
theorem zh (l:List Int) (K k:Nat) (x:Int) (h:K<l.length):(l.set K x).getD k 0=if k=K then x else l.getD k 0:=by
 rw [List.getD_eq_getElem?_getD,List.getElem?_set];by_cases e:k=K
 ·subst e; simp [h]
 ·simp [e,Ne.symm e,List.getD_eq_getElem?_getD]
theorem o7.more {c:e4}{r:eJ}{p:b3}{i b:Nat}{v b4 fM p_:List Int}(h:o7 c r i b v b4) (ar:∀ q∈r,q.At.toNat≠p.At.toNat) (ai:fM.length=p_.length) (hlen:p_.length=max b4.length (b+p.At.toNat+1)) (hv:∀ k,fM.getD k 0=v.getD k 0) (aa:∀ k,p_.getD k 0=b4.getD k 0) :
  o7 c (r++[p]) i b (fM.set (b+p.At.toNat) p.cc) (p_.set (b+p.At.toNat) ((i:Int)+1)):=by
 have dj:b+p.At.toNat<p_.length:=by omega
 have mem:∀ {Q:b3->Prop},(∀ q∈r,Q q)->Q p->∀ q∈r++[p],Q q:=λh1 af q bg=>by
  rcases List.mem_append.1 bg with bg | bg
  ·exact h1 q bg
  ·rw [List.mem_singleton.1 bg]; exact af
 refine ⟨by simp [ai],?_,mem (λq bg=>?_) ?_,?_,mem (λq bg=>?_) ?_,λk hk=>?_,mem (λq bg=>?_) ?_,λk hk=>?_⟩
 ·rw [List.length_set]; have:=h.lo; omega
 ·rw [List.length_set]; have:=h.JO q bg; omega
 ·rw [List.length_set]; exact dj
 ·rw [List.length_set];by_cases hm:b4.length<=b+p.At.toNat+1
  ·exact .inr ⟨p,by simp,by omega⟩
  ·rcases h.hi with e | ⟨q,bg,e⟩
   ·exact .inl (by omega)
   ·exact .inr ⟨q,by simp [bg],by omega⟩
 ·rw [zh _ _ _ _ dj,if_neg (by have:=ar q bg; omega),aa]; exact h.gK q bg
 ·rw [zh _ _ _ _ dj,if_pos rfl]
 ·rw [zh _ _ _ _ dj,if_neg (λe=>hk p (by simp) e.symm),aa]; exact h.wV k λq bg=>hk q (by simp [bg])
 ·rw [zh _ _ _ _ (by rw [ai]; exact dj),if_neg (by have:=ar q bg; omega),hv]; exact h.val q bg
 ·rw [zh _ _ _ _ (by rw [ai]; exact dj),if_pos rfl]
 ·rw [zh _ _ _ _ (by rw [ai]; exact dj),if_neg (λe=>hk p (by simp) e.symm),hv]; exact h.DB k λq bg=>hk q (by simp [bg])
theorem o7.nil (c:e4) (i b:Nat) (ai:c.cc.length=c.b7.length):o7 c [] i b c.cc c.b7 :=
 ⟨ai,Nat.le_refl _,λ_ h=>absurd h (by simp),.inl rfl,λ_ h=>absurd h (by simp),λ_ _=>rfl,λ_ h=>absurd h (by simp),λ_ _=>rfl⟩
theorem Fit.M3 {gK:List Int}{r:eJ}{b:Nat}(h:gK.length<=b):Fit gK r b:=λp _=>by
 rw [List.getD_eq_getElem?_getD,List.getElem?_eq_none (by omega)]; rfl
theorem Qo {r:eJ}{k:Nat}(aj:iy r) (hk:k<r.length):∀ q∈r.take k,q.At.toNat≠(r[k]).At.toNat:=by
 intro q bg e;obtain ⟨j,ag,rfl⟩:=List.mem_iff_getElem.1 bg;rw [List.length_take] at ag;have e0:j<r.length:=by omega
 rw [List.getElem_take] at e;have h1:=aj.lX _ (List.getElem_mem e0);have af:=aj.lX _ (List.getElem_mem hk);have fr:=aj.nd;have:=(List.getElem_inj (h₀:=by simpa using e0) (h₁:=by simpa using hk) fr).1 (by simp only [List.getElem_map]; omega);omega
structure k9 (rows:List eJ):Prop where
 n:rows.length<=400
 rows:∀ r∈rows,iy r
structure u5 (rows:List eJ):Prop where
 n:rows.length<=1000
 r:∀ r∈rows,r.length<=1000
theorem Qj (rows:List eJ) (eH:u5 rows) (i:Nat) (r:eJ) (aj:rows[i]?=some r) (kc:iy r) (c:e4) (aa:c.b7.length<=900000) (aT:c.c5[i]?=some 0) (fits:List Int->eJ->Int->Option Bool)
  (aW:∀ b:Nat,b<=1000000->Tot (fits c.b7 r b) λx=>(x=true↔Fit c.b7 r b)) :
  Tot (b6 (R:=List Int) (λ(de:List Int) =>
(idx rows (i:Int)).bind λgm =>
(idx de (i:Int)).bind λfB =>
(fits c.b7 gm fB).bind λgu =>
(bif !gu then
(idx de (i:Int)).bind λgx =>
some (.inl (de.set (i:Int).toNat (aM (gx+1))))
else
some (.inr de))) c.c5) λB=>∃ b:Nat,B=c.c5.set i (b:Int)/\Fit c.b7 r b/\(∀ ec,ec<b->¬ Fit c.b7 r ec)/\b<=c.b7.length:=by
 have n1:i<c.c5.length:=(List.getElem?_eq_some_iff.1 aT).1;have r4:idx rows (i:Int)=some r:=by simp [idx,aj]
 have Wy:c.c5=c.c5.set i 0:=by
  apply List.ext_getElem?;intro k;rw [List.getElem?_set];by_cases e:i=k
  ·subst e; rw [aT]; simp [n1]
  ·simp [e]
 have key:Tot (b6 (R:=List Int) (λ(de:List Int) =>
(idx rows (i:Int)).bind λgm =>
(idx de (i:Int)).bind λfB =>
(fits c.b7 gm fB).bind λgu =>
(bif !gu then
(idx de (i:Int)).bind λgx =>
some (.inl (de.set (i:Int).toNat (aM (gx+1))))
else
some (.inr de))) (c.c5.set i 0)) λB=>∃ b:Nat,B=c.c5.set i (b:Int)/\Fit c.b7 r b/\(∀ ec,ec<b->¬ Fit c.b7 r ec)/\b<=c.b7.length:=by
  refine Tot.loop (λs=>∃ b:Nat,s=c.c5.set i (b:Int)/\(∀ ec,ec<b->¬ Fit c.b7 r ec)/\b<=c.b7.length) (λs=>c.b7.length+1 - (s.getD i 0).toNat) ⟨0,rfl,λec h=>absurd h (Nat.not_lt_zero _),Nat.zero_le _⟩ (by show c.b7.length+1 - _<1000000000000000000; omega) λs aA=>?_;obtain ⟨b,rfl,ai,au⟩:=aA;have WB:idx (c.c5.set i (b:Int)) (i:Int)=some (b:Int):=by
   simp [idx,n1]
  rw [r4,WB];refine Tot.aV (Tot.aV (.ay (aW b (by omega)) λx J=>?_));refine Tot.bB (λh=>Tot.aV (.ao ⟨⟨b+1,?_,λec l1=>?_,?_⟩,?_⟩)) (λh=>.ao ⟨b,rfl,J.1 (by simpa using h),ai,au⟩)
  ·have hw:aM ((b:Int)+1)=((b+1:Nat):Int):=by rw [cK]; omega
   rw [hw];show (c.c5.set i (b:Int)).set i _=_;rw [List.set_set]
  ·by_cases e:ec=b
   ·subst e;intro ud;rw [J.2 ud] at h; cases h
   ·exact ai ec (by omega)
  ·have:¬ c.b7.length<=b:=λaL=>by
    rw [J.2 (Fit.M3 aL)] at h; cases h
   omega
  ·have hw:aM ((b:Int)+1)=((b+1:Nat):Int):=by rw [cK]; omega
   rw [hw];show c.b7.length+1 - ((((c.c5.set i (b:Int)).set i ((b+1:Nat):Int)).getD i 0).toNat)<c.b7.length+1 - ((c.c5.set i (b:Int)).getD i 0).toNat;rw [List.set_set];have g:∀ x:Int,(c.c5.set i x).getD i 0=x:=λx=>by simp [List.getD_eq_getElem?_getD,n1]
   rw [g,g];have:¬ c.b7.length<=b:=λaL=>by
    rw [J.2 (Fit.M3 aL)] at h; cases h
   omega
 rw [<- Wy] at key;exact key
theorem PT (r:eJ) (kc:iy r) (kR:r.length<=1000) (i b:Nat) (hi:i<=100000) (c:e4) (gR:c.cc.length=c.b7.length) (aa:c.b7.length<=900000) (au:b<=c.b7.length)
  (f:List Int × List Int × Int->Option ((List Int × List Int × Int) ⊕ (List Int × List Int)))
  (aW:∀ (v b4:List Int) (k:Nat) (hk:k<r.length),f (v,b4,(k:Int))=(b6 (R:=List Int × List Int) (λ(s:List Int × List Int) =>
(bif decide ((s.2.length:Int)<=aM ((b:Int)+(r[k]).At)) then
(dc s.2 [0]).bind λc7 =>
(dc s.1 [0]).bind λgy =>
some (.inl (s.1++[0],s.2++[0]))
else
some (.inr (s.1,s.2)))) (v,b4)).bind λeo =>
(idx eo.2 (aM ((b:Int)+(r[k]).At))).bind λrE =>
(idx eo.1 (aM ((b:Int)+(r[k]).At))).bind λju =>
some (.inl (eo.1.set (aM ((b:Int)+(r[k]).At)).toNat (r[k]).cc,eo.2.set (aM ((b:Int)+(r[k]).At)).toNat (aM ((i:Int)+1)),aM ((k:Int)+1))))
  (he:∀ (v b4:List Int) (k:Int),¬ k<r.length->f (v,b4,k)=some (.inr (v,b4))) :
  Tot (b6 f (c.cc,c.b7,0)) λx=>o7 c r i b x.1 x.2/\x.2.length<=c.b7.length+1000:=by
 refine Tot.count (λs=>s.2.2) r.length (λs=>∃ k:Nat,k<=r.length/\s.2.2=(k:Int)/\o7 c (r.take k) i b s.1 s.2.1) ⟨0,Nat.zero_le _,rfl,o7.nil c i b gR⟩ (by show (r.length:Int) - 0<_; omega) λs aA=>?_;obtain ⟨v,b4,ke⟩:=s;obtain ⟨k,hk,rfl,b_⟩:=aA;simp only at b_ ⊢;by_cases aQ:k<r.length
 ·rw [aW v b4 k aQ];have ar:=kc.lX _ (List.getElem_mem aQ);have dj:aM ((b:Int)+(r[k]).At)=((b+(r[k]).At.toNat:Nat):Int):=by rw [cK]; omega
  have acJ:b4.length<=1000000:=by
   rcases b_.hi with e | ⟨q,bg,e⟩
   ·omega
   ·have:=kc.lX q (List.mem_of_mem_take bg);omega
  refine .ay (pad _ _ _ dj (by omega) v b4 b_.len (by omega)) λx J=>?_;obtain ⟨h1,af,aI,bD⟩:=J;rw [dj];have r5:b+(r[k]).At.toNat<x.2.length:=by omega
  have V9:b+(r[k]).At.toNat<x.1.length:=by omega
  rw [oQ r5,oQ V9];have WV:aM ((i:Int)+1)=(i:Int)+1:=by rw [cK]; omega
  have r':aM ((k:Int)+1)=((k+1:Nat):Int):=by rw [cK]; omega
  rw [WV,r'];refine Tot.aV (Tot.aV (.ao ⟨⟨k+1,by omega,rfl,?_⟩,?_,?_⟩))
  ·rw [List.take_add_one,List.getElem?_eq_getElem aQ];exact b_.more (Qo kc aQ) h1 af aI bD
  ·grind
  grind
 ·rw [he v b4 k (by omega)];have:k=r.length:=by omega
  subst this;rw [List.take_length] at b_;refine .ao ⟨b_,?_⟩;show b4.length<=c.b7.length+1000;rcases b_.hi with e | ⟨q,bg,e⟩
  ·omega
  ·have:=kc.lX q bg;omega
theorem iy.snoc {r:eJ}{p:b3}(h:iy r) (ar:0<=p.At/\p.At<=999) (aE:p.At∉r.map (·.At)):iy (r++[p]):=by
 refine ⟨λq bg=>?_,?_⟩
 ·rcases List.mem_append.1 bg with bg | bg
  ·exact h.lX q bg
  ·rw [List.mem_singleton.1 bg]; exact ar
 ·rw [List.map_append,List.nodup_append];refine ⟨h.nd,by simp,λa aR b au e=>?_⟩;have au:b∈[p.At]:=au;rw [List.mem_singleton.1 au] at e;exact aE (e ▸ aR)
theorem iy.nil:iy []:=⟨λ_ h=>absurd h (by simp),by simp⟩
theorem iy.bad {r:eJ}{k:Nat}(hk:k<r.length) (h:¬ (0<=(r[k]).At/\(r[k]).At<=999)\/(r[k]).At∈(r.take k).map (·.At)):¬ iy r:=by
 intro aj;rcases h with h | h
 ·exact h (aj.lX _ (List.getElem_mem hk))
 ·obtain ⟨q,bg,e⟩:=List.mem_map.1 h;exact Qo aj hk q bg (by have e:q.At=(r[k]).At:=e; rw [e])
theorem P6 {rows:List eJ}{r:eJ}(aj:r∈rows) (h:¬ iy r):¬ k9 rows:=λbY=>h (bY.rows r aj)
theorem Gj {r:eJ}{k:Nat}(h:k<r.length):r.take (k+1)=r.take k++[r[k]]:=by
 rw [List.take_add_one,List.getElem?_eq_getElem h]; rfl
theorem SU (rows:List eJ) (eH:u5 rows):Tot (Am rows) λc=>(c=true↔k9 rows):=by
 unfold Am;have aE:=eH.n;refine Tot.bm (λh=>.ao ⟨λh=>(by cases h),λbY=>by have:=bY.n; omega⟩) (λUk=>?_);refine Tot.ay (Tot.scan rows iy (λx:Bool=>x=false/\¬ k9 rows) (by omega) (λs r aT h1 hi hm=>?_) (λs aA=>by simp [aA])) λx J=>?_
 ·refine Tot.bm (λ_=>?_) (λh=>absurd h1 h);rw [hi];have kR:=eH.r r hm;refine Tot.aV (.ay (Ξ:=hG (λ_=>iy r) (λx:Bool=>x=false/\¬ k9 rows)) ?_ λx J=>?_)
  ·refine Tot.count (λs=>s.2) r.length (λs=>∃ k:Nat,k<=r.length/\s.2=(k:Int)/\s.1.length=1000/\iy (r.take k)/\∀ j,j<1000->(s.1.getD j false=true↔(j:Int)∈(r.take k).map (·.At))) ⟨0,Nat.zero_le _,rfl,List.length_replicate ..,iy.nil,λj ag=>by
   show ((List.replicate 1000 false).getD j false=true↔_);rw [List.getD_eq_getElem?_getD,List.getElem?_replicate,if_pos ag];simp⟩ (by show (r.length:Int) - 0<_; omega) λs aA=>?_
   obtain ⟨met,ke⟩:=s;obtain ⟨k,hk,rfl,vx,cQ,I9⟩:=aA;simp only at vx I9 ⊢;refine Tot.bm (λaQ=>?_) (λdG=>.ao ?_)
   ·have aQ:k<r.length:=by omega
    rw [oQ aQ];have hw:aM ((k:Int)+1)=((k+1:Nat):Int):=by rw [cK]; omega
    rw [hw];have ek:0<=(r[k]).At/\(r[k]).At<=999->xy 1000 met (r[k]).At=some (met.getD (r[k]).At.toNat false):=by
     intro h;unfold xy;rw [if_pos (by omega)];have:(r[k]).At.toNat<met.length:=by omega
     simp [idx,h.1,this,List.getD_eq_getElem?_getD]
    refine Tot.aV (.ay (Ξ:=λc=>(c=true↔(¬ (0<=(r[k]).At/\(r[k]).At<=999)\/(r[k]).At∈(r.take k).map (·.At)))) ?_ λc aa=>Tot.bB (λh=>.ao ⟨rfl,P6 hm (iy.bad aQ (aa.1 h))⟩) (λh=>?_))
    ·refine Tot.bm (λh=>.ao ⟨λ_=>.inl (by omega),λ_=>rfl⟩) (λh=>Tot.bm (λaL=>.ao ⟨λ_=>.inl (by omega),λ_=>rfl⟩) (λaL=>?_));have ar:0<=(r[k]).At/\(r[k]).At<=999:=by omega
     rw [ek ar];refine Tot.aV (.ao ?_);rw [I9 _ (by omega)];have e:(((r[k]).At.toNat:Nat):Int)=(r[k]).At:=by omega
     rw [e];exact ⟨λh=>.inr h,λh=>h.resolve_left λaE=>aE ar⟩
    ·have IP:(0<=(r[k]).At/\(r[k]).At<=999)/\(r[k]).At∉(r.take k).map (·.At):=by
      refine ⟨Classical.byContradiction λaE=>?_,λaE=>?_⟩
      ·rw [aa.2 (.inl aE)] at h; cases h
      ·rw [aa.2 (.inr aE)] at h; cases h
     obtain ⟨ar,aE⟩:=IP;rw [ek ar];refine Tot.aV (.ao ⟨⟨k+1,by omega,rfl,by show (met.set _ _).length=_; simp [vx],?_,λj ag=>?_⟩,?_,?_⟩)
     ·rw [Gj aQ]; exact cQ.snoc ar aE
     ·show ((met.set (r[k]).At.toNat true).getD j false=true↔_);rw [Gj aQ,List.map_append,List.mem_append,List.getD_eq_getElem?_getD,List.getElem?_set];by_cases e:(r[k]).At.toNat=j
      ·subst e;have ai:(r[k]).At.toNat<met.length:=by omega
       have cd:(((r[k]).At.toNat:Nat):Int)=(r[k]).At:=by omega
       rw [if_pos rfl,if_pos ai,cd];simp
      ·rw [if_neg e,<- List.getD_eq_getElem?_getD,I9 j ag];constructor
       ·exact .inl
       ·rintro (h | h)
        ·exact h
        ·have h:(j:Int)∈[(r[k]).At]:=h;have:=List.mem_singleton.1 h;omega
     ·show (k:Int)<((k+1:Nat):Int); omega
     ·show ((k+1:Nat):Int)<=_; omega
   ·have:k=r.length:=by omega
    subst this;rw [List.take_length] at cQ;exact cQ
  ·rcases x with _ | x
   ·exact .ao ⟨by rw [cK]; omega,J⟩
   ·exact .ao J
 ·rcases x with _ | x
  ·have J:∀ r∈rows,iy r:=J;exact .ao ⟨λ_=>⟨by omega,J⟩,λ_=>rfl⟩
  ·obtain ⟨rfl,au⟩:x=false/\¬ k9 rows:=J;exact .ao ⟨λh=>(by cases h),λh=>absurd h au⟩
theorem SN (rows:List eJ) (eH:u5 rows):Tot (C_ rows) λc=>(c=true↔k9 rows):=by
 unfold C_;have aE:=eH.n;refine Tot.bm (λh=>.ao ⟨λh=>(by cases h),λbY=>by have:=bY.n; omega⟩) (λUk=>?_);refine Tot.ay (Tot.scan rows iy (λx:Bool=>x=false/\¬ k9 rows) (by omega) (λs r aT h1 hi hm=>?_) (λs aA=>by simp [aA])) λx J=>?_
 ·refine Tot.bm (λ_=>?_) (λh=>absurd h1 h);have kR:=eH.r r hm;refine .ay (Ξ:=hG (λ_=>iy r) (λx:Bool=>x=false/\¬ k9 rows)) ?_ λx J=>?_
  ·refine Tot.count (λs=>s.2) r.length (λs=>∃ k:Nat,k<=r.length/\s.2=(k:Int)/\iy (r.take k)/\s.1=(r.take k).map (·.At)) ⟨0,Nat.zero_le _,rfl,iy.nil,rfl⟩ (by show (r.length:Int) - 0<_; omega) λs aA=>?_;obtain ⟨l,ke⟩:=s;obtain ⟨k,hk,rfl,cQ,rfl⟩:=aA;simp only;rw [hi];refine Tot.aV (Tot.bm (λaQ=>?_) (λdG=>.ao ?_))
   ·have aQ:k<r.length:=by omega
    have hw:aM ((k:Int)+1)=((k+1:Nat):Int):=by rw [cK]; omega
    rw [hw];simp only [Option.bind_some,oQ aQ];have I6:((r.take k).map (·.At)).length<=1000:=by rw [List.length_map,List.length_take]; omega
    refine .ay (Ξ:=λc=>(c=true↔(¬ (0<=(r[k]).At/\(r[k]).At<=999)\/(r[k]).At∈(r.take k).map (·.At)))) ?_ λc aa=>Tot.bB (λh=>.ao ⟨rfl,P6 hm (iy.bad aQ (aa.1 h))⟩) (λh=>?_)
    ·refine Tot.bm (λh=>.ao ⟨λ_=>.inl (by omega),λ_=>rfl⟩) (λh=>Tot.bm (λaL=>.ao ⟨λ_=>.inl (by omega),λ_=>rfl⟩) (λaL=>?_));have ar:0<=(r[k]).At/\(r[k]).At<=999:=by omega
     refine .ay (SQ _ (r[k]).At (by omega)) λc aa=>.ao ?_;rw [aa];exact ⟨λh=>.inr h,λh=>h.resolve_left λaE=>aE ar⟩
    ·have IP:(0<=(r[k]).At/\(r[k]).At<=999)/\(r[k]).At∉(r.take k).map (·.At):=by
      refine ⟨Classical.byContradiction λaE=>?_,λaE=>?_⟩
      ·rw [aa.2 (.inl aE)] at h; cases h
      ·rw [aa.2 (.inr aE)] at h; cases h
     obtain ⟨ar,aE⟩:=IP;refine .ay (Ξ:=λ_=>True) (Tot.ap (by simp [lim]; omega) trivial) λ_ _=>.ao ⟨⟨k+1,by omega,rfl,?_,?_⟩,?_,?_⟩
     ·rw [Gj aQ]; exact cQ.snoc ar aE
     ·show (r.take k).map (·.At)++[(r[k]).At]=_;rw [Gj aQ,List.map_append]; rfl
     ·show (k:Int)<((k+1:Nat):Int); omega
     ·show ((k+1:Nat):Int)<=_; omega
   ·have:k=r.length:=by omega
    subst this;rw [List.take_length] at cQ;exact cQ
  ·rcases x with _ | x
   ·exact .ao ⟨by rw [cK]; omega,J⟩
   ·exact .ao J
 ·rcases x with _ | x
  ·have J:∀ r∈rows,iy r:=J;exact .ao ⟨λ_=>⟨by omega,J⟩,λ_=>rfl⟩
  ·obtain ⟨rfl,au⟩:x=false/\¬ k9 rows:=J;exact .ao ⟨λh=>(by cases h),λh=>absurd h au⟩
def jb (rows:List eJ) (a:Int):Nat:=((idx rows a).map List.length).getD 0
def hM (rows:List eJ) (a b:Int):Bool:=decide (jb rows b<jb rows a\/(jb rows a=jb rows b/\a<b))
theorem O' {rows:List eJ}{a b:Int}:hM rows a b=true↔(jb rows b<jb rows a\/(jb rows a=jb rows b/\a<b)):=by simp [hM]
theorem CD {rows:List eJ}{a b:Int}:hM rows a b=false↔¬ (jb rows b<jb rows a\/(jb rows a=jb rows b/\a<b)):=by simp [hM]
theorem Ka (rows:List eJ):SWO (hM rows) where
 irrefl x:=by rw [CD]; omega
 trans x y z h1 af:=by rw [O'] at *; omega
 ntrans x y z h1 af:=by rw [CD] at *; omega
theorem Kb {rows:List eJ}{a b:Int}(h1:hM rows a b=false) (af:hM rows b a=false):a=b:=by
 rw [CD] at *; omega
theorem Mx (rows:List eJ) (a b:Int) (aR:0<=a/\a<rows.length) (au:0<=b/\b<rows.length):∃ v,wb a b rows=some v/\(v<0↔hM rows a b=true):=by
 obtain ⟨v,hv,h⟩:=SV rows a b aR au;refine ⟨v,hv,h.trans ?_⟩;obtain ⟨x,J,_⟩:=Fa aR.1 aR.2;obtain ⟨y,av,_⟩:=Fa au.1 au.2;rw [O'];unfold DV jb;rw [J,av];constructor
 ·rintro ⟨x',y',cu,cd,h⟩;cases cu; cases cd; exact h
 ·intro h;exact ⟨x,y,rfl,rfl,h⟩
theorem Cm {α:Type}{lt lt':α->α->Bool}(x:α):∀ l:List α,(∀ y∈l,lt y x=lt' y x)->ins lt x l=ins lt' x l
 | [],_=>rfl
 | y::l,h=>by
  simp only [ins,h y (by simp)];rw [Cm x l λz aX=>h z (by simp [aX])]
theorem Co {α:Type}{lt lt':α->α->Bool}:∀ l:List α,(∀ a∈l,∀ b∈l,lt a b=lt' a b)->h7 lt l=h7 lt' l
 | [],_=>rfl
 | x::l,h=>by
  simp only [h7];rw [Co l λa aR b au=>h a (by simp [aR]) b (by simp [au])];exact Cm x _ λy av=>h y (by simp [(sX lt' l).mem_iff.1 av]) x (by simp)
structure kI (rows:List eJ) (o:List Nat):Prop where
 mem:∀ i,i∈o↔∃ r,rows[i]?=some r/\r≠[]
 nd:o.Nodup
 Av:o.Pairwise λ(a b:Nat)=>hM rows (b:Int) (a:Int)=false
theorem kI.uniq {rows:List eJ}{o gb:List Nat}(h:kI rows o) (aL:kI rows gb):o=gb :=
 List.Perm.eq_of_pairwise (le:=λ(a b:Nat)=>hM rows (b:Int) (a:Int)=false) (λa b _ _ h1 af=>by have:=Kb af h1; omega) h.Av aL.Av ((List.perm_ext_iff_of_nodup h.nd aL.nd).2 λi=>(h.mem i).trans (aL.mem i).symm)
theorem kI.lt {rows:List eJ}{o:List Nat}(h:kI rows o) {i:Nat}(hi:i∈o):i<rows.length:=by
 obtain ⟨r,aj,_⟩:=(h.mem i).1 hi;exact (List.getElem?_eq_some_iff.1 aj).1
theorem kI.len {rows:List eJ}{o:List Nat}(h:kI rows o):o.length<=rows.length:=by
 have:∀ (l m:List Nat),l.Nodup->(∀ x∈l,x∈m)->l.length<=m.length:=by
  intro l
  induction l with
  | nil=>intro m _ _; exact Nat.zero_le _
  | cons x l aU =>
   intro m aS hm;have J:=hm x (by simp);have mu:=List.nodup_cons.1 aS;have:=aU (m.erase x) mu.2 λy av=>(List.mem_erase_of_ne (λe=>mu.1 (by rw [<- e]; exact av))).2 (hm y (by simp [av]));have ai:=List.length_erase_of_mem J;have ar:=List.length_pos_of_mem J;simp only [List.length_cons];omega
 have:=this o (List.range rows.length) h.nd λx J=>by simpa using h.lt J
 simpa using this
theorem Zf (rows:List eJ) (l:List Int) (ai:∀ a∈l,0<=a/\a<rows.length) (aE:l.length<=100000):pP (λa b=>wb a b rows) l=some (h7 (hM rows) l):=by
 have aQ:∀ a∈l,∀ b∈l,kx (λa b=>wb a b rows) a b=hM rows a b:=by
  intro a aR b au;obtain ⟨v,hv,h⟩:=Mx rows a b (ai a aR) (ai b au);unfold kx;simp only [hv,Option.getD_some];cases hk:hM rows a b with
  | true=>exact decide_eq_true (h.2 hk)
  | false=>exact decide_eq_false λbY=>by rw [h.1 bY] at hk; cases hk
 unfold pP;rw [if_pos]
 ·rw [Co l aQ]
 ·simp only [Bool.and_eq_true,decide_eq_true_eq,List.all_eq_true];refine ⟨⟨λa aR b au=>?_,?_⟩,by omega⟩
  ·obtain ⟨v,hv,_⟩:=Mx rows a b (ai a aR) (ai b au);rw [hv]; rfl
  ·unfold zU;simp only [List.all_eq_true,Bool.and_eq_true,Bool.or_eq_true,Bool.not_eq_true',decide_eq_true_eq];have bk:=Ka rows;intro a aR;refine ⟨by rw [aQ a aR a aR]; exact bk.irrefl a,λb au=>⟨?_,λc aa=>⟨?_,?_⟩⟩⟩
   ·rw [aQ a aR b au,aQ b au a aR];cases h1:hM rows a b with
    | true=>exact .inl (.inl rfl)
    | false =>
     cases af:hM rows b a with
     | true=>exact .inl (.inr rfl)
     | false=>exact .inr (Kb h1 af)
   ·rw [aQ a aR b au,aQ b au c aa,aQ a aR c aa];cases h1:hM rows a b with
    | false=>exact .inl rfl
    | true =>
     cases af:hM rows b c with
     | false=>exact .inl rfl
     | true=>exact .inr (bk.trans _ _ _ h1 af)
   ·rw [aQ a aR b au,aQ b au c aa,aQ a aR c aa];cases h1:hM rows a b with
    | true=>exact .inl (.inl rfl)
    | false =>
     cases af:hM rows b c with
     | true=>exact .inl (.inr rfl)
     | false=>exact .inr (bk.ntrans _ _ _ h1 af)
theorem Mv (rows:List eJ) (eH:u5 rows):Tot (Ah rows) λc=>(¬ k9 rows->c=⟨[],[],[]⟩)/\(k9 rows->c.b7.length<=900000/\∃ o,kI rows o/\dt rows o.reverse c):=by
 unfold Ah;refine .ay (SU rows eH) λa8 h1=>Tot.bB (λh=>.ao ⟨λ_=>rfl,λcQ=>by rw [h1.2 cQ] at h; cases h⟩) (λh=>?_);have cQ:k9 rows:=h1.1 (by simpa using h);refine Tot.use (Φ:=λc=>(¬ k9 rows->c=⟨[],[],[]⟩)/\(k9 rows->c.b7.length<=900000/\∃ o,kI rows o/\dt rows o.reverse c)) (Ψ:=λc=>c.b7.length<=900000/\∃ o,kI rows o/\dt rows o.reverse c) ?_ λc aa=>⟨λaE=>absurd cQ aE,λ_=>aa⟩;have aE:=cQ.n;refine .ay (Ξ:=λl=>l=List.replicate rows.length 0) (Tot.mk (by simp [lim]; omega) (by simp)) λa7 aI=>?_;subst aI;refine .ay (Ξ:=λl=>∃ o:List Nat,l=o.map (λ(j:Nat)=>(j:Int))/\o.Nodup/\o.length<=400/\∀ j,j∈o↔∃ r,rows[j]?=some r/\r≠[]) ?_ λbQ cF=>?_
 ·refine Tot.count (λs=>s.2) rows.length (λs=>∃ k:Nat,k<=rows.length/\s.2=(k:Int)/\∃ o:List Nat,s.1=o.map (λ(j:Nat)=>(j:Int))/\o.Nodup/\o.length<=k/\∀ j,j∈o↔j<k/\∃ r,rows[j]?=some r/\r≠[]) ⟨0,Nat.zero_le _,rfl,[],rfl,List.nodup_nil,Nat.le_refl 0,λj=>by simp⟩ (by show (rows.length:Int) - 0<_; omega) λs aA=>?_;obtain ⟨l,ke⟩:=s;obtain ⟨k,hk,rfl,o,rfl,fr,uh,hm⟩:=aA;simp only;have hw:aM ((k:Int)+1)=((k+1:Nat):Int):=by rw [cK]; omega
  rw [hw];refine Tot.bm (λaQ=>?_) (λdG=>.ao ⟨o,rfl,fr,by omega,λj=>?_⟩)
  ·have aQ:k<rows.length:=by omega
   rw [oQ aQ];have n4:rows[k]?=some rows[k]:=List.getElem?_eq_getElem aQ;have I1:k∉o:=λh=>by have:=((hm k).1 h).1; omega
   refine .ay (Ξ:=λl=>∃ gb:List Nat,l=gb.map (λ(j:Nat)=>(j:Int))/\gb.Nodup/\gb.length<=k+1/\∀ j,j∈gb↔j<k+1/\∃ r,rows[j]?=some r/\r≠[]) ?_ λl ai=>.ao ⟨⟨k+1,by omega,rfl,ai⟩,?_,?_⟩
   ·refine Tot.aV (.ay (Ξ:=λl=>∃ gb:List Nat,l=gb.map (λ(j:Nat)=>(j:Int))/\gb.Nodup/\gb.length<=k+1/\∀ j,j∈gb↔j<k+1/\∃ r,rows[j]?=some r/\r≠[]) ?_ λl ai=>.ao ai);refine Tot.bm (λar=>?_) (λar=>.ao ⟨o,rfl,fr,by omega,λj=>?_⟩)
    ·refine .ay (Ξ:=λ_=>True) (Tot.ap (by simp [lim]; omega) trivial) λ_ _=>.ao ⟨o++[k],by simp,?_,by simp; omega,λj=>?_⟩
     ·rw [List.nodup_append];exact ⟨fr,by simp,λa aR b au e=>I1 (by rw [<- List.mem_singleton.1 au,<- e]; exact aR)⟩
     ·rw [List.mem_append,hm j,List.mem_singleton];constructor
      ·rintro (⟨h1,af⟩ | rfl)
       ·exact ⟨by omega,af⟩
       ·exact ⟨by omega,_,n4,λe=>by rw [e] at ar; simp at ar⟩
      ·rintro ⟨h1,af⟩;by_cases e:j=k
       ·exact .inr e
       ·exact .inl ⟨by omega,af⟩
    ·rw [hm j];constructor
     ·rintro ⟨h1,af⟩;exact ⟨by omega,af⟩
     ·rintro ⟨h1,r,af,aI⟩;refine ⟨?_,r,af,aI⟩;have:j≠k:=by
       rintro rfl;rw [n4] at af; cases af;have:(rows[j]).length≠0:=λe=>aI (List.eq_nil_of_length_eq_zero e);omega
      omega
   ·show (k:Int)<((k+1:Nat):Int); omega
   ·show ((k+1:Nat):Int)<=_; omega
  ·have:k=rows.length:=by omega
   subst this;rw [hm j];constructor
   ·exact λh=>h.2
   ·rintro ⟨r,aj,h⟩;exact ⟨(List.getElem?_eq_some_iff.1 aj).1,r,aj,h⟩
 obtain ⟨zR,rfl,We,adb,zv⟩:=cF;have vt:∀ a∈zR.map (λ(j:Nat)=>(j:Int)),0<=a/\a<rows.length:=by
  intro a aR;obtain ⟨j,ag,rfl⟩:=List.mem_map.1 aR;obtain ⟨r,aj,_⟩:=(zv j).1 ag;have:=(List.getElem?_eq_some_iff.1 aj).1;omega
 rw [Zf rows _ vt (by simp; omega)];refine Tot.aV ?_
 -- the order, az places
 obtain ⟨o,aY,hOr⟩:∃ o:List Nat,h7 (hM rows) (zR.map λ(j:Nat)=>(j:Int))=o.map (λ(j:Nat)=>(j:Int))/\kI rows o:=by
  refine ⟨h7 (λa b:Nat=>hM rows (a:Int) (b:Int)) zR,?_,?_⟩
  ·exact (Fb (lt:=λa b:Nat=>hM rows (a:Int) (b:Int)) (lt':=hM rows) (f:=λ(j:Nat)=>(j:Int)) (λa b=>rfl) zR).symm
  ·have bk:=Ka rows;have ar:=sX (λa b:Nat=>hM rows (a:Int) (b:Int)) zR;refine ⟨λi=>(ar.mem_iff).trans (zv i),ar.nodup_iff.2 We,?_⟩;have aA:=Fc (lt:=λa b:Nat=>hM rows (a:Int) (b:Int)) ⟨λx=>bk.irrefl _,λx y z=>bk.trans _ _ _,λx y z=>bk.ntrans _ _ _⟩ zR;exact aA.imp λh=>by simpa using h
 rw [aY];have uh:=hOr.len;refine .ay (Ξ:=λc=>c.b7.length<=900000/\∃ o,kI rows o/\dt rows o.reverse c) ?_ λc aa=>.ao aa;refine Tot.count (λs=>s.2) o.length (λs=>∃ k:Nat,k<=o.length/\s.2=(k:Int)/\s.1.b7.length<=1000 * k/\dt rows (o.take k).reverse s.1) ⟨0,Nat.zero_le _,rfl,Nat.le_refl 0,.nil⟩ (by show (o.length:Int) - 0<_; omega) λs aA=>?_;obtain ⟨c,ke⟩:=s;obtain ⟨k,hk,rfl,gR,hr⟩:=aA;simp only at gR hr ⊢;have hw:aM ((k:Int)+1)=((k+1:Nat):Int):=by rw [cK]; omega
 rw [hw];refine Tot.bm (λaQ=>?_) (λdG=>.ao ⟨by show c.b7.length<=900000; omega,o,hOr,?_⟩)
 ·rw [List.length_map] at aQ;have aQ:k<o.length:=by omega
  have IT:idx (o.map λ(j:Nat)=>(j:Int)) (k:Int)=some ((o[k]:Nat):Int):=by
   rw [oQ (by simpa using aQ)]; simp
  rw [IT];generalize hi:o[k]=i;have N9:i∈o:=by rw [<- hi]; exact List.getElem_mem aQ
  obtain ⟨r,aj,Jj⟩:=(hOr.mem i).1 N9;have EJ:=hOr.lt N9;have uj:r∈rows:=List.mem_of_getElem? aj;have kc:=cQ.rows r uj;have kR:=eH.r r uj;have BX:i∉(o.take k).reverse:=by
   rw [List.mem_reverse];intro h;obtain ⟨j,ag,e⟩:=List.mem_iff_getElem.1 h;rw [List.length_take] at ag;rw [List.getElem_take] at e;have:=(List.getElem_inj (i:=j) (j:=k) (h₀:=by omega) (h₁:=aQ) hOr.nd).1 (by rw [e,hi]);omega
  have hlen:=hr.len;refine Tot.aV (.ay (Qj rows eH i r aj kc c (by omega) (hr.rest i EJ BX) x8 λb au=>SY c.b7 r b kc.lX (by omega) (by omega) (by omega)) λB H'=>?_);obtain ⟨b,rfl,ud,I5,pn⟩:=H';have r4:idx rows (i:Int)=some r:=by simp [idx,aj]
  rw [r4];refine Tot.aV (.ay (PT r kc kR i b (by omega) c hlen.1 (by omega) pn _ (λv b4 k hk=>?_) (λv b4 k hk=>?_)) λx J=>?_)
  ·have t_:idx (c.c5.set i (b:Int)) (i:Int)=some (b:Int):=by
    have:i<c.c5.length:=by omega
    simp [idx,this]
   have aS:decide ((k:Int)<(r.length:Int))=true:=decide_eq_true (by omega);simp only [aS,cond_true,oQ hk,t_,Option.bind_some]
  ·have aS:decide ((k:Int)<(r.length:Int))=false:=decide_eq_false hk;simp only [aS,cond_false]
  ·obtain ⟨b_,ai⟩:=J;refine .ao ⟨⟨k+1,by omega,rfl,?_,?_⟩,?_,?_⟩
   ·show x.2.length<=1000 * (k+1); omega
   ·rw [List.take_add_one,List.getElem?_eq_getElem aQ,hi];show dt rows ((o.take k)++[i]).reverse _;rw [List.reverse_append];exact .cons aj BX hr ⟨ud,I5,rfl,b_⟩
   ·show (k:Int)<((k+1:Nat):Int); omega
   ·show ((k+1:Nat):Int)<=_; omega
 ·rw [List.length_map] at dG;have:k=o.length:=by omega
  subst this;rw [List.take_length] at hr;exact hr
def zQ (b4:List Int):List Nat:=(List.range b4.length).filter λk=>decide (b4.getD k 0≠0)
def PY (rows:List eJ) (i:Nat):Nat:=(rows[i]?.map List.length).getD 0
structure Inv (rows:List eJ) (l:List Nat) (c:e4):Prop where
 own:∀ i∈l,∃ (r:eJ) (b:Nat),rows[i]?=some r/\c.c5[i]?=some (b:Int)/\∀ p∈r,b+p.At.toNat<c.b7.length/\c.b7.getD (b+p.At.toNat) 0=(i:Int)+1/\c.cc.getD (b+p.At.toNat) 0=p.cc
 Lb:∀ k,c.b7.getD k 0≠0->∃ i∈l,∃ (r:eJ) (b:Nat),rows[i]?=some r/\c.c5[i]?=some (b:Int)/\∃ p∈r,k=b+p.At.toNat/\c.b7.getD k 0=(i:Int)+1
 zero:∀ k,c.b7.getD k 0=0->c.cc.getD k 0=0
 last:c.b7.length=0\/c.b7.getD (c.b7.length - 1) 0≠0
 least:∀ i∈l,∀ b:Nat,c.c5[i]?=some (b:Int)->∀ ec,ec<b->∃ (r:eJ) (p:b3) (oP:Nat),rows[i]?=some r/\p∈r/\oP∈l/\hM rows (oP:Int) (i:Int)=true/\c.b7.getD (ec+p.At.toNat) 0=(oP:Int)+1
 hg:(zQ c.b7).length=(l.map (PY rows)).sum
theorem Kg {b4:List Int}{k:Nat}:k∈zQ b4↔b4.getD k 0≠0:=by
 unfold zQ;rw [List.mem_filter,List.mem_range];constructor
 ·intro h; simpa using h.2
 ·intro h;refine ⟨Classical.byContradiction λhk=>h ?_,by simpa using h⟩;rw [List.getD_eq_getElem?_getD,List.getElem?_eq_none (by omega)]; rfl
theorem Pc (b4:List Int):(zQ b4).Nodup:=List.nodup_range.sublist List.filter_sublist
theorem dt.inv {rows:List eJ}(cQ:k9 rows) {l:List Nat}{c:e4}(h:dt rows l c) (Jg:l.Pairwise λ(a b:Nat)=>hM rows (a:Int) (b:Int)=false):Inv rows l c:=by
 induction h with
 | nil=>exact ⟨λ_ h=>absurd h (by simp),λk h=>absurd rfl h,λ_ _=>rfl,.inl rfl,λ_ h=>absurd h (by simp),rfl⟩
 | @cons i b l c fj r aj hi hr aA aU =>
  have Ot:=List.pairwise_cons.1 Jg;have I:=aU Ot.2;have kc:=cQ.rows r (List.mem_of_getElem? aj);have b_:=aA.put;have hlen:=hr.len;have n1:i<c.c5.length:=by rw [hlen.2]; exact (List.getElem?_eq_some_iff.1 aj).1
  have t_:fj.c5[i]?=some (b:Int):=by rw [aA.base]; simp [n1]
  have xc:∀ j,j≠i->fj.c5[j]?=c.c5[j]?:=λj ag=>by rw [aA.base,List.getElem?_set_ne (Ne.symm ag)]
  have da:∀ j∈l,j≠i:=λj ag e=>hi (e ▸ ag);have free:∀ k,c.b7.getD k 0≠0->∀ p∈r,b+p.At.toNat≠k:=λk hk p ar e=>hk (e ▸ aA.fit p ar);have keep:∀ k,c.b7.getD k 0≠0->fj.b7.getD k 0=c.b7.getD k 0:=λk hk=>b_.wV k (free k hk);refine ⟨λj ag=>?_,λk hk=>?_,λk hk=>?_,?_,λj ag gP nw ec aQ=>?_,?_⟩
  ·rcases List.mem_cons.1 ag with rfl | ag
   ·exact ⟨r,b,aj,t_,λp ar=>⟨b_.JO p ar,b_.gK p ar,b_.val p ar⟩⟩
   ·obtain ⟨cW,ec,h1,af,aI⟩:=I.own j ag;refine ⟨cW,ec,h1,by rw [xc j (da j ag)]; exact af,λp ar=>?_⟩;obtain ⟨g1,g2,g3⟩:=aI p ar;have On:c.b7.getD (ec+p.At.toNat) 0≠0:=by rw [g2]; omega
    exact ⟨Nat.lt_of_lt_of_le g1 b_.lo,by rw [keep _ On]; exact g2,by rw [b_.DB _ (free _ On)]; exact g3⟩
  ·by_cases ar:∃ p∈r,b+p.At.toNat=k
   ·obtain ⟨p,ar,rfl⟩:=ar;exact ⟨i,by simp,r,b,aj,t_,p,ar,rfl,b_.gK p ar⟩
   ·have e:=b_.wV k λp B3 e=>ar ⟨p,B3,e⟩;rw [e] at hk ⊢;obtain ⟨j,ag,cW,ec,h1,af,aI⟩:=I.Lb k hk;exact ⟨j,by simp [ag],cW,ec,h1,by rw [xc j (da j ag)]; exact af,aI⟩
  ·by_cases ar:∃ p∈r,b+p.At.toNat=k
   ·obtain ⟨p,ar,rfl⟩:=ar;rw [b_.gK p ar] at hk; omega
   ·have aE:∀ p∈r,b+p.At.toNat≠k:=λp B3 e=>ar ⟨p,B3,e⟩;rw [b_.wV k aE] at hk;rw [b_.DB k aE];exact I.zero k hk
  ·rcases b_.hi with e | ⟨p,ar,e⟩
   ·rcases I.last with aT | aT
    ·exact .inl (by omega)
    ·exact .inr (by rw [e,keep _ aT]; exact aT)
   ·refine .inr ?_;rw [e];show fj.b7.getD (b+p.At.toNat+1 - 1) 0≠0;rw [Nat.add_sub_cancel,b_.gK p ar]; omega
  ·rcases List.mem_cons.1 ag with rfl | ag
   ·rw [t_] at nw;have iL:b=gP:=by injection nw with e; omega
    subst iL;have Om:=aA.least ec aQ;obtain ⟨p,ar,aX⟩:∃ p∈r,c.b7.getD (ec+p.At.toNat) 0≠0 :=
     Classical.byContradiction λaE=>Om λp ar=>Classical.byContradiction λaX=>aE ⟨p,ar,aX⟩
    obtain ⟨oP,EI,_,_,_,_,_,_,_,e⟩:=I.Lb _ aX;refine ⟨r,p,oP,aj,ar,by simp [EI],?_,by rw [keep _ aX]; exact e⟩;have h1:=Ot.1 oP EI;cases af:hM rows (oP:Int) (j:Int) with
    | true=>rfl
    | false=>exact absurd (Kb af h1) (by have:=da oP EI; omega)
   ·rw [xc j (da j ag)] at nw;obtain ⟨cW,p,oP,h1,af,aI,bD,cF⟩:=I.least j ag gP nw ec aQ;exact ⟨cW,p,oP,h1,af,by simp [aI],bD,by rw [keep _ (by rw [cF]; omega)]; exact cF⟩
  ·have B5:(zQ fj.b7).Perm (r.map (λp=>b+p.At.toNat)++zQ c.b7):=by
    refine (List.perm_ext_iff_of_nodup (Pc _) ?_).2 λk=>?_
    ·rw [List.nodup_append];refine ⟨?_,Pc _,λx J y av e=>?_⟩
     ·unfold List.Nodup;rw [List.pairwise_map];have:=kc.nd;unfold List.Nodup at this;rw [List.pairwise_map] at this;refine this.imp_of_mem λ{p q} ar bg da=>?_;have h1:=kc.lX p ar;have af:=kc.lX q bg;omega
     ·obtain ⟨p,ar,rfl⟩:=List.mem_map.1 J;have h1:=Kg.1 av;rw [<- e] at h1;exact h1 (aA.fit p ar)
    ·rw [Kg,List.mem_append,Kg,List.mem_map];by_cases ar:∃ p∈r,b+p.At.toNat=k
     ·obtain ⟨p,ar,rfl⟩:=ar;rw [b_.gK p ar];exact ⟨λ_=>.inl ⟨p,ar,rfl⟩,λ_=>by omega⟩
     ·rw [b_.wV k λp B3 e=>ar ⟨p,B3,e⟩];exact ⟨.inr,λh=>h.resolve_left ar⟩
   rw [B5.length_eq,List.length_append,List.length_map,I.hg,List.map_cons,List.sum_cons];simp [PY,aj]
def zi (r:eJ) (n:Int):Int × Bool:=match r.find? λp=>decide (p.At=n) with
 | some p=>(p.cc,true)
 | none=>(0,false)
theorem get_none {r:eJ}{n:Int}(h:∀ p∈r,p.At≠n):zi r n=(0,false):=by
 unfold zi;rw [List.find?_eq_none.2 λp ar=>by simpa using h p ar]
theorem get_some {r:eJ}(aj:iy r) {p:b3}(ar:p∈r):zi r p.At=(p.cc,true):=by
 unfold zi;cases h:r.find? λq=>decide (q.At=p.At) with
 | none=>exact absurd (List.find?_eq_none.1 h p ar) (by simp)
 | some q =>
  have h1:q.At=p.At:=by simpa using List.find?_some h
  have af:=List.mem_of_find?_eq_some h;obtain ⟨i,hi,cu⟩:=List.mem_iff_getElem.1 af;obtain ⟨j,ag,cd⟩:=List.mem_iff_getElem.1 ar;have:=(List.getElem_inj (h₀:=by simpa using hi) (h₁:=by simpa using ag) aj.nd).1 (by simp only [List.getElem_map]; rw [cu,cd]; exact h1);subst this;rw [cu] at cd;rw [cd]
def vf (rows:List eJ) (a n:Int):Int × Bool:=match idx rows a with
 | some r=>zi r n
 | none=>(0,false)
theorem Ub {rows:List eJ}(cQ:k9 rows) {o:List Nat}(hO:kI rows o) {c:e4}(hr:dt rows o.reverse c) (bb:Inv rows o.reverse c) (aa:c.b7.length<=900000) (a n:Int):rk c a n=some (vf rows a n):=by
 have hlen:=hr.len
 suffices h:Tot (rk c a n) λx=>x=vf rows a n by
  obtain ⟨x,J,e⟩:=h; rw [J,e]
 have Pl:(∀ r,idx rows a=some r->∀ p∈r,p.At≠n)->vf rows a n=(0,false):=by
  intro h;unfold vf;cases hi:idx rows a with
  | none=>rfl
  | some r=>exact get_none (h r hi)
 have out:(a<0\/(c.c5.length:Int)<=a)->idx rows a=none:=by
  intro h;unfold idx;rcases h with h | h
  ·rw [if_neg (by omega)]
  ·split
   ·exact List.getElem?_eq_none (by omega)
   ·rfl
 -- where the pairs of a row stand
 have at_:∀ r,idx rows a=some r->∀ p∈r,0<=a/\∃ b:Nat,c.c5[a.toNat]?=some (b:Int)/\b+p.At.toNat<c.b7.length/\c.b7.getD (b+p.At.toNat) 0=(a.toNat:Int)+1/\c.cc.getD (b+p.At.toNat) 0=p.cc:=by
  intro r aj p ar;have aT:0<=a:=by
   by_cases aT:0<=a
   ·exact aT
   ·rw [idx,if_neg aT] at aj; cases aj
  have dN:rows[a.toNat]?=some r:=by rw [idx,if_pos aT] at aj; exact aj
  obtain ⟨cW,b,h1,af,aI⟩:=bb.own a.toNat (List.mem_reverse.2 ((hO.mem _).2 ⟨r,dN,λe=>by rw [e] at ar; simp at ar⟩));rw [dN] at h1; cases h1;exact ⟨aT,b,af,aI p ar⟩
 have fH:∀ r,idx rows a=some r->∀ p∈r,0<=p.At/\p.At<=999:=by
  intro r aj p ar;have:r∈rows:=by
   unfold idx at aj
   split at aj
   ·exact List.mem_of_getElem? aj
   ·cases aj
  exact (cQ.rows r this).lX p ar
 unfold rk;refine .ay (Ξ:=λx:Bool=>(x=true->(a<0\/(c.c5.length:Int)<=a)\/n<0\/(c.b7.length:Int)<=n)/\(x=false->0<=a/\a<c.c5.length/\0<=n/\n<c.b7.length)) ?_ λx J=>Tot.bB (λh=>?_) (λh=>?_)
 ·refine Tot.bm (λh=>.ao ⟨λ_=>.inl (.inl h),λh=>(by cases h)⟩) (λh1=>Tot.bm (λh=>.ao ⟨λ_=>.inl (.inr h),λh=>(by cases h)⟩) (λaf=>Tot.bm (λh=>.ao ⟨λ_=>.inr (.inl h),λh=>(by cases h)⟩) (λaI=>.ao ⟨λh=>.inr (.inr (of_decide_eq_true h)),λh=>?_⟩)));have:=of_decide_eq_false h;omega
 ·refine .ao (Eq.symm (Pl λr aj p ar e=>?_));obtain ⟨aT,b,au,h1,_⟩:=at_ r aj p ar;have af:=fH r aj p ar;rcases J.1 h with aL | aL | aL
  ·rw [out aL] at aj; cases aj
  ·omega
  ·omega
 ·obtain ⟨aT,h1,af,aI⟩:=J.2 h;have halt:a.toNat<rows.length:=by omega
  -- the base
  obtain ⟨b,au,gQ⟩:∃ b:Nat,c.c5[a.toNat]?=some (b:Int)/\b<=900000:=by
   by_cases hm:a.toNat∈o
   ·obtain ⟨cW,b,g1,g2,g3⟩:=bb.own a.toNat (List.mem_reverse.2 hm);refine ⟨b,g2,?_⟩;obtain ⟨r,cu,cd⟩:=(hO.mem _).1 hm;rw [cu] at g1; cases g1;obtain ⟨p,ar⟩:=List.exists_mem_of_ne_nil _ cd;have:=(g3 p ar).1;omega
   ·exact ⟨0,hr.rest _ halt (by simpa using hm),by omega⟩
  have t_:idx c.c5 a=some (b:Int):=by rw [idx,if_pos aT]; exact au
  rw [t_];have hw:aM ((b:Int)+n)=((b+n.toNat:Nat):Int):=by rw [cK]; omega
  have WU:aM (a+1)=a+1:=by rw [cK]; have:=cQ.n; omega
  refine Tot.aV ?_;rw [hw,WU];refine .ay (Ξ:=λx:Bool=>(x=true->∀ r,idx rows a=some r->∀ p∈r,p.At≠n)/\(x=false->b+n.toNat<c.b7.length/\c.b7.getD (b+n.toNat) 0=a+1)) (Tot.bm (λh=>.ao ⟨λ_ r aj p ar e=>?_,λh=>(by cases h)⟩) (λh=>?_)) λx J=>Tot.bB (λh=>.ao (Eq.symm (Pl (J.1 h)))) (λh=>?_)
  ·obtain ⟨_,ec,cf,g1,_⟩:=at_ r aj p ar;rw [au] at cf;have:b=ec:=by injection cf with cf; omega
   subst this;subst e;omega
  ·have ai:b+n.toNat<c.b7.length:=by omega
   rw [oQ ai];have aP:c.b7.getD (b+n.toNat) 0=c.b7[b+n.toNat]:=by rw [List.getD_eq_getElem?_getD,List.getElem?_eq_getElem ai]; rfl
   rw [<- aP];refine Tot.aV (.ao ⟨λh r aj p ar e=>?_,λh=>⟨ai,by simpa using h⟩⟩);obtain ⟨_,ec,cf,_,g2,_⟩:=at_ r aj p ar;rw [au] at cf;have:b=ec:=by injection cf with cf; omega
   subst this;subst e;rw [g2] at h;have:¬ ((a.toNat:Int)+1=a+1):=by simpa using h
   omega
  ·obtain ⟨ai,he⟩:=J.2 h;have pq:b+n.toNat<c.cc.length:=by omega
   rw [oQ pq];refine Tot.aV (.ao ?_);obtain ⟨i,hi,r,ec,cu,cd,p,ar,fx,lZ⟩:=bb.Lb (b+n.toNat) (by rw [he]; omega);rw [he] at lZ;have VX:i=a.toNat:=by omega
   subst VX;rw [au] at cd;have:b=ec:=by injection cd with cd; omega
   subst this;have sS:idx rows a=some r:=by rw [idx,if_pos aT]; exact cu
   have EV:=fH r sS p ar;have q_:p.At=n:=by omega
   obtain ⟨_,ec,cf,_,_,g3⟩:=at_ r sS p ar;rw [au] at cf;have:b=ec:=by injection cf with cf; omega
   subst this;unfold vf;rw [sS];show _=zi r n;have N7:=get_some (cQ.rows r (List.mem_of_getElem? cu)) ar;rw [q_,<- g3,q_,List.getD_eq_getElem?_getD,List.getElem?_eq_getElem pq] at N7;exact N7.symm
structure j2 (x:Sym):Prop where
 lit:x.Lit=true->x.Name.size=1/\0<lC x.Name 0/\lC x.Name 0<=255/\x.bN=0
 num:0<=x.bN/\x.bN<=50000
theorem Kv (x:Sym) (a b:Bool):Par (uD x a b) λr=>r=true->j2 x:=by
 unfold uD;refine Par.bB (λai=>?_) (λai=>?_)
 ·refine .ay (Ξ:=λc=>c=false->x.Name.size=1/\x.bN=0) ?_ λc aa=>Par.bB (λ_=>.ao λh=>by cases h) (λaf=>?_)
  ·refine Par.bB (λ_=>.ao λh=>by cases h) (λ_=>Par.oD (λ_=>.ao λh=>by cases h) (λh1=>.ao λaf=>⟨by omega,?_⟩));simpa using af
  ·obtain ⟨h1,aI⟩:=aa af;refine .ay (Ξ:=λc=>c=lC x.Name 0) (λc aa=>?_) λc aa=>?_
   ·unfold kp at aa
    split at aa
    ·exact (Option.some.inj aa).symm
    ·cases aa
   ·subst aa;refine .ay (Ξ:=λr=>r.2=true->0<lC x.Name 0/\lC x.Name 0<=255) ?_ λr aj=>.ao λh=>⟨λ_=>⟨h1,(aj h).1,(aj h).2,aI⟩,by omega⟩;unfold z_;refine Par.bm (λh=>.ao λ_=>by omega) (λ_=>Par.bm (λh=>.ao λ_=>by omega) (λ_=>Par.bm (λh=>.ao λ_=>by omega) (λ_=>?_)));refine .ay (Ξ:=λc=>c=true->lC x.Name 0=92\/lC x.Name 0=39) (Par.bm (λh=>.ao λ_=>.inl h) (λ_=>.ao λh=>.inr (of_decide_eq_true h))) λc aa=>Par.bB (λh=>.ao λ_=>by rcases aa h with h | h <;> omega) (λ_=>?_);refine .ay (Ξ:=λr:Int × Bool=>r.2=true->0<lC x.Name 0/\lC x.Name 0<=255) (Par.bm (λh=>.ao λaL=>?_) (λ_=>.ao λh=>by cases h)) λr aj=>.ao aj;have:lC x.Name 0<=126:=of_decide_eq_true aL;omega
 ·refine .ay (Ξ:=λc=>c=true->0<=x.bN/\x.bN<=50000) ?_ λc aa=>.ao λh=>⟨λaL=>(by rw [ai] at aL; cases aL),aa h⟩;refine .ay (Ξ:=λ_=>True) (λ_ _=>trivial) λc _=>Par.bB (λ_=>Par.bm (λh=>.ao λ_=>by omega) (λ_=>Par.bB (λ_=>Par.bm (λh=>.ao λaL=>⟨by omega,of_decide_eq_true aL⟩) (λ_=>.ao λh=>by cases h)) (λ_=>.ao λh=>by cases h))) (λ_=>.ao λh=>by cases h)
theorem PF (x:Sym):Par (uE x) λr=>r=true->j2 x:=by
 unfold uE;refine .ay (Ξ:=λr=>r=true->j2 x) ?_ λr aj=>.ao aj;refine Par.bB (λ_=>Par.bB (λh=>.ao λaL=>?_) (λ_=>.ao λh=>by cases h)) (λ_=>.ao λh=>by cases h);have h1:x.Lit=false:=by simpa using h
 have af:x.bN=0:=of_decide_eq_true aL;exact ⟨λh=>(by rw [h1] at h; cases h),by omega⟩
theorem Yc (d:Decl) (aE:d.eF.length<=1000000):Par (xZ d) λr=>r=true->∀ x∈d.eF,j2 x:=by
 unfold xZ;refine .ay (Ξ:=λ_=>True) (λ_ _=>trivial) λc _=>Par.bB (λ_=>.ao λh=>by cases h) (λ_=>?_);refine .ay (Par.scan d.eF (by omega) (λx=>j2 x) (λr=>r=false) (λs y aT h1 hi hm=>?_) (λs aA=>by simp [aA])) λx J=>?_
 ·refine Par.bm (λ_=>?_) (λh=>absurd h1 h);rw [hi];have hw:aM (s+1)=s+1:=by rw [cK]; omega
  rw [hw];exact .ay (Ξ:=λz=>z=y) (.ao rfl) λz aX=>by
   subst aX;exact .ay (Kv _ _ _) λc aa=>Par.bB (λ_=>.ao rfl) (λaf=>.ao ⟨rfl,aa (by simpa using af)⟩)
 ·rcases x with _ | r
  ·exact .ao λ_=>J
  ·exact .ao λh=>by have:r=false:=J; rw [this] at h; cases h
theorem Yd (a:Alt) (aE:a.hc.length<=1000000):Par (x0 a) λr=>r=true->(∀ p∈a.hc,j2 p.Sym)/\j2 a.Prec:=by
 unfold x0;refine .ay (Par.scan a.hc (by omega) (λp=>j2 p.Sym) (λr=>r=false) (λs y aT h1 hi hm=>?_) (λs aA=>by simp [aA])) λx J=>?_
 ·refine Par.bm (λ_=>?_) (λh=>absurd h1 h);rw [hi];have hw:aM (s+1)=s+1:=by rw [cK]; omega
  rw [hw];refine .ay (Ξ:=λz=>z=y) (.ao rfl) λz aX=>?_;subst aX;refine .ay (Ξ:=λc=>c=false->j2 z.Sym) ?_ λc aa=>Par.bB (λ_=>.ao rfl) (λaf=>.ao ⟨rfl,aa af⟩);refine Par.bm (λhe=>?_) (λda=>?_)
  ·refine .ay (Kv _ _ _) λc aa=>Par.bB (λ_=>.ao λh=>by cases h) (λaf=>?_);have cQ:=aa (by simpa using af);exact λ_ _ _=>cQ
  ·refine Par.oD (λ_=>?_) (λh=>absurd h da);refine .ay (PF _) λc aa=>Par.bB (λ_=>.ao λh=>by cases h) (λaf=>?_);have cQ:=aa (by simpa using af);exact λ_ _ _=>cQ
 ·rcases x with _ | r
  ·have J:∀ p∈a.hc,j2 p.Sym:=J;refine .ay (Ξ:=λc=>c=true->j2 a.Prec) ?_ λc aa=>.ao λh=>⟨J,aa h⟩;refine .ay (PF _) λc aa=>Par.bB (λaf=>.ao λ_=>aa af) (λ_=>.ay (Kv _ _ _) λc aa=>.ao aa)
  ·exact .ao λh=>by have:r=false:=J; rw [this] at h; cases h
structure LM (s:Source):Prop where
 decls:∀ d∈s.Decls,∀ x∈d.eF,j2 x
 rules:∀ r∈s.dz,∀ a∈r.eC,(∀ p∈a.hc,j2 p.Sym)/\j2 a.Prec
theorem X_ (s:Source) (au:qV s):Par (xX s) λr=>r=true->LM s:=by
 unfold xX;refine .ay (Ξ:=hG (λ_=>True) (λr=>r=false)) ?_ λx J=>?_
 ·refine Par.loop (λ_=>True) trivial λj _=>?_;refine Par.bm (λ_=>.ay (Ξ:=λ_=>True) (λ_ _=>trivial) λ_ _=>Par.bB (λ_=>.ao rfl) (λ_=>.ao trivial)) (λ_=>.ao trivial)
 ·rcases x with _ | r
  ·refine .ay (Par.scan s.Decls (by have:=au.ze; omega) (λd=>∀ x∈d.eF,j2 x) (λr=>r=false) (λi y aT h1 hi hm=>?_) (λs aA=>by simp [aA])) λx J=>?_
   ·refine Par.bm (λ_=>?_) (λh=>absurd h1 h);rw [hi];have hw:aM (i+1)=i+1:=by have:=au.ze; rw [cK]; omega
    rw [hw];refine .ay (Ξ:=λz=>z=y) (.ao rfl) λz aX=>?_;subst aX;exact .ay (Yc z (by have:=(au.decls z hm).n; omega)) λc aa=>Par.bB (λ_=>.ao rfl) (λaf=>.ao ⟨rfl,aa (by simpa using af)⟩)
   ·rcases x with _ | r
    ·have aS:∀ d∈s.Decls,∀ x∈d.eF,j2 x:=J;refine .ay (Par.scan s.dz (by have:=au.aH; omega) (λr=>∀ a∈r.eC,(∀ p∈a.hc,j2 p.Sym)/\j2 a.Prec) (λr=>r=false) (λi y aT h1 hi hm=>?_) (λs aA=>by simp [aA])) λx J=>?_
     ·refine Par.bm (λ_=>?_) (λh=>absurd h1 h);rw [hi];have hw:aM (i+1)=i+1:=by have:=au.aH; rw [cK]; omega
      rw [hw];refine .ay (Ξ:=λz=>z=y) (.ao rfl) λz aX=>?_;subst aX;have kR:=(au.rules z hm);refine .ay (Ξ:=λ_=>True) (λ_ _=>trivial) λc _=>Par.bB (λ_=>.ao rfl) (λ_=>?_);refine .ay (Par.scan z.eC (by have:=kR.n; omega) (λa=>(∀ p∈a.hc,j2 p.Sym)/\j2 a.Prec) (λr=>r=false) (λk y aT h1 hi hm=>?_) (λs aA=>by simp [aA])) λx J=>?_
      ·refine Par.bm (λ_=>?_) (λh=>absurd h1 h);rw [hi];have hw:aM (k+1)=k+1:=by have:=kR.n; rw [cK]; omega
       rw [hw];refine .ay (Ξ:=λz=>z=y) (.ao rfl) λz aX=>?_;subst aX;exact .ay (Yd z (by have:=(kR.alts z hm).n; omega)) λc aa=>Par.bB (λ_=>.ao rfl) (λaf=>.ao ⟨rfl,aa (by simpa using af)⟩)
      ·rcases x with _ | r
       ·exact .ao ⟨rfl,J⟩
       ·exact .ao J
     ·rcases x with _ | r
      ·exact .ao λ_=>⟨aS,J⟩
      ·exact .ao λh=>by have:r=false:=J; rw [this] at h; cases h
    ·exact .ao λh=>by have:r=false:=J; rw [this] at h; cases h
  ·exact .ao λh=>by have:r=false:=J; rw [this] at h; cases h
structure yW (T:List bT) (G:List Bool):Prop where
 Ev:G.length=T.length
 lo:3<=T.length
 hi:T.length<=lim
 s5:∀ t∈T,t.Name.size<=dJ/\(t.Lit=true->t.Name.size=1)
 le:∀ t∈T,t.bN<=50000
structure tr (T:List bT) (G:List Bool):Prop where
 aS:∀ (i:Nat) (t:bT),i<3->T[i]?=some t->t.bN<=0
 un:∀ (i j:Nat) (s t:bT),T[i]?=some s->T[j]?=some t->0<s.bN->s.bN=t.bN->i=j
 gC:∀ (i:Nat) (t:bT),3<=i->T[i]?=some t->(G[i]?=some true->0<t.bN)/\(G[i]?=some false->t.bN=0)
structure fD (m:fJ):Prop where
 a:yW m.aG.ba m.cr
 b:m.cZ=0->tr m.aG.ba m.cr
 fy:∀ y∈m.cb,y.size<=dJ
theorem vK {α:Type}{l:List α}{i:Int}{y:α}(h:idx l i=some y):0<=i/\i.toNat<l.length/\l[i.toNat]?=some y:=by
 unfold idx at h
 split at h
 ·rename_i aT;exact ⟨aT,(List.getElem?_eq_some_iff.1 h).1,h⟩
 ·cases h
theorem yW.set {T:List bT}{G:List Bool}(h:yW T G) {k:Nat}{t t':bT}(hk:T[k]?=some t) (aE:t'.Name=t.Name) (ai:t'.Lit=t.Lit) (hu:t'.bN<=50000) {LB:List Bool}(c9:LB.length=G.length):yW (T.set k t') LB:=by
 have hm:=List.mem_of_getElem? hk;have key:∀ {P:bT->Prop},(∀ s∈T,P s)->P t'->∀ s∈T.set k t',P s:=λh1 af s aA=>by
  rcases List.mem_or_eq_of_mem_set aA with h | h
  ·exact h1 s h
  ·rw [h]; exact af
 exact ⟨by rw [c9,List.length_set]; exact h.Ev,by rw [List.length_set]; exact h.lo,by rw [List.length_set]; exact h.hi,key h.s5 (by rw [aE,ai]; exact h.s5 t hm),key h.le hu⟩
theorem yj {α:Type}{l:List α}{k:Nat}{x:α}(hk:k<l.length) (i:Nat):(l.set k x)[i]?=if i=k then some x else l[i]?:=by
 rw [List.getElem?_set];by_cases e:k=i
 ·subst e; simp [hk]
 ·simp [e,Ne.symm e]
theorem tr.F_ {T:List bT}{G:List Bool}(h:tr T G) {k:Nat}{t t':bT}(hk:T[k]?=some t) (hu:t'.bN=t.bN):tr (T.set k t') G:=by
 have aQ:=(List.getElem?_eq_some_iff.1 hk).1;have key:∀ (i:Nat) (s:bT),(T.set k t')[i]?=some s->∃ cR,T[i]?=some cR/\cR.bN=s.bN:=by
  intro i s aA;rw [yj aQ] at aA;by_cases e:i=k
  ·rw [if_pos e] at aA;cases aA;exact ⟨t,by rw [e]; exact hk,hu.symm⟩
  ·rw [if_neg e] at aA;exact ⟨s,aA,rfl⟩
 refine ⟨λi s hi aA=>?_,λi j s s2 aA kv aT he=>?_,λi s hi aA=>?_⟩
 ·obtain ⟨cR,h1,af⟩:=key i s aA;rw [<- af]; exact h.aS i cR hi h1
 ·obtain ⟨cR,h1,af⟩:=key i s aA;obtain ⟨YT,aI,bD⟩:=key j s2 kv;exact h.un i j cR YT h1 aI (by omega) (by omega)
 ·obtain ⟨cR,h1,af⟩:=key i s aA;rw [<- af]; exact h.gC i cR hi h1
theorem tr.Y0 {T:List bT}{G:List Bool}(h:tr T G) {k:Nat}{t t':bT}(hk:T[k]?=some t) (aI:3<=k) (aP:k<G.length) (aT:0<t'.bN) (aE:∀ (i:Nat) (s:bT),T[i]?=some s->s.bN≠t'.bN):tr (T.set k t') (G.set k true):=by
 have aQ:=(List.getElem?_eq_some_iff.1 hk).1;refine ⟨λi s hi aA=>?_,λi j s s2 aA kv ar he=>?_,λi s hi aA=>?_⟩
 ·rw [yj aQ,if_neg (by omega)] at aA;exact h.aS i s hi aA
 ·rw [yj aQ] at aA kv;by_cases cu:i=k
  ·rw [if_pos cu] at aA; cases aA;by_cases cd:j=k
   ·omega
   ·rw [if_neg cd] at kv;exact absurd he.symm (aE j s2 kv)
  ·rw [if_neg cu] at aA;by_cases cd:j=k
   ·rw [if_pos cd] at kv; cases kv;exact absurd he (aE i s aA)
   ·rw [if_neg cd] at kv;exact h.un i j s s2 aA kv ar he
 ·rw [yj aQ] at aA;rw [yj aP];by_cases cu:i=k
  ·rw [if_pos cu] at aA ⊢;cases aA;exact ⟨λ_=>aT,λh=>by cases h⟩
  ·rw [if_neg cu] at aA ⊢;exact h.gC i s hi aA
theorem s6 (m:fJ) (a:Int) (n:ByteArray):Par (nO m a n) λm'=>rK m m'/\m'.cZ≠0:=.of (t105 m a n)
theorem fD.fail {m m':fJ}(h:fD m) (aA:rK m m'/\m'.cZ≠0):fD m':=⟨by rw [aA.1.g,aA.1.gC]; exact h.a,λe=>absurd e aA.2,by rw [aA.1.fy]; exact h.fy⟩
theorem Ya (m:fJ) (x:Sym) (aI:3<=m.aG.ba.length) (h:m.aG.ba.length<=lim):Par (uA m x) λr=>r=-1\/(1<=r/\r≠2):=by
 have ai:lim=1000000000000\/lim<=1000000000000000:=by unfold lim; omega
 unfold uA;refine .ay (Ξ:=hG (λ_=>True) (λr:Int=>1<=r/\r≠2)) ?_ λr aj=>?_
 ·refine Par.loop (λs=>1<=s/\s<=m.aG.ba.length) ⟨by decide,by omega⟩ λs aA=>?_
  ·refine Par.bm (λaQ=>?_) (λ_=>.ao trivial);refine .ay (Ξ:=λc=>c=true->s≠2) ?_ λc aa=>Par.bB (λaL=>.ao ⟨aA.1,aa aL⟩) (λ_=>.ao ⟨by rw [cK]; omega,by rw [cK]; omega⟩);refine .go λy _=>Par.bB (λ_=>.go λz _=>Par.bB (λ_=>.ao λaL=>by simpa using aL) (λ_=>.ao λh=>by cases h)) (λ_=>.ao λh=>by cases h)
 ·rcases r with _ | r
  ·exact .ao (.inl rfl)
  ·exact .ao (.inr aj)
theorem PD (m:fJ) (n:Int) (aI:3<=m.aG.ba.length) (h:m.aG.ba.length<=lim):Par (vY m n) λr=>r<0->∀ (i:Nat) (t:bT),3<=i->m.aG.ba[i]?=some t->t.bN≠n:=by
 have ai:lim=1000000000000\/lim<=1000000000000000:=by unfold lim; omega
 unfold vY;refine .ay (Ξ:=hG (λ_=>∀ (i:Nat) (t:bT),3<=i->m.aG.ba[i]?=some t->t.bN≠n) (λr:Int=>0<=r)) ?_ λr aj=>?_
 ·refine Par.loop (λs=>3<=s/\s<=m.aG.ba.length/\∀ (i:Nat) (t:bT),3<=i->(i:Int)<s->m.aG.ba[i]?=some t->t.bN≠n) ⟨by decide,by omega,λi t h1 af=>by omega⟩ λs aA=>?_;obtain ⟨h1,af,aA⟩:=aA;refine Par.bm (λaQ=>?_) (λdG=>.ao λi t hi aw=>aA i t hi ?_ aw)
  ·refine .go λy av=>?_;obtain ⟨_,_,av⟩:=vK av;have hw:aM (s+1)=s+1:=by rw [cK]; omega
   rw [hw];refine Par.bm (λe=>.ao (show (0:Int)<=s by omega)) (λe=>.ao ⟨by omega,by omega,λi t hi r5 aw=>?_⟩);by_cases cd:i=s.toNat
   ·subst cd;rw [av] at aw; cases aw; exact e
   ·exact aA i t hi (by omega) aw
  ·have:=(List.getElem?_eq_some_iff.1 aw).1;omega
 ·rcases r with _ | r
  ·exact .ao λ_=>aj
  ·exact .ao λh=>by have:(0:Int)<=r:=aj; omega
theorem Dx {α:Type}{l:List α}{x:α}(i:Nat) {y:α}(h:(l++[x])[i]?=some y):(i<l.length/\l[i]?=some y)\/(i=l.length/\y=x):=by
 by_cases hi:i<l.length
 ·rw [List.getElem?_append_left hi] at h;exact .inl ⟨hi,h⟩
 ·rw [List.getElem?_append_right (by omega)] at h;by_cases e:i - l.length=0
  ·rw [e] at h;simp at h;exact .inr ⟨by omega,h.symm⟩
  ·have:([x]:List α)[i - l.length]?=none:=by rw [List.getElem?_eq_none]; simp; omega
   rw [this] at h; cases h
theorem PC (m:fJ) (x:Sym) (hm:fD m) (J:j2 x) (aA:x.Name.size<=dJ):Par (vX m x) λr=>fD r.2/\(r.1=1\/3<=r.1):=by
 unfold vX;have ai:lim<=1000000000000000:=by unfold lim; omega
 refine .ay (Ya m x hm.a.lo hm.a.hi) λr aj=>Par.bm (λh=>.ao ⟨hm,?_⟩) (λ_=>?_)
 ·show r=1\/3<=r;omega
 refine .ay (Ξ:=λj:fJ × Int=>j.1.aG=m.aG/\j.1.cr=m.cr/\j.1.cb=m.cb/\fD j.1/\j.2<=50000/\(j.1.cZ=0->(x.Lit=true->0<j.2/\∀ (i:Nat) (t:bT),m.aG.ba[i]?=some t->t.bN≠j.2)/\(x.Lit=false->j.2=0))) ?_ λj ag=>?_
 ·refine Par.bB (λn2=>?_) (λn2=>.ao ⟨rfl,rfl,rfl,hm,by show (0:Int)<=_; decide,λ_=>⟨λh=>(by rw [n2] at h; cases h),λ_=>rfl⟩⟩);obtain ⟨_,h1,af,_⟩:=J.lit n2;refine .ay (Ξ:=λc=>c=lC x.Name 0) (λc aa=>?_) λc aa=>?_
  ·unfold kp at aa
   split at aa
   ·exact (Option.some.inj aa).symm
   ·cases aa
  subst aa;have hw:aM (lC x.Name 0)=lC x.Name 0:=by rw [cK]; omega
  rw [hw];refine .ay (PD m (lC x.Name 0) hm.a.lo hm.a.hi) λo aY=>?_;refine .ay (Ξ:=λj:fJ=>j.aG=m.aG/\j.cr=m.cr/\j.cb=m.cb/\fD j/\(j.cZ=0->m.cZ=0/\o<0)) (Par.bm (λh=>.ay (s6 m x.At x.Name) λm' aL=>.ao ⟨aL.1.g,aL.1.gC,aL.1.fy,hm.fail aL,λe=>absurd e aL.2⟩) (λh=>.ao ⟨rfl,rfl,rfl,hm,λe=>⟨e,by omega⟩⟩)) λj ag=>.ao ⟨ag.1,ag.2.1,ag.2.2.1,ag.2.2.2.1,by show lC x.Name 0<=_; omega,λe=>⟨λ_=>⟨h1,λi t aw=>?_⟩,λh=>(by rw [n2] at h; cases h)⟩⟩;obtain ⟨cu,cd⟩:=ag.2.2.2.2 e;by_cases aI:3<=i
  ·exact aY cd i t aI aw
  ·have:=(hm.b cu).aS i t (by omega) aw;show t.bN≠lC x.Name 0;omega
 ·obtain ⟨aP,r3,vv,dK,hle,he⟩:=ag;have EE:j.1.cZ=0->tr m.aG.ba m.cr:=λe=>by have:=dK.b e; rwa [aP,r3] at this
  refine Par.ap λsQ=>Par.ap λ_=>.ao ?_;rw [aP] at sQ;rw [aP,r3,vv];simp only [List.length_cons,List.length_nil] at sQ;have aI:=hm.a.lo;have N6:=hm.a.Ev;refine ⟨⟨⟨by simp [N6],by show 3<=(m.aG.ba++[_]).length; simp; omega,by show (m.aG.ba++[_]).length<=_; simp; omega,λt aw=>?_,λt aw=>?_⟩,λhq=>?_,hm.fy⟩,?_⟩
  ·rcases List.mem_append.1 aw with aw | aw
   ·exact hm.a.s5 t aw
   ·rw [List.mem_singleton.1 aw];exact ⟨aA,λh=>(J.lit h).1⟩
  ·rcases List.mem_append.1 aw with aw | aw
   ·exact hm.a.le t aw
   ·rw [List.mem_singleton.1 aw]; exact hle
  ·have MP:j.1.cZ=0:=hq;have au:=EE MP;obtain ⟨IJ,BP⟩:=he MP;refine ⟨λi t hi aw=>?_,λi k s t aA aw aT heq=>?_,λi t hi aw=>?_⟩
   ·rcases Dx i aw with ⟨h1,af⟩ | ⟨h1,_⟩
    ·exact au.aS i t hi af
    ·omega
   ·rcases Dx i aA with ⟨h1,af⟩ | ⟨h1,af⟩
    ·rcases Dx k aw with ⟨bD,cF⟩ | ⟨bD,cF⟩
     ·exact au.un i k s t af cF aT heq
     ·subst cF;have heq:s.bN=j.2:=heq;cases n2:x.Lit with
      | true=>exact absurd heq ((IJ n2).2 i s af)
      | false=>have:=BP n2; omega
    ·subst af;rcases Dx k aw with ⟨bD,cF⟩ | ⟨bD,cF⟩
     ·have heq:j.2=t.bN:=heq;have aT:0<j.2:=aT;cases n2:x.Lit with
      | true=>exact absurd heq.symm ((IJ n2).2 k t cF)
      | false=>have:=BP n2; omega
     ·omega
   ·have UM:(m.cr++[x.Lit])[i]?=if i=m.aG.ba.length then some x.Lit else m.cr[i]?:=by
     by_cases e:i=m.aG.ba.length
     ·rw [if_pos e,e,<- N6,List.getElem?_append_right (Nat.le_refl _)]; simp
     ·have:=(List.getElem?_eq_some_iff.1 aw).1;simp at this;rw [if_neg e,List.getElem?_append_left (by omega)]
    show ((m.cr++[x.Lit])[i]?=some true->0<t.bN)/\((m.cr++[x.Lit])[i]?=some false->t.bN=0);rw [UM];rcases Dx i aw with ⟨h1,af⟩ | ⟨h1,af⟩
    ·rw [if_neg (by omega)];exact au.gC i t hi af
    ·rw [if_pos h1];subst af;exact ⟨λh=>(IJ (Option.some.inj h)).1,λh=>BP (Option.some.inj h)⟩
  ·right;show 3<=aM (((m.aG.ba++[_]).length:Int) - 1);simp only [List.length_append,List.length_cons,List.length_nil];rw [cK]; omega
theorem xz {α:Type}{l:List α}{i:Int}{y:α}(h:idx l i=some y):y∈l:=List.mem_of_getElem? (vK h).2.2
theorem fD.F_ {m:fJ}(h:fD m) {k:Nat}{t t':bT}(hk:m.aG.ba[k]?=some t) (aE:t'.Name=t.Name) (ai:t'.Lit=t.Lit) (hu:t'.bN=t.bN):yW (m.aG.ba.set k t') m.cr/\(m.cZ=0->tr (m.aG.ba.set k t') m.cr) :=
 ⟨h.a.set hk aE ai (by rw [hu]; exact h.a.le t (List.mem_of_getElem? hk)) rfl,λe=>(h.b e).F_ hk hu⟩
theorem fD.HO {m m':fJ}(h:fD m) (aA:rK m m'/\m'.cZ≠0):fD (⟨(⟨m.aG.ba,m'.aG.ca,m'.aG.bj,m'.aG.cx,m'.aG.cE⟩:bO),m'.cr,m'.cJ,m'.cb,m'.cZ,m'.dp,m'.dm,m'.cq,m'.b8⟩:fJ) :=
 ⟨by show yW m.aG.ba m'.cr; rw [aA.1.gC]; exact h.a,λe=>absurd e aA.2,by show ∀ y∈m'.cb,_; rw [aA.1.fy]; exact h.fy⟩
theorem X' (m:fJ) (d:Decl) (x:Sym) (hm:fD m) (J:j2 x) (aA:x.Name.size<=dJ):Par (vU m d x) fD:=by
 unfold vU;refine Par.bB (λ_=>?_) (λ_=>?_)
 ·refine .ay (Ξ:=λ_=>True) (λ_ _=>trivial) λk _=>.ay (Ξ:=fD) ?_ λm' hm=>.ao hm;refine Par.bm (λ_=>Par.ap λ_=>.ao ⟨hm.a,hm.b,hm.fy⟩) (λ_=>?_);refine .go λy _=>.ay (Ξ:=fD) (Par.bB (λ_=>.ay (s6 m _ _) λm' h=>.ao (hm.fail h)) (λ_=>.ao hm)) λm' hm=>.ao hm
 ·refine .ay (PC m x hm J aA) λr aj=>?_;obtain ⟨aj,ku⟩:=aj;refine .go λy av=>?_;refine .ay (Ξ:=fD) ?_ λeN mj=>?_
  ·refine Par.bB (λ_=>?_) (λ_=>.ao aj);refine .ay (Ξ:=fD) (Par.bB (λ_=>.ay (s6 r.2 _ _) λm' h=>.ao (aj.HO h)) (λ_=>.ao aj)) λdd sF=>?_;refine .go λz aX=>?_;obtain ⟨_,_,aX⟩:=vK aX;rw [List.set_set];obtain ⟨h1,af⟩:=sF.F_ (t':=(⟨z.Name,z.Lit,z.bN,dd.cq,aM (d.Kind - 1),z.Tag⟩:bT)) aX rfl rfl rfl;exact .ao ⟨h1,af,sF.fy⟩
  refine .go λy _=>?_;refine .ay (Ξ:=fD) ?_ λfb vg=>?_
  ·refine Par.bm (λsR=>?_) (λ_=>.ao mj);refine .ay (Ξ:=λc:Bool=>c=false->r.1≠1/\∀ (i:Nat) (t:bT),3<=i->eN.aG.ba[i]?=some t->t.bN≠x.bN) ?_ λc aa=>?_
   ·refine Par.bm (λ_=>.ao λh=>by cases h) (λh1=>.go λgC _=>Par.bB (λ_=>.ao λh=>by cases h) (λ_=>.ay (PD eN x.bN mj.a.lo mj.a.hi) λo aY=>.ao λh=>⟨h1,aY (by have:=of_decide_eq_false h; omega)⟩))
   refine .ay (Ξ:=λj=>fD j/\(j.cZ=0->r.1≠1/\∀ (i:Nat) (t:bT),3<=i->j.aG.ba[i]?=some t->t.bN≠x.bN)) (Par.bB (λ_=>.ay (s6 eN _ _) λm' h=>.ao ⟨mj.HO h,λe=>absurd e h.2⟩) (λh=>.ao ⟨mj,λ_=>aa h⟩)) λdY rV=>?_;obtain ⟨rV,aE⟩:=rV;refine .go λz aX=>.go λgC r3=>.ao ?_;obtain ⟨aT,aQ,aX⟩:=vK aX;obtain ⟨_,V_,r3⟩:=vK r3;have hle:=J.num;refine ⟨rV.a.set (t':=(⟨z.Name,z.Lit,x.bN,z.Level,z.fv,z.Tag⟩:bT)) aX rfl rfl hle.2 (by simp),λe=>?_,rV.fy⟩;obtain ⟨aI,bD⟩:=aE e;have au:=rV.b e;refine au.Y0 (t':=(⟨z.Name,z.Lit,x.bN,z.Level,z.fv,z.Tag⟩:bT)) aX (by omega) V_ sR λi t aw=>?_;by_cases aci:3<=i
   ·grind
   ·have:=au.aS i t (by omega) aw
    grind
  refine .go λy _=>.ay (Ξ:=fD) ?_ λj ag=>.ao ag;refine Par.bB (λ_=>?_) (λ_=>.ao vg);refine .ay (Ξ:=λ_=>True) (λ_ _=>trivial) λc _=>?_;refine .ay (Ξ:=fD) (Par.bB (λ_=>.ay (s6 fb _ _) λm' h=>.ao (vg.HO h)) (λ_=>.ao vg)) λna Bu=>?_;refine .go λz aX=>?_;obtain ⟨_,_,aX⟩:=vK aX;obtain ⟨h1,af⟩:=Bu.F_ (t':=(⟨z.Name,z.Lit,z.bN,z.Level,z.fv,d.Tag⟩:bT)) aX rfl rfl rfl;exact .ao ⟨h1,af,Bu.fy⟩
theorem PE (m:fJ) (x:Sym) (hm:fD m) (J:j2 x) (aA:x.Name.size<=dJ):Par (s8 m x) λr=>fD r.2:=by
 unfold s8;refine Par.bB (λ_=>.ay (PC m x hm J aA) λr aj=>.ao aj.1) (λ_=>.ay (Ξ:=λ_=>True) (λ_ _=>trivial) λk _=>Par.bB (λ_=>.ao hm) (λ_=>.ay (Ξ:=λ_=>True) (λ_ _=>trivial) λt _=>Par.bB (λ_=>.ay (s6 m _ _) λm' h=>.ao (hm.fail h)) (λ_=>.ao hm)))
theorem Yb (m:fJ) (left:ByteArray) (a:Alt) (hm:fD m) (au:wA a) (aR:(∀ p∈a.hc,j2 p.Sym)/\j2 a.Prec):Par (vV m left a) fD:=by
 have aE:=au.n;unfold vV;refine .ay (Ξ:=λ_=>True) (λ_ _=>trivial) λa8 _=>?_;refine .ay (Ξ:=λr:fJ × List Int × ByteArray × Int=>fD r.1) ?_ λa7 aI=>?_
 ·refine Par.loop (λs=>fD s.1/\0<=s.2.2.2.2) ⟨hm,Int.le_refl 0⟩ λs aA=>?_;obtain ⟨m1,rt,bB,at_,i⟩:=s;obtain ⟨aA,aT⟩:=aA;simp only at aA aT ⊢;refine Par.bm (λaQ=>?_) (λ_=>.ao aA);refine .ay (Ξ:=λj:fJ × List Int × ByteArray × Int=>fD j.1) ?_ λj ag=>.ao ⟨ag,by show 0<=aM (i+1); rw [cK]; omega⟩;refine .go λy av=>.ay (Ξ:=λj:fJ × List Int × ByteArray × Int=>fD j.1) ?_ λj ag=>.ao ag;have E5:=(xz av);refine .ay (Ξ:=λj:fJ × List Int × ByteArray × Int=>fD j.1) ?_ λj ag=>.ao ag;refine Par.bB (λ_=>?_) (λ_=>?_)
  ·exact .ay (PE m1 y.Sym aA (aR.1 y E5) (au.parts y E5).1) λr aj=>Par.ap λ_=>.ao aj
  ·exact .ay (Ξ:=λ_=>True) (λ_ _=>trivial) λj _=>.ao ⟨aA.a,aA.b,aA.fy⟩
 ·refine .ay (Ξ:=λ_=>True) (λ_ _=>trivial) λhl _=>?_;refine .ay (Ξ:=λj:fJ × Int=>fD j.1) ?_ λj ag=>Par.ap λ_=>Par.ap λ_=>.ao ⟨ag.a,ag.b,ag.fy⟩;refine Par.bB (λ_=>?_) (λ_=>.ao aI);refine .ay (Ξ:=λ_=>True) (λ_ _=>trivial) λc _=>.ay (Ξ:=λj:fJ × Int=>fD j.1) ?_ λj ag=>.ao ag;exact Par.bB (λ_=>.ay (PE a7.1 a.Prec aI aR.2 au.prec) λr aj=>.ao aj) (λ_=>.ay (s6 a7.1 _ _) λm' h=>.ao (aI.fail h))
structure tl (g:bO):Prop where
 aS:∀ (i:Nat) (t:bT),i<3->g.ba[i]?=some t->t.bN<=0
 pos:∀ (i:Nat) (t:bT),3<=i->g.ba[i]?=some t->0<t.bN/\t.bN<=100000
 un:∀ (i j:Nat) (s t:bT),g.ba[i]?=some s->g.ba[j]?=some t->0<s.bN->s.bN=t.bN->i=j
 s5:∀ t∈g.ba,t.Name.size<=dJ/\(t.Lit=true->t.Name.size=1)
 dx:∀ x∈g.ca,x.Name.size<=4 * dJ
theorem Yh (s:Source) (au:qV s):Par (we s) λr=>r.2.1=0->tl r.1:=by
 have VL:=au.ze;have B8:=au.aH;unfold we;refine .ay (X_ s au) λc aa=>Par.bB (λ_=>.ao λh=>absurd h (by decide)) (λih=>?_);have ok:LM s:=aa (by simpa using ih);refine .ay (Ξ:=λl=>l=List.replicate 3 false) (λa e=>by unfold nc at e; split at e <;> cases e; rfl) λa7 jP=>?_;subst jP
 -- declarations
 refine .ay (Ξ:=λr:fJ × ByteArray=>fD r.1) ?_ λbQ cF=>?_
 ·refine Par.loop (λz=>fD z.1/\0<=z.2.2) ⟨⟨⟨rfl,Nat.le_refl 3,by show 3<=lim; unfold lim; omega,λt aw=>?_,λt aw=>?_⟩,λ_=>⟨λi t hi aw=>?_,λi j a b aR au aT he=>?_,λi t hi aw=>?_⟩,λy av=>by cases av⟩,Int.le_refl 0⟩ λz aX=>?_
  ·have aw:t∈[_,_,_]:=aw;simp only [List.mem_cons,List.not_mem_nil,or_false] at aw;rcases aw with rfl | rfl | rfl <;> exact ⟨by decide,λh=>by cases h⟩
  ·have aw:t∈[_,_,_]:=aw;simp only [List.mem_cons,List.not_mem_nil,or_false] at aw;rcases aw with rfl | rfl | rfl <;> decide
  ·have aw:t∈[_,_,_]:=List.mem_of_getElem? aw;simp only [List.mem_cons,List.not_mem_nil,or_false] at aw;rcases aw with rfl | rfl | rfl <;> decide
  ·have aR:a∈[_,_,_]:=List.mem_of_getElem? aR;simp only [List.mem_cons,List.not_mem_nil,or_false] at aR;rcases aR with rfl | rfl | rfl <;> exact absurd aT (by decide)
  ·have:=(List.getElem?_eq_some_iff.1 aw).1;have:i<3:=this;omega
  ·obtain ⟨m,st,i⟩:=z;obtain ⟨hm,aT⟩:=aX;simp only at hm aT ⊢;refine Par.bm (λaQ=>?_) (λ_=>.ao hm);refine .go λd aS=>?_;have jO:=xz aS;refine .ay (Ξ:=λ_=>True) (λ_ _=>trivial) λ_ _=>.ay (Ξ:=λ_=>True) (λ_ _=>trivial) λjo _=>?_;refine .ay (Ξ:=λr:fJ × ByteArray=>fD r.1) ?_ λr aj=>.ao ⟨aj,by show 0<=aM (i+1); rw [cK]; omega⟩;refine Par.loop (λz=>fD z.1/\0<=z.2.2) ⟨⟨hm.a,hm.b,hm.fy⟩,Int.le_refl 0⟩ λz aX=>?_;obtain ⟨m,st,k⟩:=z;obtain ⟨hm,HZ⟩:=aX;simp only at hm HZ ⊢;have zq:=(au.decls d jO).n;refine Par.bm (λxi=>?_) (λ_=>.ao hm);refine .ay (Ξ:=λr:fJ × ByteArray=>fD r.1) ?_ λr aj=>.ao ⟨aj,by show 0<=aM (k+1); rw [cK]; omega⟩;refine Par.bB (λ_=>.go λx J=>?_) (λ_=>?_)
   ·have vH:=xz J;exact .ay (X' m d x hm (ok.decls d jO x vH) ((au.decls d jO).syms x vH)) λm' ij=>.ao ij
   ·refine .ay (Ξ:=fD) (Par.bB (λ_=>.go λ_ _=>.go λ_ _=>.ay (s6 m _ _) λm' h=>.ao (hm.fail h)) (λ_=>.ao hm)) λm' ij=>.go λ_ _=>.ao ij
 -- what stands on the left
 refine .ay (Ξ:=fD) ?_ λc3 H7=>?_
 ·refine Par.loop (λz=>fD z.1/\0<=z.2) ⟨cF,Int.le_refl 0⟩ λz aX=>?_;obtain ⟨m,i⟩:=z;obtain ⟨hm,aT⟩:=aX;simp only at hm aT ⊢;refine Par.bm (λaQ=>?_) (λ_=>.ao hm);refine .ay (Ξ:=fD) ?_ λr aj=>.ao ⟨aj,by show 0<=aM (i+1); rw [cK]; omega⟩;refine .go λr aj=>.ay (Ξ:=λ_=>True) (λ_ _=>trivial) λ_ _=>?_;refine .ay (Ξ:=fD) (Par.bB (λ_=>.ay (s6 m _ _) λm' h=>.ao (hm.fail h)) (λ_=>.ao hm)) λiO pd=>?_;refine .ay (Ξ:=λ_=>True) (λ_ _=>trivial) λ_ _=>?_;refine .ay (Ξ:=λl:List ByteArray=>∀ y∈l,y.size<=dJ) (Par.bB (λ_=>Par.ap λ_=>.ao λy av=>?_) (λ_=>.ao pd.fy)) λl ai=>.ao ⟨pd.a,pd.b,ai⟩;rcases List.mem_append.1 av with av | av
  ·exact pd.fy y av
  ·rw [List.mem_singleton.1 av]; exact (au.rules r (xz aj)).left
 -- types and starts
 refine .ay (Ξ:=fD) ?_ λha tM=>?_
 ·refine Par.loop (λz=>fD z.1) H7 λz hm=>?_;obtain ⟨m,i⟩:=z;simp only at hm ⊢;refine Par.bm (λaQ=>?_) (λ_=>.ao hm);refine .ay (Ξ:=fD) ?_ λr aj=>.ao aj;refine Par.loop (λz=>fD z.1) hm λz hm=>?_;obtain ⟨m,k⟩:=z;simp only at hm ⊢;refine .go λd _=>Par.bm (λaQ=>?_) (λ_=>.ao hm);refine .ay (Ξ:=fD) ?_ λr aj=>.ao aj;refine .go λ_ _=>.go λ_ _=>.ay (Ξ:=λ_=>True) (λ_ _=>trivial) λ_ _=>?_;exact .ay (Ξ:=fD) (Par.bB (λ_=>.ay (s6 m _ _) λm' h=>.ao (hm.fail h)) (λ_=>.ao hm)) λm' ij=>.ao ij
 refine .ay (Ξ:=λ_=>True) (λ_ _=>trivial) λxI _=>.ay (Ξ:=λ_=>True) (λ_ _=>trivial) λmF _=>?_
 -- the alternatives
 refine .ay (Ξ:=fD) ?_ λbt pe=>?_
 ·refine Par.loop (λz=>fD z.1/\0<=z.2) ⟨⟨tM.a,tM.b,tM.fy⟩,Int.le_refl 0⟩ λz aX=>?_;obtain ⟨m,i⟩:=z;obtain ⟨hm,aT⟩:=aX;simp only at hm aT ⊢;refine Par.bm (λaQ=>?_) (λ_=>.ao hm);refine .ay (Ξ:=fD) ?_ λr aj=>.ao ⟨aj,by show 0<=aM (i+1); rw [cK]; omega⟩;refine Par.loop (λz=>fD z.1/\0<=z.2) ⟨hm,Int.le_refl 0⟩ λz aX=>?_;obtain ⟨m,k⟩:=z;obtain ⟨hm,HZ⟩:=aX;simp only at hm HZ ⊢;refine .go λd aS=>Par.bm (λxi=>?_) (λ_=>.ao hm);have jO:=xz aS;have zq:=(au.rules d jO).n;refine .go λd1 NV=>.go λd2 zp=>.go λa aR=>?_;rw [aS] at NV zp;cases NV; cases zp;have NO:=xz aR;exact .ay (Yb m d.Left a hm ((au.rules d jO).alts a NO) (ok.rules d jO a NO)) λm' ij=>.ao ⟨ij,by show 0<=aM (k+1); rw [cK]; omega⟩
 refine Par.oD (λh=>.ao λaL=>absurd aL h) (λhe=>?_);have Jn:=pe.b he
 -- nonterminals
 refine .ay (Ξ:=λl:List fE=>1<=l.length/\∀ x∈l,x.Name.size<=4 * dJ) ?_ λuV H_=>?_
 ·refine Par.loop (λz=>1<=z.1.length/\∀ x∈z.1,x.Name.size<=4 * dJ) ⟨Nat.le_refl 1,λx J=>?_⟩ λz aX=>?_
  ·rw [List.mem_singleton.1 J]; decide
  ·refine Par.bB (λ_=>.go λy av=>.go λ_ _=>.ay (Ξ:=λ_=>True) (λ_ _=>trivial) λ_ _=>Par.ap λ_=>.ao ⟨by show 1<=(z.1++[_]).length; simp,λx J=>?_⟩) (λ_=>.ao aX);rcases List.mem_append.1 J with J | J
   ·exact aX.2 x J
   ·rw [List.mem_singleton.1 J];have:=pe.fy y (xz av);show y.size<=4 * dJ;omega
 refine .ay (Ξ:=λl:List fE=>l.length<=24->∀ x∈l,x.Name.size<=4 * dJ) ?_ λk3 Ns=>?_
 ·refine Par.loop (λz=>(z.1.length<=24->∀ x∈z.1,x.Name.size<=4 * dJ)/\0<=z.2/\z.2<=z.1.length) ⟨λ_=>H_.2,by show (0:Int)<=1; decide,by have:=H_.1; show (1:Int)<=(uV.length:Int); omega⟩ λz aX=>?_;obtain ⟨l,i⟩:=z;obtain ⟨ai,aT,hi⟩:=aX;simp only at ai aT hi ⊢;refine Par.bm (λhle=>.go λy av=>?_) (λ_=>.ao ai);refine Par.cat (Par.ap λsQ=>.ao ⟨λhlen x J=>?_,by show 0<=aM (i+1); unfold lim at sQ; simp only [List.length_cons,List.length_nil] at sQ; rw [cK]; omega,by show aM (i+1)<=(((l++[_]).length:Nat):Int); unfold lim at sQ; simp only [List.length_cons,List.length_nil,List.length_append] at sQ ⊢; rw [cK]; omega⟩);have hlen:(l++[_]).length<=24:=hlen;simp only [List.length_append,List.length_cons,List.length_nil] at hlen;rcases List.mem_append.1 J with J | J
  ·exact ai (by omega) x J
  ·rw [List.mem_singleton.1 J];have fV:=(t110 i aT (by omega)).eq av;show (_++y).size<=4 * dJ;rw [ByteArray.size_append];show 1+y.size<=4 * dJ;simp only [dJ]; omega
 -- numbers
 have dK:=pe.a;have sQ:bt.aG.ba.length<=1000000000000000:=by have:=dK.hi; unfold lim at this; omega
 refine .ay (Ξ:=λl:List bT=>∃ (i next:Int),l.length=bt.aG.ba.length/\(l.length:Int)<=i/\(∀ (j:Nat) (t:bT),l[j]?=some t->∃ t0,bt.aG.ba[j]?=some t0/\t.Name=t0.Name/\t.Lit=t0.Lit/\((t.bN=t0.bN/\(¬ (3<=j/\(j:Int)<i)\/bt.cr[j]?=some true))\/(57346<=t.bN/\t.bN<next/\3<=j/\(j:Int)<i)))/\(∀ (j k:Nat) (s t:bT),l[j]?=some s->l[k]?=some t->57346<=s.bN->s.bN=t.bN->j=k)/\57346<=next/\next<=57343+i/\i<=l.length) ?_ λl_ Nt=>?_
 ·refine Par.loop (λz=>z.1.length=bt.aG.ba.length/\(∀ (j:Nat) (t:bT),z.1[j]?=some t->∃ t0,bt.aG.ba[j]?=some t0/\t.Name=t0.Name/\t.Lit=t0.Lit/\((t.bN=t0.bN/\(¬ (3<=j/\(j:Int)<z.2.2)\/bt.cr[j]?=some true))\/(57346<=t.bN/\t.bN<z.2.1/\3<=j/\(j:Int)<z.2.2)))/\(∀ (j k:Nat) (s t:bT),z.1[j]?=some s->z.1[k]?=some t->57346<=s.bN->s.bN=t.bN->j=k)/\57346<=z.2.1/\z.2.1<=57343+z.2.2/\3<=z.2.2/\z.2.2<=z.1.length) ⟨rfl,λj t aw=>⟨t,aw,rfl,rfl,.inl ⟨rfl,.inl (by show ¬ (3<=j/\(j:Int)<3); omega)⟩⟩,λj k s t aA aw aT he=>?_,by show (57346:Int)<=57346; decide,by show (57346:Int)<=57343+3; decide,Int.le_refl 3,by have:=dK.lo; show (3:Int)<=(bt.aG.ba.length:Nat); omega⟩ λz aX=>?_
  ·have:=dK.le s (List.mem_of_getElem? aA); omega
  obtain ⟨l,next,i⟩:=z;obtain ⟨ai,eH,rY,kt,xk,VW,n1⟩:=aX;simp only at ai eH rY kt xk VW n1 ⊢;have hw:aM (i+1)=i+1:=by rw [cK]; omega
  have WX:aM (next+1)=next+1:=by rw [cK]; omega
  rw [hw,WX];refine Par.bm (λaQ=>?_) (λdG=>.ao ⟨i,next,ai,by omega,eH,rY,kt,xk,n1⟩);have EJ:i.toNat<l.length:=by omega
  refine .ay (Ξ:=λj:List bT × Int=>j.1.length=bt.aG.ba.length/\(∀ (k:Nat) (t:bT),j.1[k]?=some t->∃ t0,bt.aG.ba[k]?=some t0/\t.Name=t0.Name/\t.Lit=t0.Lit/\((t.bN=t0.bN/\(¬ (3<=k/\(k:Int)<i+1)\/bt.cr[k]?=some true))\/(57346<=t.bN/\t.bN<j.2/\3<=k/\(k:Int)<i+1)))/\(∀ (a k:Nat) (s t:bT),j.1[a]?=some s->j.1[k]?=some t->57346<=s.bN->s.bN=t.bN->a=k)/\57346<=j.2/\j.2<=57343+(i+1)) ?_ λj ag=>.ao ⟨ag.1,ag.2.1,ag.2.2.1,ag.2.2.2.1,ag.2.2.2.2,by show 3<=i+1; omega,by show i+1<=(j.1.length:Nat); rw [ag.1,<- ai]; omega⟩;refine .go λgC r3=>.ay (Ξ:=λj:List bT × Int=>j.1.length=bt.aG.ba.length/\(∀ (k:Nat) (t:bT),j.1[k]?=some t->∃ t0,bt.aG.ba[k]?=some t0/\t.Name=t0.Name/\t.Lit=t0.Lit/\((t.bN=t0.bN/\(¬ (3<=k/\(k:Int)<i+1)\/bt.cr[k]?=some true))\/(57346<=t.bN/\t.bN<j.2/\3<=k/\(k:Int)<i+1)))/\(∀ (a k:Nat) (s t:bT),j.1[a]?=some s->j.1[k]?=some t->57346<=s.bN->s.bN=t.bN->a=k)/\57346<=j.2/\j.2<=57343+(i+1)) ?_ λj ag=>.ao ag;obtain ⟨_,_,r3⟩:=vK r3;refine Par.bB (λaP=>.go λy av=>.ao ?_) (λaP=>.ao ⟨ai,λk t aw=>?_,rY,kt,by omega⟩)
  ·obtain ⟨_,_,av⟩:=vK av;obtain ⟨t0,hq,cu,cd,fx⟩:=eH _ y av;have ac5:y.bN<next:=by
    rcases fx with ⟨fx,_⟩ | fx
    ·have:=dK.le t0 (List.mem_of_getElem? hq); omega
    ·exact fx.2.1
   have lJ:∀ (k:Nat) (t:bT),l[k]?=some t->t.bN<next:=λk t aw=>by
    obtain ⟨t1,f0,_,_,f3⟩:=eH k t aw;rcases f3 with ⟨f3,_⟩ | f3
    ·have:=dK.le t1 (List.mem_of_getElem? f0); omega
    ·exact f3.2.1
   refine ⟨by show (l.set _ _).length=_; rw [List.length_set]; exact ai,λk t aw=>?_,λa k s t aA aw aT he=>?_,by show 57346<=next+1; omega,by show next+1<=_; omega⟩
   ·have aw:(l.set i.toNat _)[k]?=some t:=aw;rw [yj EJ] at aw;by_cases e:k=i.toNat
    ·rw [if_pos e] at aw;cases aw;subst e;exact ⟨t0,hq,cu,cd,.inr ⟨kt,by show next<next+1; omega,by omega,by omega⟩⟩
    ·rw [if_neg e] at aw;obtain ⟨t1,f0,f1,f2,f3⟩:=eH k t aw;refine ⟨t1,f0,f1,f2,?_⟩;rcases f3 with ⟨f3,f4⟩ | f3
     ·exact .inl ⟨f3,f4.imp (λh=>by omega) id⟩
     ·exact .inr ⟨f3.1,by show t.bN<next+1; omega,f3.2.2.1,by omega⟩
   ·have aA:(l.set i.toNat _)[a]?=some s:=aA;have aw:(l.set i.toNat _)[k]?=some t:=aw;rw [yj EJ] at aA aw;by_cases e:a=i.toNat
    ·rw [if_pos e] at aA;cases aA;by_cases cf:k=i.toNat
     ·omega
     ·rw [if_neg cf] at aw;have h1:=lJ k t aw;have he:next=t.bN:=he;omega
    ·rw [if_neg e] at aA;by_cases cf:k=i.toNat
     ·rw [if_pos cf] at aw;cases aw;have h1:=lJ a s aA;have he:s.bN=next:=he;omega
     ·rw [if_neg cf] at aw;exact rY a k s t aA aw aT he
  ·obtain ⟨t1,f0,f1,f2,f3⟩:=eH k t aw;refine ⟨t1,f0,f1,f2,?_⟩;rcases f3 with ⟨f3,f4⟩ | f3
   ·by_cases e:k=i.toNat
    ·refine .inl ⟨f3,.inr ?_⟩;rw [e,r3];simpa using aP
    ·exact .inl ⟨f3,f4.imp (λh=>by omega) id⟩
   ·exact .inr ⟨f3.1,f3.2.1,f3.2.2.1,by omega⟩
 -- limits
 refine .ay (Ξ:=λc=>c=false->l_.length<=40/\k3.length<=24) ?_ λu' H3=>?_
 ·exact Par.bm (λ_=>.ao λh=>by cases h) (λh1=>Par.bm (λ_=>.ao λh=>by cases h) (λaf=>.ao λh=>by omega))
 refine .ay (Ξ:=λc=>c=false->u'=false) ?_ λAM H4=>?_
 ·refine Par.loop (λz=>z.1=false->u'=false) id λz aX=>?_;refine Par.bB (λ_=>?_) (λ_=>.ao aX);exact .ay (Ξ:=λc=>c=false->u'=false) (Par.bB (λ_=>.ao λh=>by cases h) (λh=>.go λ_ _=>.ao λ_=>aX h)) λc aa=>.ao aa
 refine Par.bB (λ_=>.ao λh=>absurd h (by decide)) (λaa=>.ao λ_=>?_);obtain ⟨im,iq⟩:=H3 (H4 aa);obtain ⟨i,next,ai,dG,eH,rY,kt,xk,n1⟩:=Nt;refine ⟨λj t ag aw=>?_,λj t ag aw=>?_,λj k s t aA aw aT BP=>?_,λt aw=>?_,Ns iq⟩
 ·obtain ⟨t0,hq,_,_,fx⟩:=eH j t aw;rcases fx with ⟨fx,_⟩ | fx
  ·rw [fx]; exact Jn.aS j t0 ag hq
  ·omega
 ·have e0:j<l_.length:=(List.getElem?_eq_some_iff.1 aw).1;obtain ⟨t0,hq,_,_,fx⟩:=eH j t aw;rcases fx with ⟨fx,lZ⟩ | fx
  ·rcases lZ with lZ | lZ
   ·omega
   ·have h1:=(Jn.gC j t0 ag hq).1 lZ;have af:=dK.le t0 (List.mem_of_getElem? hq);omega
  ·omega
 ·by_cases H9:57346<=s.bN
  ·exact rY j k s t aA aw H9 BP
  ·obtain ⟨e1,hq,_,_,fx⟩:=eH j s aA;obtain ⟨t0,f0,_,_,f3⟩:=eH k t aw;rcases fx with ⟨fx,_⟩ | fx
   ·rcases f3 with ⟨f3,_⟩ | f3
    ·exact Jn.un j k e1 t0 hq f0 (by omega) (by omega)
    ·omega
   ·omega
 ·obtain ⟨j,ag,rfl⟩:=List.mem_iff_getElem.1 aw;obtain ⟨t0,hq,cu,cd,_⟩:=eH j _ (List.getElem?_eq_getElem ag);have:=dK.s5 t0 (List.mem_of_getElem? hq);rw [cu,cd]; exact this
end Go.Proofs
