/- Parts of the proof that the last text states. -/
import Derived.Test.YtaddiiogopnkpaaGreatE7
set_option linter.unusedSectionVars false
set_option linter.unusedVariables false
namespace Go.Proofs
open Go Go.Own
set_option maxRecDepth 100000
theorem LF (l:List Int):(strOfNums l).size=l.length:=strOfNums_size ..
theorem t153 (n:Int) (aK:0<=n) (h1:n<=1000000000000):Tot (DC n) λs=>s.size<=2000000000000:=by
 unfold DC;have hu:IntKind.u64.wrap n=n:=by rw [IntKind.wrap_u64]; omega
 refine Tot.aB (Ξ:=λj=>j=n) (Tot.bt (λh=>absurd h (by omega)) (λ_=>.aj hu)) λj ag=>?_;subst ag;refine Tot.aB (Ξ:=λs=>s.size<=1000000000001) ?_ λs av=>Tot.bt (λh=>absurd h (by omega)) (λ_=>.aj (by omega));refine Tot.loop (λs=>0<=s.1/\s.1+s.2.size<=1000000000000+1/\(s.2.size=0->s.1<=1000000000000)) (λs=>s.1.toNat+(if s.2.size=0 then 1 else 0)) ⟨aK,by show j+((0:Nat):Int)<=_; omega,λ_=>h1⟩ (by show j.toNat+(if (0:Nat)=0 then 1 else 0)<1000000000000000000; simp; omega) λs av=>?_
 obtain ⟨m,t⟩:=s;obtain ⟨g0,g1,g2⟩:=av;simp only at g0 g1 g2 ⊢;refine Tot.aB (Ξ:=λc=>c=true->0<m\/t.size=0) ?_ λc aa=>Tot.bH (λku=>?_) (λ_=>.aj ?_)
 ·refine Tot.bt (λh=>.aj λ_=>.inl h) (λ_=>.aj λh=>.inr ?_);have:=of_decide_eq_true h;rw [this]; rfl
 ·have aa:=aa ku;refine .aB (Ξ:=λx=>x=m.tmod 10) (Tot.rI (by decide) rfl) λx J=>?_;refine .aB (Ξ:=λy=>y.size=t.size+1) (Tot.cat ?_ ?_) λy ao=>.aB (Ξ:=λz=>z=m / 10) (Tot.rG (by decide) ?_) λz aW=>.aj ?_
  ·rw [LF]; simp; omega
  ·rw [ByteArray.size_append,LF]; simp; omega
  ·rw [Int.tdiv_eq_ediv_of_nonneg g0,IntKind.wrap_u64]; omega
  ·subst aW;refine ⟨⟨?_,?_,?_⟩,?_⟩
   ·show 0<=m / 10; omega
   ·show m / 10+(y.size:Int)<=_; rw [ao]; omega
   ·intro h; have h:y.size=0:=h; omega
   ·show (m / 10).toNat+(if y.size=0 then 1 else 0)<m.toNat+(if t.size=0 then 1 else 0);rw [if_neg (by omega)]
    split <;> omega
 ·show t.size<=1000000000001; omega
structure f' (g:bA):Prop where
 lk:3<=g.bo.length/\g.bo.length<=40
 e1:1<=g.dD.length/\g.dD.length<=24
 jd:1<=g.bu.length/\g.bu.length<=60
 gB:∀ p∈g.bu,Bp g.bo.length (g.dD.length - 1) p
 aF:∀ p∈g.bu,p.dw.length<=8
 jw:∀ t∈g.bo,0<=t.Level
 yq:EN g.bu
structure iF (m:fh) (T L:Nat):Prop where
 gr:m.ed.length=m.ba.bo.length
 lo:3<=m.ba.bo.length
 hi:m.ba.bo.length<=3+T
 ty:m.fD.length<=T
 e_:m.dq.length<=L
 gB:m.ba.bu=[]
 hB:m.df=0
 lvl:0<=m.fj
 jw:∀ t∈m.ba.bo,0<=t.Level
theorem iF.mono {m:fh}{T L T' L':Nat}(h:iF m T L) (cX:T<=T') (fN:L<=L'):iF m T' L' :=
 ⟨h.gr,h.lo,by have:=h.hi; omega,by have:=h.ty; omega,by have:=h.e_; omega,h.gB,h.hB,h.lvl,h.jw⟩
theorem iF.grow {m m':fh}{T L k:Nat}(h:iF m T L) (g:Grow m m' k):iF m' (T+k) L :=
 ⟨g.gr,by have:=h.lo; have:=g.lo; omega,by have:=h.hi; have:=g.hi; omega,by have:=h.ty; have:=g.ty; omega,by rw [g.e_]; exact h.e_,g.gB.trans h.gB,g.hB.trans h.hB,by rw [g.lvl]; exact h.lvl,g.jw h.lvl h.jw⟩
theorem iF.same {m m':fh}{T L:Nat}(h:iF m T L) (g:rV m m'):iF m' T L:=by
 have:=h.grow (g.grow h.gr 0);exact this
theorem t19 (a n:Int) (h:0<n) (aC:n<=9223372036854775807):Tot (uK a n) λr=>0<=r/\r<n:=by
 unfold uK;have h1:-n<a.tmod n:=by
  by_cases aJ:0<=a
  ·have:=Int.tmod_nonneg n aJ;omega
  ·have af:(-a).tmod n<n:=Int.tmod_lt_of_pos _ h;rw [Int.neg_tmod] at af;omega
 have af:a.tmod n<n:=Int.tmod_lt_of_pos a h;refine .aB (Ξ:=λx=>x=a.tmod n) (Tot.rem (by omega) rfl) λx J=>?_;subst J;refine Tot.aB (Ξ:=λr=>0<=r/\r<n) (Tot.bt (λaE=>.aj ?_) (λaE=>.aj (by omega))) λr hr=>.aj hr
 grind [cv]
theorem t33 (k:Int) (h:0<=k):Tot (we k) λx=>x.Name.size=1/\x.Lit=true/\x.cb=0:=by
 unfold we;refine .aB (Ξ:=λx=>x.size=4) (.aj rfl) λaR h1=>.aB (Ξ:=λr=>r=k.tmod 4) (Tot.rem (by decide) rfl) λx2 af=>.aB (Ξ:=λr=>r=k.tmod 4) (Tot.rem (by decide) rfl) λa8 aE=>?_;subst af aE;have e:k.tmod 4=k % 4:=Int.tmod_eq_emod_of_nonneg h;rw [e];have hw:aG (k % 4+1)=k % 4+1:=by rw [cv]; omega
 rw [hw];refine .aB (Ξ:=λx=>x.size=1) (Tot.cut (by rw [h1]; omega) ?_) λbg bm=>.aj ⟨bm,rfl,rfl⟩
 grind [UK]
theorem t31 (k:Int):Tot (AG k) λx=>x.size=1:=by
 unfold AG;exact .aj (by rw [LF]; rfl)
theorem t32 (k n:Int) (h:0<n) (aC:n<=100):Tot (DK k n) λx=>x.Name.size<=5:=by
 unfold DK;refine .aB (t19 k 14 (by decide) (by decide)) λaR h1=>Tot.bt (λb7=>?_) (λb7=>Tot.bH (λ_=>.aj ?_) (λ_=>?_))
 ·refine .aB (Ξ:=λ_=>True) (Tot.rem (by omega) trivial) λa8 _=>.aB (t31 a8) λbg bm=>.aj ?_
  grind
 ·show (5:Nat)<=5;omega
 ·refine .aB (t33 _ ?_) λx J=>.aj (by omega)
  grind [cv]
structure Be (n:Nat) (d:Decl):Prop where
 tag:d.Tag.size=0
 n:d.fi.length<=n
 syms:∀ x∈d.fi,x.Name.size<=dA
theorem t30 (l:List Int):Tot (AF l) λr=>r.length<=4/\∀ d∈r,Be 10 d:=by
 unfold AF;refine Tot.aB (Ξ:=λr=>r.length<=4/\∀ d∈r,Be 10 d) ?_ λr hr=>.aj hr;refine Tot.count (λs=>s.2) 4 (λs=>0<=s.2/\s.2<=4/\s.1.length<=s.2.toNat/\∀ d∈s.1,Be (1+s.2.toNat) d) ⟨Int.le_refl 0,by decide,Nat.le_refl 0,λd aQ=>absurd aQ (by simp)⟩ (by decide) λs av=>?_;obtain ⟨r,i⟩:=s;obtain ⟨aK,bm,ah,aQ⟩:=av;simp only at aK bm ah aQ ⊢;have hw:aG (i+1)=i+1:=by rw [cv]; omega
 rw [hw];refine .aB (Ξ:=λc=>c=true->i<l.length/\i<4) (Tot.bt (λh=>.aj λaf=>⟨h,of_decide_eq_true af⟩) (λ_=>.aj λh=>by cases h)) λc aa=>Tot.bH (λku=>?_) (λ_=>.aj ⟨by omega,λd j8=>⟨(aQ d j8).tag,by have:=(aQ d j8).n; omega,(aQ d j8).syms⟩⟩);obtain ⟨hi,aeq⟩:=aa ku;refine Tot.aB (Ξ:=λj=>j.length<=i.toNat+1/\∀ d∈j,Be (1+(i.toNat+1)) d) ?_ λj ag=>.aj ⟨⟨?_,?_,?_,?_⟩,?_,?_⟩
 ·refine .aB (Tot.hC (Φ:=λ_=>True) aK hi λ_ _ _=>trivial) λbM _=>.aB (t19 bM 8 (by decide) (by decide)) λcC BZ=>.aB (Ξ:=λ_=>True) (Tot.rem (by decide) trivial) λch _=>?_;have o_:∀ d∈r,Be (1+(i.toNat+1)) d:=λd j8=>⟨(aQ d j8).tag,by have:=(aQ d j8).n; omega,(aQ d j8).syms⟩;refine Tot.bH (λ_=>.aj ⟨by omega,o_⟩) (λ_=>?_);refine .aB (Ξ:=λc=>c=true->0<(r.length:Int)) (Tot.bH (λ_=>.aj λh=>of_decide_eq_true h) (λ_=>.aj λh=>by cases h)) λc aa=>Tot.bH (λqw=>?_) (λ_=>?_)
  ·have pP:=aa qw;have X2:aG ((r.length:Int) - 1)=(r.length:Int) - 1:=by rw [cv]; omega
   rw [X2];refine .aB (Tot.hC (Φ:=λy=>y∈r) (by omega) (by omega) λ_ _ h=>h) λd j8=>.aB (t33 i aK) λx J=>.aB (Ξ:=λ_=>True) (Tot.ap (by have:=(aQ d j8).n; simp [lim]; omega) trivial) λ_ _=>.aj ⟨by simp; omega,λNj zG=>?_⟩;rcases PO zG with h | rfl
   ·grind
   ·refine ⟨(aQ d j8).tag,?_,λy ao=>?_⟩
    ·have:=(aQ d j8).n
     grind
    ·rcases List.mem_append.1 ao with ao | ao
     ·exact (aQ d j8).syms y ao
     grind
  ·refine .aB (Ξ:=λ_=>True) (Tot.rem (by decide) trivial) λdP _=>.aB (t33 i aK) λx J=>.bJ<|.aj ⟨by simp; omega,λNj zG=>?_⟩;rcases List.mem_append.1 zG with h | h
   ·grind
   ·rw [List.mem_singleton.1 h];refine ⟨rfl,by show 1<=_; omega,λy ao=>?_⟩
    grind
 all_goals grind
structure mI (n:Nat) (r:fL):Prop where
 left:r.Left.size<=dA
 n:r.gi.length<=n
 alts:∀ a∈r.gi,yO a
theorem mI.mono {n m:Nat}{r:fL}(h:mI n r) (hm:n<=m):mI m r:=⟨h.left,Nat.le_trans h.n hm,h.alts⟩
theorem mI.add {n:Nat}{r:fL}{a:Alt}(h:mI n r) (aJ:yO a):mI (n+1) (⟨r.Left,r.gi++[a],r.At⟩:fL):=by
 refine ⟨h.left,by have:=h.n; show (r.gi++[a]).length<=_; simp; omega,λb ar=>?_⟩;rcases List.mem_append.1 ar with ar | ar
 ·exact h.alts b ar
 grind
theorem MF {l:List fL}{i n:Nat}{r:fL}(h:∀ x∈l,mI n x) (hr:mI n r):∀ x∈l.set i r,mI n x:=by grind
theorem t10 (x:qS):Tot (Ap x) u':=by
 unfold Ap;refine .aB (t19 x.dD 4 (by decide) (by decide)) λaR h1=>.aB (t30 x.wF) λx2 af=>?_;have Kl:aG (1+aR)=1+aR:=by rw [cv]; omega
 rw [Kl];refine .aB (Ξ:=λl=>l=List.replicate (1+aR).toNat false) (Tot.mk (by simp [lim]; omega) rfl) λa8 aE=>?_;have adW:a8.length=(1+aR).toNat:=by rw [aE]; simp
 refine Tot.aB (Ξ:=λl=>(l.length:Int)=1+aR/\∀ r∈l,mI 0 r) ?_ λb1 b7=>?_
 ·refine Tot.count (λs=>s.2) (1+aR) (λs=>0<=s.2/\s.2<=1+aR/\(s.1.length:Int)=s.2/\∀ r∈s.1,mI 0 r) ⟨Int.le_refl 0,by show 0<=1+aR; omega,rfl,λd aQ=>absurd aQ (by simp)⟩ (by show 1+aR - 0<_; omega) λs av=>?_;obtain ⟨l,i⟩:=s;obtain ⟨g0,g1,ah,bT⟩:=av;simp only at g0 g1 ah bT ⊢;have hw:aG (i+1)=i+1:=by rw [cv]; omega
  rw [hw];refine Tot.bt (λaP=>?_) (λ_=>.aj ⟨by omega,bT⟩);refine .aB (t31 i) λbM w_=>.bJ<|.aj ⟨⟨?_,?_,?_,λr hr=>?_⟩,?_,?_⟩
  ·grind
  ·grind
  ·grind
  ·rcases List.mem_append.1 hr with hr | hr
   ·grind
   ·rw [List.mem_singleton.1 hr];exact ⟨by show bM.size<=_; rw [w_]; decide,Nat.le_refl 0,λa aJ=>absurd aJ (by simp)⟩
  ·grind
  grind
 refine Tot.aB (Ξ:=λr=>(r.1.length:Int)=1+aR/\(r.2.length:Int)=1+aR/\∀ y∈r.1,mI 9 y) ?_ λa7 BW=>?_
 ·refine Tot.count (λs=>s.2.2) 9 (λs=>0<=s.2.2/\s.2.2<=9/\(s.1.length:Int)=1+aR/\(s.2.1.length:Int)=1+aR/\∀ y∈s.1,mI s.2.2.toNat y) ⟨Int.le_refl 0,by show (0:Int)<=9; decide,b7.1,by show (a8.length:Int)=_; omega,b7.2⟩ (by show (9:Int) - 0<_; decide) λs av=>?_;obtain ⟨l,ar,i⟩:=s;obtain ⟨g0,g1,ah,JK,bT⟩:=av;simp only at g0 g1 ah JK bT ⊢;have hw:aG (i+1)=i+1:=by rw [cv]; omega
  rw [hw];refine .aB (Ξ:=λc=>c=true->i<x.eR.length/\i<9) (Tot.bt (λh=>.aj λaf=>⟨h,of_decide_eq_true af⟩) (λ_=>.aj λh=>by cases h)) λc aa=>Tot.bH (λku=>?_) (λ_=>.aj ⟨ah,JK,λy ao=>(bT y ao).mono (by omega)⟩);obtain ⟨hi,aer⟩:=aa ku;have pM:i.toNat<x.eR.length:=by omega
  have Cq:idx x.eR i=some x.eR[i.toNat]:=by simp [idx,g0,pM]
  rw [Cq];generalize x.eR[i.toNat]=d;have Oa:∀ y∈l,mI (i.toNat+1) y:=λy ao=>(bT y ao).mono (by omega);refine Tot.aB (Ξ:=λj=>(j.1.length:Int)=1+aR/\(j.2.length:Int)=1+aR/\∀ y∈j.1,mI (i.toNat+1) y) ?_ λj ag=>.aj ⟨⟨?_,?_,ag.1,ag.2.1,?_⟩,?_,?_⟩
  ·refine Tot.aV (Tot.bt (λ_=>.aj ⟨ah,JK,Oa⟩) (λcS=>Tot.aV ?_));refine .aB (Tot.hC (Φ:=λ_=>True) (by decide) (by omega) λ_ _ _=>trivial) λeQ _=>.aB (t19 eQ (1+aR) (by omega) (by omega)) λfS NW=>?_;have oz:∀ c:ByteArray,c.size<=dA->((⟨(⟨⟨#[]⟩,false,0,0⟩:Sym),c,0⟩:Part).Sym.Name.size<=dA/\(⟨(⟨⟨#[]⟩,false,0,0⟩:Sym),c,0⟩:Part).Code.size<=dA):=λc aa=>⟨by show 0<=_; exact Nat.zero_le _,aa⟩;refine Tot.aB (Ξ:=λr=>r.1.length<=10/\∀ p∈r.1,p.Sym.Name.size<=dA/\p.Code.size<=dA) ?_ λf_ Vu=>?_
   ·refine Tot.count (λs=>s.2.2) 5 (λs=>1<=s.2.2/\s.2.2<=5/\(s.1.length:Int)<=2 * (s.2.2 - 1)/\∀ p∈s.1,p.Sym.Name.size<=dA/\p.Code.size<=dA) ⟨Int.le_refl 1,by decide,by decide,λp aq=>absurd aq (by simp)⟩ (by decide) λs av=>?_;obtain ⟨ps,pl,k⟩:=s;obtain ⟨k0,vU,YJ,PA⟩:=av;simp only at k0 vU YJ PA ⊢;have sk:aG (k+1)=k+1:=by rw [cv]; omega
    rw [sk];refine .aB (Ξ:=λc=>c=true->k<d.length/\k<5) (Tot.aV (Tot.bt (λh=>.aj λaf=>⟨h,of_decide_eq_true af⟩) (λ_=>.aj λh=>by cases h))) λc aa=>Tot.bH (λku=>?_) (λ_=>.aj ⟨by show ps.length<=10; omega,PA⟩);obtain ⟨hk,aew⟩:=aa ku;refine Tot.aB (Ξ:=λj=>(j.1.length:Int)<=2 * k/\∀ p∈j.1,p.Sym.Name.size<=dA/\p.Code.size<=dA) ?_ λj ag=>.aj ⟨⟨?_,?_,?_,ag.2⟩,?_,?_⟩
    ·refine Tot.aV (.aB (Tot.hC (Φ:=λ_=>True) (by omega) hk λ_ _ _=>trivial) λoU _=>.aB (t32 oU (1+aR) (by omega) (by omega)) λdb NX=>?_);refine .aB (Ξ:=λ_=>True) (Tot.bH (λ_=>Tot.bH (λ_=>.aj trivial) (λ_=>.aj trivial)) (λ_=>.aj trivial)) λ_ _=>.bJ<|?_;have a_:∀ p∈ps++[(⟨db,⟨#[]⟩,0⟩:Part)],p.Sym.Name.size<=dA/\p.Code.size<=dA:=λp aq=>by
      grind
     refine .aB (Ξ:=λ_=>True) ?_ λNa _=>?_
     ·refine Tot.bt (λh=>Tot.bH (λ_=>.aB (Tot.hC (Φ:=λ_=>True) g0 h λ_ _ _=>trivial) λ_ _=>.aB (Ξ:=λ_=>True) (Tot.rem (by decide) trivial) λ_ _=>.aj trivial) (λ_=>.aj trivial)) (λ_=>.aj trivial)
     ·refine Tot.aB (Ξ:=λl=>(l.length:Int)<=2 * k/\∀ p∈l,p.Sym.Name.size<=dA/\p.Code.size<=dA) ?_ λj ag=>.aj ag;refine Tot.bH (λ_=>?_) (λ_=>.aj ⟨by simp; omega,a_⟩);refine .bJ<|.aj ⟨by simp; omega,λp aq=>?_⟩;rcases List.mem_append.1 aq with aq | aq
      ·grind
      ·rw [List.mem_singleton.1 aq];exact oz _ (by decide)
    all_goals grind
   ·refine .aB (Ξ:=λ_=>True) (Tot.bt (λh=>.aB (Tot.hC (Φ:=λ_=>True) g0 h λ_ _ _=>trivial) λ_ _=>.aB (Ξ:=λ_=>True) (Tot.rem (by decide) trivial) λ_ _=>.aj trivial) (λ_=>.aj trivial)) λabX _=>?_;refine Tot.aB (Ξ:=λl=>l.length<=20/\∀ p∈l,p.Sym.Name.size<=dA/\p.Code.size<=dA) ?_ λpf Vy=>?_
    ·refine Tot.bH (λ_=>?_) (λ_=>.aj ⟨by omega,Vu.2⟩);refine .bJ<|.aj ⟨by simp; omega,λp aq=>?_⟩;rcases List.mem_append.1 aq with aq | aq
     ·grind
     ·rw [List.mem_singleton.1 aq];exact oz _ (by decide)
    ·refine Tot.aB (Ξ:=λl=>(l.length:Int)=1+aR) ?_ λM7 VA=>?_
     ·refine .aB (Tot.hC (Φ:=λ_=>True) NW.1 (by omega) λ_ _ _=>trivial) λ_ _=>Tot.bH (λ_=>.aj (by simp; omega)) (λ_=>.aj (by simp; omega))
     ·refine .aB (Tot.hC (Φ:=λy=>y∈l) NW.1 (by omega) λ_ _ h=>h) λmz VB=>?_;have rr:=bT mz VB;refine .aB (Ξ:=λ_=>True) (Tot.ap (by have:=rr.n; simp [lim]; omega) trivial) λ_ _=>.aj ⟨by show ((l.set _ _).length:Int)=_; simp; omega,VA,MF Oa (rr.add ⟨by show pf.length<=_; omega,Vy.2,Nat.zero_le _⟩)⟩
  all_goals grind
 refine Tot.aB (Ξ:=λl=>(l.length:Int)=1+aR/\∀ y∈l,mI 20 y) ?_ λwA VD=>.aj ⟨Nat.zero_le _,?_,λd aQ=>?_,?_,λr hr=>?_⟩
 ·refine Tot.count (λs=>s.2) (1+aR) (λs=>0<=s.2/\s.2<=1+aR/\(s.1.length:Int)=1+aR/\∀ y∈s.1,mI (9+s.2.toNat) y) ⟨Int.le_refl 0,by show 0<=1+aR; omega,BW.1,BW.2.2⟩ (by show 1+aR - 0<_; omega) λs av=>?_;obtain ⟨l,i⟩:=s;obtain ⟨g0,g1,ah,bT⟩:=av;simp only at g0 g1 ah bT ⊢;have hw:aG (i+1)=i+1:=by rw [cv]; omega
  rw [hw];refine Tot.bt (λaP=>?_) (λ_=>.aj ⟨ah,λy ao=>(bT y ao).mono (by omega)⟩);refine Tot.aB (Ξ:=λl=>(l.length:Int)=1+aR/\∀ y∈l,mI (9+i.toNat+1) y) ?_ λj ag=>.aj ⟨⟨?_,?_,ag.1,?_⟩,?_,?_⟩
  ·refine .aB (Ξ:=λ_=>True) ?_ λabY _=>?_
   ·refine .aB (Tot.hC (Φ:=λ_=>True) g0 (by omega) λ_ _ _=>trivial) λwB _=>Tot.bH (λ_=>.aj trivial) (λ_=>.aB (Tot.hC (Φ:=λ_=>True) g0 (by omega) λ_ _ _=>trivial) λ_ _=>Tot.bH (λ_=>.aj trivial) (λ_=>.aj trivial))
   ·refine Tot.aB (Ξ:=λl=>(l.length:Int)=1+aR/\∀ y∈l,mI (9+i.toNat+1) y) ?_ λj ag=>.aj ag;refine Tot.bH (λ_=>?_) (λ_=>.aj ⟨ah,λy ao=>(bT y ao).mono (by omega)⟩);refine .aB (Tot.hC (Φ:=λy=>y∈l) g0 (by omega) λ_ _ h=>h) λkW Fo=>.aB (t33 i g0) λkX ad3=>?_;have J:=bT kW Fo;refine .aB (Ξ:=λ_=>True) (Tot.ap (by have:=J.n; simp [lim]; omega) trivial) λ_ _=>.aj ⟨by simp; omega,MF (λy ao=>(bT y ao).mono (by omega)) (J.add ⟨by show 1<=_; omega,λp aq=>?_,Nat.zero_le _⟩)⟩;have aq:p∈[(⟨kX,⟨#[]⟩,0⟩:Part)]:=aq;rw [List.mem_singleton.1 aq];exact ⟨by show kX.Name.size<=1000000000000; omega,Nat.zero_le _⟩
  all_goals grind
 ·grind
 ·have:=af.2 d aQ;exact ⟨by rw [this.tag]; exact Nat.zero_le _,by have:=this.n; omega,this.syms⟩
 ·grind
 ·have:=VD.2 r hr;exact ⟨this.left,by have:=this.n; omega,this.alts⟩
end Go.Proofs
namespace Go.Own
open Go Go.Sort
variable [cF]
variable {α:Type} [DecidableEq α]
structure Ord (lt:α->α->Bool):Prop where
 swo:SWO lt
 jz:∀ x y,lt x y=false->lt y x=false->x=y
def fg (lt:α->α->Bool) (l:List α):Prop:=l.Pairwise λa b=>lt a b=true
omit [DecidableEq α] in
theorem fg.nd {lt:α->α->Bool}(h:Ord lt) {l:List α}(ah:fg lt l):l.Nodup:=ah.imp λ{a b} Cb e=>by
 subst e;rw [h.swo.irrefl] at Cb; cases Cb
omit [DecidableEq α] in
theorem fg.uniq {lt:α->α->Bool}(h:Ord lt) {l m:List α}(ah:fg lt l) (hm:fg lt m) (he:∀ x,x∈l↔x∈m):l=m :=
 List.Perm.eq_of_pairwise (le:=λa b=>lt a b=true) (λa b _ _ h1 af=>by have:=h.swo.trans _ _ _ h1 af; rw [h.swo.irrefl] at this; cases this) ah hm ((List.perm_ext_iff_of_nodup (ah.nd h) (hm.nd h)).2 he)
omit [DecidableEq α] in
theorem Ae {l m:List α}(aQ:l.Nodup) (hm:∀ x∈l,x∈m):l.length<=m.length:=by
 classical
 induction l generalizing m with
 | nil=>exact Nat.zero_le _
 | cons x l aO =>
  have J:=hm x (by simp);have o_:=List.nodup_cons.1 aQ;have:=aO (m:=m.erase x) o_.2 λy ao=>(List.mem_erase_of_ne (λe=>o_.1 (by rw [<- e]; exact ao))).2 (hm y (by simp [ao]));have ah:=List.length_erase_of_mem J;have aq:=List.length_pos_of_mem J;simp only [List.length_cons];omega
theorem aaM {lt:α->α->Bool}(h:Ord lt) {fH:α->α->Option Int}{l:List α}(aa:∀ a∈l,∀ b∈l,∃ v,fH a b=some v/\(v<0↔lt a b=true)) (aC:l.length<4611686018427387904):p4 fH l=some (ia (kR fH) l)/\∀ a∈l,∀ b∈l,kR fH a b=lt a b:=by
 have aP:∀ a∈l,∀ b∈l,kR fH a b=lt a b:=by
  intro a aJ b ar;obtain ⟨v,hv,h⟩:=aa a aJ b ar;unfold kR;simp only [hv,Option.getD_some];cases hk:lt a b with
  | true=>exact decide_eq_true (h.2 hk)
  | false=>exact decide_eq_false λbO=>by rw [h.1 bO] at hk; cases hk
 refine ⟨?_,aP⟩;unfold p4;rw [if_pos];simp only [Bool.and_eq_true,decide_eq_true_eq,List.all_eq_true];refine ⟨⟨λa aJ b ar=>?_,?_⟩,aC⟩
 ·obtain ⟨v,hv,_⟩:=aa a aJ b ar;rw [hv]; rfl
 ·unfold Am;simp only [List.all_eq_true,Bool.and_eq_true,Bool.or_eq_true,Bool.not_eq_true',decide_eq_true_eq];intro a aJ;refine ⟨by rw [aP a aJ a aJ]; exact h.swo.irrefl a,λb ar=>⟨?_,λc aa=>⟨?_,?_⟩⟩⟩
  ·rw [aP a aJ b ar,aP b ar a aJ];cases h1:lt a b with
   | true=>exact .inl (.inl rfl)
   | false =>
    cases af:lt b a with
    | true=>exact .inl (.inr rfl)
    | false=>exact .inr (h.jz _ _ h1 af)
  ·rw [aP a aJ b ar,aP b ar c aa,aP a aJ c aa];cases h1:lt a b with
   | false=>exact .inl rfl
   | true =>
    cases af:lt b c with
    | false=>exact .inl rfl
    | true=>exact .inr (h.swo.trans _ _ _ h1 af)
  ·rw [aP a aJ b ar,aP b ar c aa,aP a aJ c aa];cases h1:lt a b with
   | true=>exact .inl (.inl rfl)
   | false =>
    cases af:lt b c with
    | true=>exact .inl (.inr rfl)
    | false=>exact .inr (h.swo.ntrans _ _ _ h1 af)
omit [DecidableEq α] in
theorem Pm {lt lt':α->α->Bool}(x:α):∀ l:List α,(∀ y∈l,lt y x=lt' y x)->ins lt x l=ins lt' x l
 | [],_=>rfl
 | y::l,h=>by
  simp only [ins,h y (by simp)];rw [Pm x l λz aW=>h z (by simp [aW])]
omit [DecidableEq α] in
theorem Pu {lt lt':α->α->Bool}:∀ l:List α,(∀ a∈l,∀ b∈l,lt a b=lt' a b)->ia lt l=ia lt' l
 | [],_=>rfl
 | x::l,h=>by
  simp only [ia];rw [Pu l λa aJ b ar=>h a (by simp [aJ]) b (by simp [ar])];exact Pm x _ λy ao=>h y (by simp [(th lt' l).mem_iff.1 ao]) x (by simp)
theorem aaL {lt:α->α->Bool}(h:Ord lt) {fH:α->α->Option Int}{l:List α}(aa:∀ a∈l,∀ b∈l,∃ v,fH a b=some v/\(v<0↔lt a b=true)) (aC:l.length<4611686018427387904):p4 fH l=some (ia lt l):=by
 obtain ⟨h1,af⟩:=aaM h aa aC;rw [h1,Pu l af]
end Go.Own
namespace Go.Proofs
open Go Go.Own Go.Sort
set_option maxRecDepth 100000
def gM (a b:Item):Bool:=decide (a.Prod<b.Prod\/(a.Prod=b.Prod/\a.ee<b.ee))
theorem KX {a b:Item}:gM a b=true↔(a.Prod<b.Prod\/(a.Prod=b.Prod/\a.ee<b.ee)):=by simp [gM]
theorem Da {a b:Item}:gM a b=false↔¬ (a.Prod<b.Prod\/(a.Prod=b.Prod/\a.ee<b.ee)):=by simp [gM]
theorem vX:Ord gM where
 swo:=⟨λx=>by rw [Da]; omega,λx y z h1 af=>by rw [KX] at *; omega,λx y z h1 af=>by rw [Da] at *; omega⟩
 jz x y h1 af:=by
  rw [Da] at h1 af;obtain ⟨aR,x2⟩:=x;obtain ⟨bF,y2⟩:=y;simp only at h1 af;have:aR=bF:=by omega
  have:x2=y2:=by omega
  subst_vars; rfl
def iM (g:bA) (x:Item):Prop:=∃ q,idx g.bu x.Prod=some q/\0<=x.ee/\x.ee<=q.dw.length
def gA (g:bA) (x:Item):Int:=match idx g.bu x.Prod with
 | some q=>(idx q.dw x.ee).getD (-1)
 | none=>-1
theorem ka {α:Type}{l:List α}{i:Int}{y:α}(h:idx l i=some y):0<=i/\i<l.length/\y∈l:=by
 unfold idx at h
 split at h
 ·rename_i aK;obtain ⟨h1,af⟩:=List.getElem?_eq_some_iff.1 h;exact ⟨aK,by omega,List.mem_of_getElem? h⟩
 ·cases h
theorem Kz {α:Type}{l:List α}{i:Int}(h:i<0\/(l.length:Int)<=i):idx l i=none:=by
 unfold idx;split
 ·exact List.getElem?_eq_none (by omega)
 ·rfl
theorem nC {α:Type}{l:List α}{i:Int}(aK:0<=i) (h1:i<l.length):∃ y,idx l i=some y/\y∈l:=by
 have aP:i.toNat<l.length:=by omega
 exact ⟨l[i.toNat],by simp [idx,aK,aP],List.getElem_mem aP⟩
theorem dT {α:Type}{l:List α}{k:Nat}(h:k<l.length):idx l (k:Int)=some l[k]:=by simp [idx,h]
theorem Nn (g:bA) (x:Item):∃ c,Ax g x=some c/\(c=true↔iM g x):=by
 unfold Ax;by_cases aK:0<=x.Prod
 ·by_cases h1:x.Prod<g.bu.length
  ·obtain ⟨q,a_,_⟩:=nC aK h1;by_cases af:0<=x.ee
   ·refine ⟨decide (x.ee<=(q.dw.length:Int)),by simp [aK,h1,af,a_],?_⟩;rw [decide_eq_true_eq];exact ⟨λh=>⟨q,a_,af,h⟩,λ⟨fG,zS,_,h⟩=>by rw [a_] at zS; cases zS; exact h⟩
   ·exact ⟨false,by simp [aK,h1,af],λh=>(by cases h),λ⟨_,_,h,_⟩=>absurd h af⟩
  ·exact ⟨false,by simp [aK,h1],λh=>(by cases h),λ⟨_,h,_⟩=>absurd (ka h).2.1 h1⟩
 ·exact ⟨false,by simp [aK],λh=>(by cases h),λ⟨_,h,_⟩=>absurd (ka h).1 aK⟩
theorem IE (g:bA) (x:Item):ya g x=some (gA g x):=by
 unfold ya gA;obtain ⟨c,aa,hi⟩:=Nn g x;rw [aa];simp only [Option.bind_some];cases c with
 | false =>
  have aC:¬ iM g x:=λh=>by have:=hi.2 h; cases this
  simp only [Bool.not_false,cond_true,Option.bind_some];cases a_:idx g.bu x.Prod with
  | none=>rfl
  | some q =>
   have:idx q.dw x.ee=none:=Kz (by
    by_cases aK:0<=x.ee
    ·right;by_cases h1:x.ee<=q.dw.length
     ·exact absurd ⟨q,a_,aK,h1⟩ aC
     ·omega
    ·left; omega)
   simp [this]
 | true =>
  obtain ⟨q,a_,aK,h1⟩:=hi.1 rfl;simp only [Bool.not_true,cond_false,a_,Option.bind_some];by_cases he:x.ee=q.dw.length
  ·rw [Kz (.inr (by omega))];simp [he]
  ·obtain ⟨s,av,_⟩:=nC (l:=q.dw) (i:=x.ee) aK (by omega);simp [he,av]
theorem Gm {g:bA}(aN:f' g) {x:Item}(h:0<=gA g x):iM g x/\wL g.bo.length (g.dD.length - 1) (gA g x)/\∃ q,idx g.bu x.Prod=some q/\idx q.dw x.ee=some (gA g x):=by
 cases a_:idx g.bu x.Prod with
 | none =>
  have:gA g x=-1:=by unfold gA; rw [a_]
  rw [this] at h; exact absurd h (by decide)
 | some q =>
  cases av:idx q.dw x.ee with
  | none =>
   have:gA g x=-1:=by unfold gA; rw [a_]; simp [av]
   rw [this] at h; exact absurd h (by decide)
  | some s =>
   have e:gA g x=s:=by unfold gA; rw [a_]; simp [av]
   rw [e];obtain ⟨aK,h1,hm⟩:=ka av;exact ⟨⟨q,a_,aK,by omega⟩,(aN.gB q (ka a_).2.2).right s hm,q,rfl,av⟩
inductive l' (g:bA) (l:List Item):Item->Prop
 | base {x:Item}(h:x∈l) (hi:iM g x):l' g l x
 | step {x:Item}{q:Prod}{p:Nat}(h:l' g l x) (aq:g.bu[p]?=some q) (aC:gA g x=1000+q.Left) (aK:1000<=gA g x):l' g l ⟨p,0⟩
theorem Ps {g:bA}{p:Nat}{q:Prod}(aq:g.bu[p]?=some q):iM g ⟨p,0⟩:=⟨q,by simp [idx,aq],Int.le_refl _,by show (0:Int)<=_; omega⟩
theorem l'.iM {g:bA}{l:List Item}{x:Item}(h:l' g l x):iM g x:=by
 cases h with
 | base _ hi=>exact hi
 | step _ aq _ _=>exact Ps aq
theorem Y4 {g:bA}(aN:f' g) (x:Item):-1<=gA g x/\gA g x<=1023:=by
 by_cases h:0<=gA g x
 ·obtain ⟨_,av,_⟩:=Gm aN h;have:=aN.e1;have:=aN.lk;rcases av with av | av <;> omega
 ·refine ⟨?_,by omega⟩;revert h;unfold gA;cases a_:idx g.bu x.Prod with
  | none=>intro _; exact Int.le_refl _
  | some q =>
   cases av:idx q.dw x.ee with
   | none=>intro _; simp [av]
   | some s =>
    intro h;have hm:=(aN.gB q (ka a_).2.2).right s (ka av).2.2;simp only [av,Option.getD_some] at h ⊢;rcases hm with hm | hm <;> omega
def iV (m:List Bool):Nat:=(m.filter λb=>b).length
theorem Nd:∀ (m:List Bool) (i:Nat),i<m.length->m.getD i false=false->iV (m.set i true)=iV m+1
 | [],i,h,_=>by simp at h
 | b::m,0,_,h=>by
  have:b=false:=by simpa using h
  subst this;simp [iV]
 | b::m,i+1,h,aK=>by
  have:=Nd m i (by simpa using h) (by simpa using aK);unfold iV at this ⊢;simp only [List.set_cons_succ,List.filter_cons];cases b <;> simp [this]
theorem T6 (m:List Bool):iV m<=m.length:=List.length_filter_le _ _
theorem lG {α:Type}{r:List α}{k:Nat}(h:k<r.length):r.take (k+1)=r.take k++[r[k]]:=by
 simp_all
theorem Hg (k:Nat) (h:k<=1000000000000):aG ((k:Int)+1)=((k+1:Nat):Int):=by
 grind [cv]
def allI (g:bA):List Item:=(List.range g.bu.length).flatMap λp=>(List.range 9).map λd=>(⟨(p:Nat),(d:Nat)⟩:Item)
theorem SH (g:bA):(allI g).length=g.bu.length * 9:=by
 have:∀ l:List Nat,(l.map λ_=>9).sum=l.length * 9:=λl=>by
  induction l with
  | nil=>rfl
  | cons a l aO=>simp only [List.map_cons,List.sum_cons,aO,List.length_cons]; omega
 simp [allI,List.length_flatMap,this]
theorem YQ {g:bA}(aN:f' g) {x:Item}(h:iM g x):x∈allI g:=by
 obtain ⟨q,a_,aK,h1⟩:=h;obtain ⟨af,aE,bm⟩:=ka a_;have:=aN.aF q bm;refine List.mem_flatMap.2 ⟨x.Prod.toNat,by simp; omega,List.mem_map.2 ⟨x.ee.toNat,by simp; omega,?_⟩⟩;obtain ⟨a,b⟩:=x;simp only at aK af ⊢;congr 1 <;> omega
theorem tO {g:bA}(aN:f' g) {l:List Item}(ah:fg gM l) (hi:∀ x∈l,iM g x):l.length<=540:=by
 have:=Ae (ah.nd vX) λx J=>YQ aN (hi x J);rw [SH] at this;have:=aN.jd;omega
theorem S6 {l:List Item}(ah:fg gM l) {i j:Nat}(hi:i<l.length) (ag:j<l.length) (h:i<j):gM l[i] l[j]=true:=List.pairwise_iff_getElem.1 ah i j hi ag h
theorem H9 (l:List Item) (x:Item) (ah:fg gM l) (aC:l.length<=100000):Tot (yd l x) λr=>fg gM r/\(∀ y,y∈r↔y∈l\/y=x):=by
 unfold yd;refine .aB (Ξ:=λz:Int=>∃ k:Nat,z=(k:Int)/\k<=l.length/\(∀ (i:Nat) (h:i<l.length),k<=i->gM x l[i]=true)/\∀ (h:0<k),gM x (l[k - 1]?.getD default)=false) ?_ λz aW=>?_
 ·refine Tot.count (λs=>-s) 1 (λs=>∃ k:Nat,s=(k:Int)/\k<=l.length/\∀ (i:Nat) (h:i<l.length),k<=i->gM x l[i]=true) ⟨l.length,rfl,Nat.le_refl _,λi h hk=>by omega⟩ (by show 1 - -(l.length:Int)<_; omega) λs av=>?_;obtain ⟨k,rfl,hk,uo⟩:=av;refine .aB (Ξ:=λc:Bool=>(c=true->0<k/\gM x (l[k - 1]?.getD default)=true)/\(c=false->∀ (h:0<k),gM x (l[k - 1]?.getD default)=false)) ?_ λc aa=>Tot.bH (λh=>?_) (λh=>.aj ⟨k,rfl,hk,uo,aa.2 h⟩)
  ·refine Tot.bt (λh=>?_) (λh=>.aj ⟨λaI=>(by cases aI),λ_ aI=>by omega⟩);have gz:k - 1<l.length:=by omega
   have hw:aG ((k:Int) - 1)=((k - 1:Nat):Int):=by rw [cv]; omega
   rw [hw,dT gz,List.getElem?_eq_getElem gz];simp only [Option.bind_some,Option.getD_some];generalize l[k - 1]=y;refine Tot.bt (λh1=>.aj ⟨λ_=>⟨by omega,KX.2 (.inl h1)⟩,λaI=>(by cases aI)⟩) (λh1=>Tot.bt (λaf=>.aj ⟨λaE=>⟨by omega,KX.2 (.inr ⟨af.symm,of_decide_eq_true aE⟩)⟩,λaE _=>?_⟩) (λaf=>.aj ⟨λaI=>(by cases aI),λ_ _=>?_⟩))
   ·have:=of_decide_eq_false aE;rw [Da]; omega
   ·rw [Da]; omega
  ·obtain ⟨aK,h1⟩:=aa.1 h;refine .aj ⟨⟨k - 1,by rw [cv]; omega,by omega,λi hi Xj=>?_⟩,by show -(k:Int) < -aG _; rw [cv]; omega,by show -aG _<=1; rw [cv]; omega⟩;by_cases e:i=k - 1
   ·subst e;rw [List.getElem?_eq_getElem hi] at h1;exact h1
   ·exact uo i hi (by omega)
 ·obtain ⟨k,rfl,hk,uo,mi⟩:=aW;refine .aB (Ξ:=λc:Bool=>(c=true↔(0<k/\l[k - 1]?.getD default=x))) ?_ λc aa=>Tot.bH (λh=>?_) (λh=>?_)
  ·refine Tot.bt (λh=>?_) (λh=>.aj ⟨λaI=>(by cases aI),λaI=>by omega⟩);have gz:k - 1<l.length:=by omega
   have hw:aG ((k:Int) - 1)=((k - 1:Nat):Int):=by rw [cv]; omega
   rw [hw,dT gz,List.getElem?_eq_getElem gz];simp only [Option.bind_some,Option.getD_some];generalize l[k - 1]=y;refine .aj ?_;obtain ⟨bF,y2⟩:=y;obtain ⟨aR,x2⟩:=x;simp only [Bool.and_true,Bool.and_eq_true,decide_eq_true_eq,Item.mk.injEq];exact ⟨λaI=>⟨by omega,aI⟩,λaI=>aI.2⟩
  ·obtain ⟨aK,h1⟩:=aa.1 h;have gz:k - 1<l.length:=by omega
   rw [List.getElem?_eq_getElem gz] at h1;have J:x∈l:=by rw [<- h1]; exact List.getElem_mem gz
   exact .aj ⟨ah,λy=>⟨.inl,λh=>h.elim id λe=>e ▸ J⟩⟩
  ·have cS:∀ (i:Nat) (hi:i<l.length),i<k->gM l[i] x=true:=by
    intro i hi vA;have gz:k - 1<l.length:=by omega
    have mi:=mi (by omega);have aC:l[k - 1]?.getD default≠x:=λe=>by rw [aa.2 ⟨by omega,e⟩] at h; cases h
    rw [List.getElem?_eq_getElem gz] at mi aC;simp only [Option.getD_some] at mi aC;have fF:gM l[k - 1] x=true:=by
     cases bO:gM l[k - 1] x with
     | true=>rfl
     | false=>exact absurd (vX.jz _ _ bO mi) aC
    by_cases e:i=k - 1
    ·subst e; exact fF
    ·exact vX.swo.trans _ _ _ (S6 ah hi gz (by omega)) fF
   refine .aB (Ξ:=λz=>z=l.take k) (Tot.sub ⟨by omega,by omega,by omega⟩ (by simp)) λz aW=>?_;subst aW;refine .bJ<|.bJ<|?_;refine .aB (Ξ:=λz=>z=l.drop k) (Tot.sub ⟨by omega,by omega,by omega⟩ ?_) λz aW=>?_
   ·rw [List.take_of_length_le]
    ·congr 1
    ·rw [List.length_drop]; omega
   subst aW;refine .bJ<|.aj ?_;rw [List.nil_append];constructor
   ·have h1:∀ a∈l.take k,gM a x=true:=by
     intro a aJ;obtain ⟨i,hi,rfl⟩:=List.mem_iff_getElem.1 aJ;rw [List.length_take] at hi;rw [List.getElem_take];exact cS i (by omega) (by omega)
    have af:∀ a∈l.drop k,gM x a=true:=by
     intro a aJ;obtain ⟨i,hi,rfl⟩:=List.mem_iff_getElem.1 aJ;rw [List.length_drop] at hi;rw [List.getElem_drop];exact uo (k+i) (by omega) (by omega)
    unfold fg;rw [List.append_assoc,List.pairwise_append];refine ⟨List.Pairwise.sublist (List.take_sublist k l) ah,?_,λa aJ b ar=>?_⟩
    ·rw [List.singleton_append,List.pairwise_cons];exact ⟨af,List.Pairwise.sublist (List.drop_sublist k l) ah⟩
    ·rcases List.mem_append.1 ar with ar | ar
     ·rw [List.mem_singleton.1 ar]; exact h1 a aJ
     ·exact vX.swo.trans _ _ _ (h1 a aJ) (af b ar)
   ·intro y;rw [List.append_assoc,List.mem_append,List.mem_append,List.mem_singleton];have hm:y∈l↔y∈l.take k\/y∈l.drop k:=by
     rw [<- List.mem_append,List.take_append_drop]
    rw [hm];constructor
    ·rintro (h | h | h)
     ·exact .inl (.inl h)
     ·exact .inr h
     ·exact .inl (.inr h)
    ·rintro ((h | h) | h)
     ·exact .inl h
     ·exact .inr (.inr h)
     ·exact .inr (.inl h)
theorem TE (g:bA) (aN:f' g) (l:List Item) (ah:l.length<=1000000):Tot (DD g l) λr=>fg gM r/\∀ x,x∈r↔x∈l/\iM g x:=by
 unfold DD;refine .aB (Ξ:=λr=>fg gM r/\∀ x,x∈r↔x∈l/\iM g x) ?_ λr hr=>.aj hr;refine Tot.count (λs=>s.2) l.length (λs=>∃ k:Nat,k<=l.length/\s.2=(k:Int)/\fg gM s.1/\∀ x,x∈s.1↔x∈l.take k/\iM g x) ⟨0,Nat.zero_le _,rfl,List.Pairwise.nil,λx=>by simp⟩ (by show (l.length:Int) - 0<_; omega) λs av=>?_;obtain ⟨out,kc⟩:=s;obtain ⟨k,hk,rfl,aJ,hm⟩:=av;simp only at aJ hm ⊢;rw [Hg k (by omega)];refine Tot.bt (λaP=>?_) (λdF=>.aj ?_)
 ·have aP:k<l.length:=by omega
  rw [dT aP];refine .aB (Ξ:=λo:List Item=>fg gM o/\∀ x,x∈o↔x∈l.take (k+1)/\iM g x) ?_ λo aX=>.aj ⟨⟨k+1,by omega,rfl,aX⟩,by show (k:Int)<((k+1:Nat):Int); omega,by show ((k+1:Nat):Int)<=_; omega⟩;obtain ⟨c,aa,hi⟩:=Nn g l[k];rw [lG aP];refine Tot.aV ?_;rw [aa];refine Tot.aV (.aB (Ξ:=λo:List Item=>fg gM o/\∀ x,x∈o↔x∈l.take k++[l[k]]/\iM g x) (Tot.bH (λh=>?_) (λh=>.aj ⟨aJ,λx=>?_⟩)) λo aX=>.aj aX)
  ·have Cy:=tO aN aJ λx J=>((hm x).1 J).2;refine Tot.aV (.aB (H9 out _ aJ (by omega)) λo aX=>.aj ⟨aX.1,λx=>?_⟩);rw [aX.2 x,List.mem_append,List.mem_singleton,hm x];constructor
   ·rintro (⟨h1,af⟩ | rfl)
    ·exact ⟨.inl h1,af⟩
    ·exact ⟨.inr rfl,hi.1 h⟩
   ·rintro ⟨h1 | rfl,af⟩
    ·exact .inl ⟨h1,af⟩
    ·exact .inr rfl
  ·rw [List.mem_append,List.mem_singleton,hm x];constructor
   ·rintro ⟨h1,af⟩;exact ⟨.inl h1,af⟩
   ·rintro ⟨h1 | rfl,af⟩
    ·exact ⟨h1,af⟩
    ·rw [hi.2 af] at h; cases h
 ·have:k=l.length:=by omega
  subst this;rw [List.take_length] at hm;exact ⟨aJ,hm⟩
def wD (g:bA) (out:List Item) (x:Item):Prop:=1000<=gA g x->∀ (p:Nat) (q:Prod),g.bu[p]?=some q->q.Left=gA g x - 1000->(⟨p,0⟩:Item)∈out
theorem H8 (g:bA) (aN:f' g) (l:List Item) (ah:l.length<=1000000):Tot (x_ g l) λr=>fg gM r/\∀ x,x∈r↔l' g l x:=by
 have rk:=aN.jd;unfold x_;refine .aB (TE g aN l ah) λaR h1=>.aB (Ξ:=λr=>fg gM r/\∀ x,x∈r↔l' g l x) ?_ λr hr=>.aj hr;obtain ⟨Wm,vC⟩:=h1;refine Tot.loop (λs=>fg gM s.1/\(∀ x∈s.1,l' g l x)/\(∀ x∈l,iM g x->x∈s.1)/\(s.2=(s.1.length:Int)->∀ x∈s.1,wD g s.1 x)) (λs=>2 * (1000 - s.1.length)+(if s.2=(s.1.length:Int) then 0 else 1)) ⟨Wm,λx J=>.base ((vC x).1 J).1 ((vC x).1 J).2,λx J hi=>(vC x).2 ⟨J,hi⟩,λh=>by have h:(-1:Int)=_:=h; omega⟩ (by
  show 2 * (1000 - aR.length)+(if (-1:Int)=_ then 0 else 1)<1000000000000000000
  split <;> omega) λs av=>?_
 obtain ⟨out,n⟩:=s;obtain ⟨aJ,hL,vu,hT⟩:=av;simp only at aJ hL vu hT ⊢;have Cy:=tO aN aJ λx J=>(hL x J).iM;refine Tot.q8 (λcS=>?_) (λhe=>.aj ⟨aJ,λx=>⟨hL x,λJ=>?_⟩⟩)
 ·refine .aB (Ξ:=λj:List Item × Int=>j.2=(out.length:Int)/\fg gM j.1/\(∀ x∈j.1,l' g l x)/\(∀ x∈out,x∈j.1)/\(j.1.length=out.length->∀ x∈j.1,wD g j.1 x)) ?_ λj ag=>?_
  ·refine .aB (Ξ:=λr:List Item=>fg gM r/\(∀ x∈r,l' g l x)/\(∀ x∈out,x∈r)/\(r.length=out.length->∀ x∈r,wD g r x)) ?_ λr hr=>.aj ⟨rfl,hr⟩;refine .aB (Ξ:=λr:List Item=>fg gM r/\(∀ x∈r,l' g l x)/\(∀ x∈out,x∈r)/\(r.length=out.length->∀ x∈r,wD g r x)) ?_ λr hr=>.aj hr;refine Tot.count (λs=>s.2) out.length (λs=>∃ k:Nat,k<=out.length/\s.2=(k:Int)/\s.1=out/\∀ (j:Nat) (h:j<out.length),j<k->wD g out out[j]) ⟨0,Nat.zero_le _,rfl,rfl,λj _ ag=>absurd ag (Nat.not_lt_zero _)⟩ (by show (out.length:Int) - 0<_; omega) λs av=>?_;obtain ⟨cur,kc⟩:=s;obtain ⟨k,hk,rfl,rfl,Ov⟩:=av;simp only;rw [Hg k (by omega)];refine Tot.bt (λaP=>?_) (λdF=>.aj ⟨aJ,hL,λ_ h=>h,λ_ x J=>?_⟩)
   ·have aP:k<cur.length:=by omega
    rw [dT aP];have zZ:=hL _ (List.getElem_mem aP);have CW:∀ P:Item->Prop,P cur[k]->∀ (j:Nat) (h:j<cur.length),j=k->P cur[j]:=λP bT j h e=>by subst e; exact bT
    generalize J:cur[k]=x at *;have aeD:=Y4 aN x;have hw:aG (gA g x - 1000)=gA g x - 1000:=by rw [cv]; omega
    simp only [Option.bind_some,IE g x,hw];refine (.aB (Ξ:=λr:List Item=>fg gM r/\(∀ x∈r,l' g l x)/\(∀ x∈cur,x∈r)/\wD g r x) ?_ λr hr=>?_)
    ·refine Tot.count (λs=>s.2) g.bu.length (λs=>∃ i:Nat,i<=g.bu.length/\s.2=(i:Int)/\fg gM s.1/\(∀ x∈s.1,l' g l x)/\(∀ x∈cur,x∈s.1)/\∀ (p:Nat) (q:Prod),p<i->g.bu[p]?=some q->q.Left=gA g x - 1000->(⟨p,0⟩:Item)∈s.1) ⟨0,Nat.zero_le _,rfl,aJ,hL,λ_ h=>h,λp q aq=>absurd aq (Nat.not_lt_zero _)⟩ (by show (g.bu.length:Int) - 0<_; omega) λs av=>?_;obtain ⟨o,ss⟩:=s;obtain ⟨i,hi,rfl,sf,Cx,FE,vF⟩:=av;simp only at sf Cx FE vF ⊢;rw [Hg i (by omega)];refine .aB (Ξ:=λc:Bool=>(c=true->i<g.bu.length/\1000<=gA g x)/\(c=false->g.bu.length<=i\/gA g x<1000)) (Tot.bt (λh=>.aj ⟨λaI=>⟨by omega,of_decide_eq_true aI⟩,λaI=>.inr (by have:=of_decide_eq_false aI; omega)⟩) (λh=>.aj ⟨λaI=>(by cases aI),λ_=>.inl (by omega)⟩)) λc aa=>Tot.bH (λh=>?_) (λh=>.aj ⟨sf,Cx,FE,λaK p q aq=>?_⟩)
     ·obtain ⟨JW,aK⟩:=aa.1 h;have OV:g.bu[i]?=some g.bu[i]:=List.getElem?_eq_getElem JW;rw [dT JW];refine .aB (Ξ:=λo:List Item=>fg gM o/\(∀ x∈o,l' g l x)/\(∀ x∈cur,x∈o)/\∀ (p:Nat) (q:Prod),p<i+1->g.bu[p]?=some q->q.Left=gA g x - 1000->(⟨p,0⟩:Item)∈o) ?_ λo aX=>.aj ⟨⟨i+1,by omega,rfl,aX⟩,by show (i:Int)<((i+1:Nat):Int); omega,by show ((i+1:Nat):Int)<=_; omega⟩;refine Tot.aV (.aB (Ξ:=λo:List Item=>fg gM o/\(∀ x∈o,l' g l x)/\(∀ x∈cur,x∈o)/\∀ (p:Nat) (q:Prod),p<i+1->g.bu[p]?=some q->q.Left=gA g x - 1000->(⟨p,0⟩:Item)∈o) (Tot.bt (λh=>?_) (λh=>.aj ⟨sf,Cx,FE,λp q aq CD a_=>?_⟩)) λo aX=>.aj aX)
      ·have aeA:=tO aN sf λx J=>(Cx x J).iM;refine .aB (H9 o ⟨(i:Nat),0⟩ sf (by omega)) λr hr=>.aj ⟨hr.1,λy ao=>?_,λy ao=>(hr.2 y).2 (.inl (FE y ao)),λp q aq CD a_=>?_⟩
       ·rcases (hr.2 y).1 ao with ao | rfl
        ·exact Cx y ao
        ·exact .step zZ OV (by omega) aK
       ·by_cases b9:p=i
        ·subst b9; exact (hr.2 _).2 (.inr rfl)
        ·exact (hr.2 _).2 (.inl (vF p q (by omega) CD a_))
      ·by_cases b9:p=i
       ·subst b9;rw [OV] at CD; cases CD;exact absurd a_ h
       ·exact vF p q (by omega) CD a_
     ·rcases aa.2 h with h1 | h1
      ·exact vF p q (by have:=(List.getElem?_eq_some_iff.1 aq).1; omega) aq
      ·omega
    ·obtain ⟨vH,XB,lz,XH⟩:=hr;have hle:cur.length<=r.length:=Ae (aJ.nd vX) lz;refine Tot.q8 (λJ5=>.aj ⟨vH,XB,lz,λe=>absurd (by omega) J5⟩) (λheq=>?_);have oH:r.length=cur.length:=by omega
     have CI:r=cur:=by
      have mS:∀ y,y∈cur↔y∈r:=by
       intro y;refine ⟨lz y,λao=>Classical.byContradiction λaC=>?_⟩;have:=Ae (l:=y::cur) (m:=r) (List.nodup_cons.2 ⟨aC,aJ.nd vX⟩) λz aW=>by
        rcases List.mem_cons.1 aW with rfl | aW
        ·exact ao
        ·exact lz z aW
       simp at this;omega
      exact (fg.uniq vX aJ vH mS).symm
     subst CI;refine .aj ⟨⟨k+1,by omega,rfl,rfl,λj ag gH=>?_⟩,by show (k:Int)<((k+1:Nat):Int); omega,by show ((k+1:Nat):Int)<=_; omega⟩;by_cases b9:j=k
     ·exact CW (wD g r) XH j ag b9
     ·exact Ov j ag (by omega)
   ·obtain ⟨j,ag,rfl⟩:=List.mem_iff_getElem.1 J;exact Ov j ag (by omega)
  ·obtain ⟨h1,af,aE,bm,b7⟩:=ag;have hle:out.length<=j.1.length:=Ae (aJ.nd vX) bm;have eF:=tO aN af λx J=>(aE x J).iM;refine .aj ⟨⟨af,aE,λx J hi=>bm x (vu x J hi),λe=>b7 (by show j.1.length=_; have e:j.2=(j.1.length:Int):=e; omega)⟩,?_⟩;show 2 * (1000 - j.1.length)+(if j.2=(j.1.length:Int) then 0 else 1)<2 * (1000 - out.length)+(if n=(out.length:Int) then 0 else 1)
   rw [if_neg cS];split
   ·omega
   ·have:j.1.length≠out.length:=λe=>by omega
    omega
 ·have aa:=hT he
  induction J with
  | base h hi=>exact vu _ h hi
  | @step x q p h aq aC aK aO=>exact aa x aO aK p q aq (by omega)
def qa (g:bA) (l:List Item) (a:Int) (y:Item):Prop:=∃ x,l' g l x/\gA g x=a/\0<=a/\y=⟨x.Prod,x.ee+1⟩
theorem Pr {g:bA}(aN:f' g) {x:Item}(h:0<=gA g x):iM g ⟨x.Prod,x.ee+1⟩:=by
 obtain ⟨_,_,q,a_,av⟩:=Gm aN h;obtain ⟨aK,h1,_⟩:=ka av;exact ⟨q,a_,by show 0<=x.ee+1; omega,by show x.ee+1<=_; omega⟩
theorem YE {g:bA}(aN:f' g) {x:Item}(h:iM g x):0<=x.ee/\x.ee<=8:=by
 obtain ⟨q,a_,aK,h1⟩:=h;have:=aN.aF q (ka a_).2.2;omega
theorem qa.iM {g:bA}(aN:f' g) {l:List Item}{a:Int}{y:Item}(h:qa g l a y):iM g y:=by
 obtain ⟨x,_,h1,af,rfl⟩:=h;exact Pr aN (by omega)
theorem Ty (g:bA) (aN:f' g) (l:List Item) (a:Int) (ah:l.length<=1000000):Tot (Du g l a) λr=>fg gM r/\∀ y,y∈r↔qa g l a y:=by
 unfold Du;refine .aB (H8 g aN l ah) λc aa=>.aB (Ξ:=λr=>fg gM r/\∀ y,y∈r↔qa g l a y) ?_ λr hr=>.aj hr;have hT:=tO aN aa.1 λx J=>((aa.2 x).1 J).iM;refine Tot.count (λs=>s.2) c.length (λs=>∃ k:Nat,k<=c.length/\s.2=(k:Int)/\fg gM s.1/\∀ y,y∈s.1↔∃ x∈c.take k,gA g x=a/\0<=a/\y=⟨x.Prod,x.ee+1⟩) ⟨0,Nat.zero_le _,rfl,List.Pairwise.nil,λy=>by simp⟩ (by show (c.length:Int) - 0<_; omega) λs av=>?_;obtain ⟨o,kc⟩:=s;obtain ⟨k,hk,rfl,sf,Cz⟩:=av;simp only at sf Cz ⊢;rw [Hg k (by omega)];refine Tot.bt (λaP=>?_) (λdF=>.aj ⟨sf,λy=>?_⟩)
 ·have aP:k<c.length:=by omega
  have Yl:=((aa.2 _).1 (List.getElem_mem aP)).iM;have fP:c.take (k+1)=c.take k++[c[k]]:=lG aP;rw [dT aP];generalize c[k]=x at *;have aQ:=YE aN Yl;have hw:aG (x.ee+1)=x.ee+1:=by rw [cv]; omega
  refine .aB (Ξ:=λo:List Item=>fg gM o/\∀ y,y∈o↔∃ x∈c.take (k+1),gA g x=a/\0<=a/\y=⟨x.Prod,x.ee+1⟩) ?_ λo aX=>.aj ⟨⟨k+1,by omega,rfl,aX⟩,by show (k:Int)<((k+1:Nat):Int); omega,by show ((k+1:Nat):Int)<=_; omega⟩;have mS:∀ y,(∃ z∈c.take (k+1),gA g z=a/\0<=a/\y=(⟨z.Prod,z.ee+1⟩:Item))↔(y∈o\/(gA g x=a/\0<=a/\y=⟨x.Prod,x.ee+1⟩)):=by
   intro y;rw [Cz y,fP];constructor
   ·rintro ⟨z,aW,h⟩;rcases List.mem_append.1 aW with aW | aW
    ·exact .inl ⟨z,aW,h⟩
    ·rw [List.mem_singleton.1 aW] at h; exact .inr h
   ·rintro (⟨z,aW,h⟩ | h)
    ·exact ⟨z,by simp [aW],h⟩
    ·exact ⟨x,by simp,h⟩
  simp only [Option.bind_some,IE g x,hw];refine (.aB (Ξ:=λb:Bool=>b=decide (0<=gA g x/\gA g x=a)) (Tot.bt (λh=>.aj (by simp [h])) (λh=>.aj (by simp [h]))) λb ar=>?_);subst ar;refine .aB (Ξ:=λo:List Item=>fg gM o/\∀ y,y∈o↔∃ x∈c.take (k+1),gA g x=a/\0<=a/\y=⟨x.Prod,x.ee+1⟩) (Tot.bt (λh=>?_) (λh=>.aj ⟨sf,λy=>?_⟩)) λo aX=>.aj aX
  ·have Cy:=tO aN sf λy ao=>by
    obtain ⟨z,_,h1,af,rfl⟩:=(Cz y).1 ao;exact Pr aN (by omega)
   refine (.aB (H9 o _ sf (by omega)) λr hr=>.aj ⟨hr.1,λy=>?_⟩);rw [hr.2 y,mS y];constructor
   ·rintro (h1 | h1)
    ·exact .inl h1
    ·exact .inr ⟨h.2,by omega,h1⟩
   ·rintro (h1 | h1)
    ·exact .inl h1
    ·exact .inr h1.2.2
  ·rw [mS y];exact ⟨.inl,λaI=>aI.elim id λaI=>absurd ⟨by omega,aI.1⟩ h⟩
 ·have:k=c.length:=by omega
  subst this;rw [List.take_length] at Cz;rw [Cz y];constructor
  ·rintro ⟨x,J,h⟩;exact ⟨x,(aa.2 x).1 J,h⟩
  ·rintro ⟨x,J,h⟩;exact ⟨x,(aa.2 x).2 J,h⟩
def iP (a b:Int):Bool:=decide (a<b)
theorem PN {a b:Int}:iP a b=true↔a<b:=by simp [iP]
theorem K0 {a b:Int}:iP a b=false↔¬ a<b:=by simp [iP]
theorem Gp:Ord iP where
 swo:=⟨λx=>by rw [K0]; omega,λx y z h1 af=>by rw [PN] at *; omega,λx y z h1 af=>by rw [K0] at *; omega⟩
 jz:=λx y h1 af=>by rw [K0] at *; omega
theorem MO {l:List Int}(ah:fg iP l) {i j:Nat}(hi:i<l.length) (ag:j<l.length) (h:i<j):iP l[i] l[j]=true:=List.pairwise_iff_getElem.1 ah i j hi ag h
theorem E_ (l:List Int) (x:Int) (ah:fg iP l) (aC:l.length<=100000):Tot (qI l x) λr=>fg iP r/\r.length<=l.length+1/\(∀ y,y∈r↔y∈l\/y=x):=by
 unfold qI;refine .aB (Ξ:=λz:Int=>∃ k:Nat,z=(k:Int)/\k<=l.length/\(∀ (i:Nat) (h:i<l.length),k<=i->iP x l[i]=true)/\∀ (h:0<k),iP x (l[k - 1]?.getD default)=false) ?_ λz aW=>?_
 ·refine Tot.count (λs=>-s) 1 (λs=>∃ k:Nat,s=(k:Int)/\k<=l.length/\∀ (i:Nat) (h:i<l.length),k<=i->iP x l[i]=true) ⟨l.length,rfl,Nat.le_refl _,λi h hk=>by omega⟩ (by show 1 - -(l.length:Int)<_; omega) λs av=>?_;obtain ⟨k,rfl,hk,uo⟩:=av;refine .aB (Ξ:=λc:Bool=>(c=true->0<k/\iP x (l[k - 1]?.getD default)=true)/\(c=false->∀ (h:0<k),iP x (l[k - 1]?.getD default)=false)) ?_ λc aa=>Tot.bH (λh=>?_) (λh=>.aj ⟨k,rfl,hk,uo,aa.2 h⟩)
  ·refine Tot.bt (λh=>?_) (λh=>.aj ⟨λaI=>(by cases aI),λ_ aI=>by omega⟩);have gz:k - 1<l.length:=by omega
   have hw:aG ((k:Int) - 1)=((k - 1:Nat):Int):=by rw [cv]; omega
   rw [hw,dT gz,List.getElem?_eq_getElem gz];simp only [Option.bind_some,Option.getD_some];exact .aj ⟨λaI=>⟨by omega,aI⟩,λaI _=>aI⟩
  ·obtain ⟨aK,h1⟩:=aa.1 h;refine .aj ⟨⟨k - 1,by rw [cv]; omega,by omega,λi hi Xj=>?_⟩,by show -(k:Int) < -aG _; rw [cv]; omega,by show -aG _<=1; rw [cv]; omega⟩
   grind
 ·obtain ⟨k,rfl,hk,uo,mi⟩:=aW;refine .aB (Ξ:=λc:Bool=>(c=true↔(0<k/\l[k - 1]?.getD default=x))) ?_ λc aa=>Tot.bH (λh=>?_) (λh=>?_)
  ·refine Tot.bt (λh=>?_) (λh=>.aj ⟨λaI=>(by cases aI),λaI=>by omega⟩);have gz:k - 1<l.length:=by omega
   have hw:aG ((k:Int) - 1)=((k - 1:Nat):Int):=by rw [cv]; omega
   rw [hw,dT gz,List.getElem?_eq_getElem gz];simp only [Option.bind_some,Option.getD_some];generalize l[k - 1]=y;refine .aj ?_
   grind
  ·obtain ⟨aK,h1⟩:=aa.1 h;have gz:k - 1<l.length:=by omega
   rw [List.getElem?_eq_getElem gz] at h1;have J:x∈l:=by rw [<- h1]; exact List.getElem_mem gz
   exact .aj ⟨ah,by omega,λy=>⟨.inl,λh=>h.elim id λe=>e ▸ J⟩⟩
  ·have cS:∀ (i:Nat) (hi:i<l.length),i<k->iP l[i] x=true:=by
    intro i hi vA;have gz:k - 1<l.length:=by omega
    have mi:=mi (by omega);have aC:l[k - 1]?.getD default≠x:=λe=>by rw [aa.2 ⟨by omega,e⟩] at h; cases h
    rw [List.getElem?_eq_getElem gz] at mi aC;simp only [Option.getD_some] at mi aC;have fF:iP l[k - 1] x=true:=by
     grind [iP]
    by_cases e:i=k - 1
    ·grind
    ·exact Gp.swo.trans _ _ _ (MO ah hi gz (by omega)) fF
   refine .aB (Ξ:=λz=>z=l.take k) (Tot.sub ⟨by omega,by omega,by omega⟩ (by simp)) λz aW=>?_;subst aW;refine .bJ<|.bJ<|?_;refine .aB (Ξ:=λz=>z=l.drop k) (Tot.sub ⟨by omega,by omega,by omega⟩ ?_) λz aW=>?_
   ·grind [List.take_of_length_le]
   subst aW;refine .bJ<|.aj ?_;rw [List.nil_append];refine ⟨?_,?_,?_⟩
   ·have h1:∀ a∈l.take k,iP a x=true:=by
     grind [List.mem_iff_getElem]
    have af:∀ a∈l.drop k,iP x a=true:=by
     grind [List.mem_iff_getElem]
    unfold fg;rw [List.append_assoc,List.pairwise_append];refine ⟨List.Pairwise.sublist (List.take_sublist k l) ah,?_,λa aJ b ar=>?_⟩
    ·rw [List.singleton_append,List.pairwise_cons];exact ⟨af,List.Pairwise.sublist (List.drop_sublist k l) ah⟩
    ·rcases List.mem_append.1 ar with ar | ar
     ·grind
     ·exact Gp.swo.trans _ _ _ (h1 a aJ) (af b ar)
   ·grind
   grind [List.take_append_drop]
theorem p3 {α:Type}{l:List α}{k:Nat}{x:α}(hk:k<l.length) (i:Nat):(l.set k x)[i]?=if i=k then some x else l[i]?:=by
 rw [List.getElem?_set];by_cases e:k=i
 ·subst e; simp [hk]
 ·simp [e,Ne.symm e]
theorem U5 (x y:Item):(decide (x.Prod=y.Prod)&&(decide (x.ee=y.ee)&&true))=decide (x=y):=by
 obtain ⟨aR,x2⟩:=x;obtain ⟨bF,y2⟩:=y;simp
theorem TF (a b:List Item) (h:a.length<=1000000):Tot (DE a b) λc=>(c=true↔a=b):=by
 unfold DE;refine Tot.q8 (λcS=>.aj ⟨λh=>(by cases h),λe=>absurd (by rw [e]) cS⟩) (λhe=>?_);have ah:a.length=b.length:=by omega
 refine Tot.aB (Ξ:=ie (λ_=>a=b) (λx:Bool=>x=false/\a≠b)) ?_ λx J=>?_
 ·refine Tot.count (λs=>s) a.length (λs=>∃ k:Nat,k<=a.length/\s=(k:Int)/\∀ (j:Nat) (h:j<a.length),j<k->a[j]=b[j]) ⟨0,Nat.zero_le _,rfl,λj _ ag=>absurd ag (Nat.not_lt_zero _)⟩ (by show (a.length:Int) - 0<_; omega) λs av=>?_;obtain ⟨k,hk,rfl,lv⟩:=av;rw [eA k (by omega)];refine Tot.bt (λaP=>?_) (λdF=>.aj ?_)
  ·have aP:k<a.length:=by omega
   have zP:k<b.length:=by omega
   rw [dT aP,dT zP];simp only [Option.bind_some,U5];refine Tot.q8 (λcS=>.aj ⟨rfl,λe=>cS (by subst e; rfl)⟩) (λheq=>.aj ⟨⟨k+1,by omega,rfl,λj ag gH=>?_⟩,by show (k:Int)<((k+1:Nat):Int); omega,by show ((k+1:Nat):Int)<=_; omega⟩);by_cases e:j=k
   ·subst e; exact heq
   ·exact lv j ag (by omega)
  ·exact List.ext_getElem ah λi h1 af=>lv i h1 (by omega)
 ·rcases x with _ | x
  ·exact .aj ⟨λ_=>J,λ_=>rfl⟩
  ·obtain ⟨rfl,cS⟩:x=false/\a≠b:=J;exact .aj ⟨λh=>(by cases h),λh=>absurd h cS⟩
def syms (g:bA):List Int:=(List.range g.bo.length).map (λk:Nat=>(k:Int))++(List.range g.dD.length).map (λk:Nat=>1000+(k:Int))
theorem M7 (g:bA) (aX:f' g):Tot (Dt g) λl=>l=syms g:=by
 have cX:=aX.lk;have bp:=aX.e1;unfold Dt;refine .aB (Ξ:=λl:List Int=>l=(List.range g.bo.length).map (λk:Nat=>(k:Int))) ?_ λl ah=>?_
 ·refine Tot.upto (λs=>s.2) g.bo.length (λk s=>s.1=(List.range k).map (λk:Nat=>(k:Int))) rfl (by omega) rfl λk s hk he bc=>?_;obtain ⟨l,i⟩:=s;simp only at he bc ⊢;subst he bc;rw [eA k (by omega)];refine Tot.bt (λaP=>?_) (λdF=>.aj ?_)
  ·refine .bJ<|.aj ⟨by omega,rfl,?_⟩;show _=(List.range (k+1)).map _;rw [List.range_succ,List.map_append]; rfl
  ·have:k=g.bo.length:=by omega
   subst this; rfl
 ·subst ah;refine .aB (Ξ:=λl:List Int=>l=syms g) ?_ λr hr=>.aj hr;refine Tot.upto (λs=>s.2) g.dD.length (λk s=>s.1=(List.range g.bo.length).map (λk:Nat=>(k:Int))++(List.range k).map (λk:Nat=>1000+(k:Int))) rfl (by omega) (by simp) λk s hk he bc=>?_;obtain ⟨l,i⟩:=s;simp only at he bc ⊢;subst he bc;rw [eA k (by omega)];refine Tot.bt (λaP=>?_) (λdF=>.aj ?_)
  ·refine .bJ<|.aj ⟨by omega,rfl,?_⟩;have hw:aG (1000+(k:Int))=1000+(k:Int):=by rw [cv]; omega
   show _=_++(List.range (k+1)).map _;rw [hw,List.range_succ,List.map_append,List.append_assoc]; rfl
  ·have:k=g.dD.length:=by omega
   subst this; rfl
theorem aaS (g:bA):(syms g).length=g.bo.length+g.dD.length:=by simp [syms]
theorem PQ {g:bA}{s:Int}:s∈syms g↔(0<=s/\s<g.bo.length)\/(1000<=s/\s<1000+g.dD.length):=by
 unfold syms;rw [List.mem_append,List.mem_map,List.mem_map];constructor
 ·rintro (⟨k,hk,rfl⟩ | ⟨k,hk,rfl⟩)
  ·rw [List.mem_range] at hk; exact .inl (by omega)
  ·rw [List.mem_range] at hk; exact .inr (by omega)
 ·rintro (h | h)
  ·exact .inl ⟨s.toNat,by rw [List.mem_range]; omega,by omega⟩
  ·exact .inr ⟨(s - 1000).toNat,by rw [List.mem_range]; omega,by omega⟩
theorem LP {g:bA}(aX:f' g):(syms g).Nodup:=by
 have au:=aX.lk;unfold syms;rw [List.nodup_append];refine ⟨List.pairwise_map.2 ((List.nodup_range (n:=g.bo.length)).imp λ{a b} h e=>h (by omega)),List.pairwise_map.2 ((List.nodup_range (n:=g.dD.length)).imp λ{a b} h e=>h (by omega)),λa aJ b ar=>?_⟩;obtain ⟨i,hi,rfl⟩:=List.mem_map.1 aJ;obtain ⟨j,ag,rfl⟩:=List.mem_map.1 ar;rw [List.mem_range] at hi;omega
structure y4 (g:bA) (K:List Item):Prop where
 a:fg gM K
 i:∀ x∈K,iM g x
theorem y4.len {g:bA}(aX:f' g) {K:List Item}(h:y4 g K):K.length<=540:=tO aX h.a h.i
theorem r0 (l:List Int) (x:Int) (h:l.length<=1000000):Tot (yi l x) λc=>(c=true↔x∈l):=by
 unfold yi;refine .aB (Ξ:=ie (λ_=>x∉l) (λr:Bool=>r=true/\x∈l)) ?_ λr hr=>?_
 ·refine Tot.upto (λs=>s) l.length (λk s=>x∉l.take k) rfl (by omega) (by simp) λk s hk he bc=>?_;subst he;rw [eA k (by omega)];refine Tot.bt (λaP=>?_) (λdF=>.aj ?_)
  ·have aP:k<l.length:=by omega
   rw [dT aP];simp only [Option.bind_some];refine Tot.bt (λe=>.aj ⟨rfl,by rw [<- e]; exact List.getElem_mem aP⟩) (λe=>.aj ⟨aP,rfl,?_⟩);rw [lG aP,List.mem_append,List.mem_singleton];exact λh=>h.elim bc λh=>e h.symm
  ·rw [List.take_of_length_le (by omega)] at bc;exact bc
 ·rcases r with r | r
  ·exact .aj ⟨λh=>(by cases h),λh=>absurd h hr⟩
  ·obtain ⟨rfl,h⟩:=hr;exact .aj ⟨λ_=>h,λ_=>rfl⟩
structure y8 (g:bA) (n:Nat) (v:Move):Prop where
 s:v.Sym∈syms g
 t0:0<=v.rW
 t1:v.rW<n
structure nL (g:bA) (m:List State) (q j:Nat):Prop where
 gN:0<m.length
 nE:m.length<=150
 pW:∀ st∈m,y4 g st.Kernel
 ms:∀ (i:Nat) (st:State),m[i]?=some st->(st.dY.map (·.Sym)).Sublist (if i<q then syms g else if i=q then (syms g).take j else [])
 aT:∀ st∈m,∀ v∈st.dY,y8 g m.length v
structure nh (g:bA) (m:List State):Prop where
 gN:0<m.length
 nE:m.length<=150
 pW:∀ st∈m,y4 g st.Kernel
 xX:∀ st∈m,st.dY.length<=64
 nd:∀ st∈m,(st.dY.map (·.Sym)).Nodup
 aT:∀ st∈m,∀ v∈st.dY,y8 g m.length v
theorem y8.up {g:bA}{n cm:Nat}{v:Move}(h:y8 g n v) (aC:n<=cm):y8 g cm v:=⟨h.s,h.t0,by have:=h.t1; omega⟩
theorem nL.put {g:bA}{m:List State}{q j:Nat}(h:nL g m q j) {st:State}(a_:m[q]?=some st) {v:Move}(hv:y8 g m.length v) (ag:(syms g)[j]?=some v.Sym):nL g (m.set q ⟨st.Kernel,st.dY++[v]⟩) q (j+1):=by
 have kQ:=(List.getElem?_eq_some_iff.1 a_).1;have hm:=List.mem_of_getElem? a_;refine ⟨by rw [List.length_set]; exact h.gN,by rw [List.length_set]; exact h.nE,λs av=>?_,λi s av=>?_,λs av w hw=>?_⟩
 ·rcases List.mem_or_eq_of_mem_set av with aI | aI
  ·exact h.pW s aI
  ·rw [aI]; exact h.pW st hm
 ·rw [p3 kQ] at av;by_cases e:i=q
  ·subst e;rw [if_pos rfl] at av; cases av;have:=h.ms i st a_;rw [if_neg (by omega),if_pos rfl] at this ⊢;rw [List.map_append,List.take_add_one,ag];exact this.append (List.Sublist.refl _)
  ·rw [if_neg e] at av;have:=h.ms i s av;rw [if_neg e] at this ⊢;exact this
 ·rw [List.length_set];rcases List.mem_or_eq_of_mem_set av with aI | aI
  ·exact h.aT s aI w hw
  ·rw [aI] at hw;rcases List.mem_append.1 hw with hw | hw
   ·exact h.aT st hm w hw
   ·rw [List.mem_singleton.1 hw]; exact hv
theorem nL.more {g:bA}{m:List State}{q j:Nat}(h:nL g m q j) (ah:m.length<150) {K:List Item}(hk:y4 g K):nL g (m++[⟨K,[]⟩]) q j:=by
 refine ⟨by simp,by simp; omega,λs av=>?_,λi s av=>?_,λs av w hw=>?_⟩
 ·rcases List.mem_append.1 av with av | av
  ·exact h.pW s av
  ·rw [List.mem_singleton.1 av]; exact hk
 ·by_cases e:i<m.length
  ·rw [List.getElem?_append_left e] at av; exact h.ms i s av
  ·rw [List.getElem?_append_right (by omega)] at av;have:s=⟨K,[]⟩:=by
    have:=List.mem_of_getElem? av;simpa using this
   rw [this]; exact List.nil_sublist _
 ·rcases List.mem_append.1 av with av | av
  ·exact (h.aT s av w hw).up (by simp)
  ·rw [List.mem_singleton.1 av] at hw; cases hw
theorem nL.mono {g:bA}{m:List State}{q j vT:Nat}(h:nL g m q j) (ag:j<=vT):nL g m q vT:=by
 refine ⟨h.gN,h.nE,h.pW,λi s av=>?_,h.aT⟩;have:=h.ms i s av;split
 ·rename_i e; rw [if_pos e] at this; exact this
 ·rename_i e; rw [if_neg e] at this;split
  ·rename_i b5; rw [if_pos b5] at this;exact this.trans (List.take_sublist_take_left ag)
  ·rename_i b5; rw [if_neg b5] at this; exact this
theorem nL.next {g:bA}{m:List State}{q j:Nat}(h:nL g m q j):nL g m (q+1) 0:=by
 refine ⟨h.gN,h.nE,h.pW,λi s av=>?_,h.aT⟩;have:=h.ms i s av;by_cases e:i<q+1
 ·rw [if_pos e]
  split at this
  ·exact this
  ·split at this
   ·exact this.trans (List.take_sublist _ _)
   ·exact this.trans (List.nil_sublist _)
 ·rw [if_neg (by omega),if_neg (by omega)] at this;rw [if_neg e];exact this.trans (List.nil_sublist _)
theorem Pj {α:Type}{m:List α}{q:Nat}{x:α}(h:m[q]?=some x):idx m (q:Int)=some x:=by simp [idx,h]
def GoTo (m:List State) (a s r:Int):Prop:=(r=-1/\∀ st,idx m a=some st->∀ v∈st.dY,v.Sym≠s)\/∃ st v,idx m a=some st/\v∈st.dY/\v.Sym=s/\r=v.rW
theorem E9 (m:List State) (a s:Int) (hm:∀ st∈m,st.dY.length<=64):Tot (rE m a s) (GoTo m a s):=by
 unfold rE;by_cases aK:0<=a/\a<(m.length:Int)
 ·obtain ⟨st,bU,mS⟩:=nC aK.1 aK.2;have ah:=hm st mS;have d1:decide (0<=a)=true:=decide_eq_true aK.1;have d2:decide (a<(m.length:Int))=true:=decide_eq_true aK.2;rw [d1,d2];simp only [cond_true,bU,Option.bind_some];refine .aB (Ξ:=ie (λ_=>∀ v∈st.dY,v.Sym≠s) (λr:Int=>∃ v,v∈st.dY/\v.Sym=s/\r=v.rW)) ?_ λx J=>?_
  ·refine Tot.upto (λs=>s) st.dY.length (λk _=>∀ v∈st.dY.take k,v.Sym≠s) rfl (by omega) (by simp) λk i hk he bc=>?_;subst he;rw [eA k (by omega)];refine Tot.bt (λaP=>?_) (λdF=>.aj (by
    show ∀ v∈st.dY,v.Sym≠s;rw [List.take_of_length_le (by omega)] at bc; exact bc))
   have aP:k<st.dY.length:=by omega
   rw [dT aP];simp only [Option.bind_some];refine Tot.bt (λe=>.aj ⟨_,List.getElem_mem aP,e,rfl⟩) (λe=>.aj ⟨aP,rfl,λv hv=>?_⟩);rw [lG aP,List.mem_append,List.mem_singleton] at hv;rcases hv with hv | rfl
   ·exact bc v hv
   ·exact e
  ·rcases x with x | x
   ·exact .aj (.inl ⟨rfl,λuW aI=>by rw [bU] at aI; cases aI; exact J⟩)
   ·obtain ⟨v,h1,af,aE⟩:=J;exact .aj (.inr ⟨st,v,bU,h1,af,aE⟩)
 ·refine .aB (Ξ:=ie (λ_=>True) (λ_:Int=>False)) (Tot.loop (λ_=>True) (λ_=>0) trivial (by show 0<1000000000000000000; omega) λi _=>?_) λx J=>?_
  ·refine .aB (Ξ:=λc=>c=false) ?_ λc aa=>by subst aa; exact .aj trivial
   refine Tot.bt (λh1=>Tot.bt (λaf=>absurd ⟨h1,af⟩ aK) (λ_=>.aj rfl)) (λ_=>.aj rfl)
  ·rcases x with x | x
   ·refine .aj (.inl ⟨rfl,λst aI=>absurd ⟨(ka aI).1,(ka aI).2.1⟩ aK⟩)
   ·exact J.elim
theorem GoTo.aL {g:bA}{m:List State}(hm:nh g m) {a s r:Int}(h:GoTo m a s r):-1<=r/\r<m.length:=by
 rcases h with ⟨rfl,_⟩ | ⟨st,v,h1,af,_,rfl⟩
 ·have:=hm.gN; exact ⟨by omega,by omega⟩
 ·have:=hm.aT st (ka h1).2.2 v af;exact ⟨by have:=this.t0; omega,this.t1⟩
theorem GoTo.yes {g:bA}{m:List State}(hm:nh g m) {a s r:Int}(h:GoTo m a s r) {st:State}{v:Move}(av:idx m a=some st) (hv:v∈st.dY) (e:v.Sym=s):0<=r/\r<m.length:=by
 rcases h with ⟨rfl,h⟩ | ⟨st,v,h1,af,_,rfl⟩
 ·exact absurd e (h st av v hv)
 ·have:=hm.aT st (ka h1).2.2 v af;exact ⟨this.t0,this.t1⟩
theorem M9 {g:bA}{m:List State}(hm:nh g m) (a:Int) (l:List Int) (aJ:-1<=a/\a<m.length) (ah:l.length<=1000):Tot (Av m a l) λr=>-1<=r/\r<m.length:=by
 unfold Av;refine .aB (Ξ:=λr:Int=>-1<=r/\r<m.length) ?_ λr hr=>.aj hr;refine Tot.upto (λs=>s.2) l.length (λ_ s=>-1<=s.1/\s.1<m.length) rfl (by omega) aJ λk s hk he bc=>?_;obtain ⟨r,i⟩:=s;simp only at he bc ⊢;subst he;rw [eA k (by omega)];refine .aB (Ξ:=λc=>c=true->k<l.length) (Tot.bt (λh=>.aj λ_=>by omega) (λ_=>.aj λh=>by cases h)) λc aa=>Tot.bH (λh=>?_) (λ_=>.aj bc);have aP:=aa h;rw [dT aP];exact Tot.aV (.aB (E9 m r _ hm.xX) λz aW=>.aj ⟨aP,rfl,aW.aL hm⟩)
def va (m:List State) (t:Trans):Prop:=∃ st v,idx m t.State=some st/\v∈st.dY/\v.Sym=t.fy/\1000<=t.fy
structure wM (m:List State) (l:List Trans):Prop where
 n:l.length<=9600
 ok:∀ t∈l,va m t
 dB:∀ (q:Nat) (st:State) (v:Move),m[q]?=some st->v∈st.dY->1000<=v.Sym->(⟨q,v.Sym⟩:Trans)∈l
theorem TC {g:bA}{m:List State}(hm:nh g m):Tot (qH m) (wM m):=by
 have aC:=hm.nE;unfold qH;refine .aB (Ξ:=wM m) ?_ λr hr=>.aj hr;refine Tot.upto (λs=>s.2) m.length (λk s=>s.1.length<=64 * k/\(∀ t∈s.1,va m t)/\∀ (q:Nat) (st:State) (v:Move),q<k->m[q]?=some st->v∈st.dY->1000<=v.Sym->(⟨q,v.Sym⟩:Trans)∈s.1) rfl (by omega) ⟨Nat.le_refl 0,λt h=>(by cases h),λq _ _ h=>absurd h (Nat.not_lt_zero _)⟩ λk s hk he bc=>?_;obtain ⟨l,i⟩:=s;obtain ⟨h1,af,aE⟩:=bc;simp only at he h1 af aE ⊢;subst he;rw [eA k (by omega)];refine Tot.bt (λaP=>?_) (λdF=>.aj ⟨?_,af,λq st v a_=>aE q st v ?_ a_⟩)
 ·have aP:k<m.length:=by omega
  have mR:m[k]?=some m[k]:=List.getElem?_eq_getElem aP;have mS:=List.getElem_mem aP;rw [dT aP];generalize m[k]=st at *;have vE:=hm.xX st mS;simp only [Option.bind_some];refine .aB (Ξ:=λz7:List Trans=>z7.length<=64 * (k+1)/\(∀ t∈z7,va m t)/\(∀ t∈l,t∈z7)/\∀ v∈st.dY,1000<=v.Sym->(⟨k,v.Sym⟩:Trans)∈z7) ?_ λz7 hU=>.aj ⟨aP,rfl,hU.1,hU.2.1,λq uW v a_ bm b7 dr=>?_⟩
  ·refine Tot.upto (λs=>s.2) st.dY.length (λj s=>s.1.length<=64 * k+j/\(∀ t∈s.1,va m t)/\(∀ t∈l,t∈s.1)/\∀ v∈st.dY.take j,1000<=v.Sym->(⟨k,v.Sym⟩:Trans)∈s.1) rfl (by omega) ⟨h1,af,λ_ h=>h,λv hv=>by simp at hv⟩ λj s ag he bc=>?_;obtain ⟨o,i⟩:=s;obtain ⟨g1,g2,g3,g4⟩:=bc;simp only at he g1 g2 g3 g4 ⊢;subst he;rw [eA j (by omega)];refine Tot.bt (λaP=>?_) (λdF=>.aj ⟨by show o.length<=_; omega,g2,g3,by
    rw [List.take_of_length_le (by omega)] at g4; exact g4⟩)
   have aP:j<st.dY.length:=by omega
   have fP:=lG aP;have FM:=List.getElem_mem aP;rw [dT aP];generalize st.dY[j]=v at *;simp only [Option.bind_some];refine .aB (Ξ:=λo:List Trans=>o.length<=64 * k+(j+1)/\(∀ t∈o,va m t)/\(∀ t∈l,t∈o)/\∀ v∈st.dY.take (j+1),1000<=v.Sym->(⟨k,v.Sym⟩:Trans)∈o) ?_ λo aX=>.aj ⟨aP,rfl,aX⟩;refine .aB (Ξ:=λo:List Trans=>o.length<=64 * k+(j+1)/\(∀ t∈o,va m t)/\(∀ t∈l,t∈o)/\∀ v∈st.dY.take (j+1),1000<=v.Sym->(⟨k,v.Sym⟩:Trans)∈o) (Tot.bt (λh=>?_) (λh=>.aj ⟨by omega,g2,g3,λw hw av=>?_⟩)) λo aX=>.aj aX
   ·refine .bJ<|.aj ⟨by simp; omega,λt au=>?_,λt au=>List.mem_append_left _ (g3 t au),λw hw av=>?_⟩
    ·rcases List.mem_append.1 au with au | au
     ·exact g2 t au
     ·rw [List.mem_singleton.1 au];exact ⟨st,v,Pj mR,FM,rfl,h⟩
    ·rw [fP,List.mem_append,List.mem_singleton] at hw;rcases hw with hw | rfl
     ·exact List.mem_append_left _ (g4 w hw av)
     ·simp
   ·rw [fP,List.mem_append,List.mem_singleton] at hw;rcases hw with hw | rfl
    ·exact g4 w hw av
    ·exact absurd av h
  ·by_cases e:q=k
   ·subst e;rw [mR] at bm; cases bm;exact hU.2.2.2 v b7 dr
   ·exact hU.2.2.1 _ (aE q uW v (by omega) bm b7 dr)
 ·show l.length<=9600;omega
 ·have:=(List.getElem?_eq_some_iff.1 a_).1;omega
theorem BC (l:List Trans) (a n:Int) (ah:l.length<=9600):Tot (Az l a n) λr=>-1<=r/\r<l.length/\((⟨a,n⟩:Trans)∈l->0<=r):=by
 unfold Az;refine .aB (Ξ:=ie (λ_=>(⟨a,n⟩:Trans)∉l) (λr:Int=>0<=r/\r<l.length)) ?_ λx J=>?_
 ·refine Tot.upto (λs=>s) l.length (λk _=>(⟨a,n⟩:Trans)∉l.take k) rfl (by omega) (by simp) λk i hk he bc=>?_;subst he;rw [eA k (by omega)];refine Tot.bt (λaP=>?_) (λdF=>.aj (by
   show (⟨a,n⟩:Trans)∉l;rw [List.take_of_length_le (by omega)] at bc; exact bc))
  have aP:k<l.length:=by omega
  have fP:=lG aP;rw [dT aP];generalize l[k]=y at *;simp only [Option.bind_some];refine .aB (Ξ:=λc:Bool=>c=false->y≠⟨a,n⟩) (Tot.bt (λh=>.aj λaI e=>?_) (λh=>.aj λ_ e=>h (by rw [e]))) λc aa=>Tot.bH (λh=>.aj ⟨by show (0:Int)<=k; omega,by show (k:Int)<_; omega⟩) (λh=>.aj ⟨aP,rfl,?_⟩)
  ·have:=of_decide_eq_false aI;exact this (by rw [e])
  ·rw [fP,List.mem_append,List.mem_singleton];exact λaI=>aI.elim bc λe=>aa h e.symm
 ·rcases x with x | x
  ·refine .aj ⟨by omega,by omega,λh=>absurd h J⟩
  ·have J:0<=x/\x<l.length:=J;exact .aj ⟨by omega,J.2,λ_=>J.1⟩
theorem TG (l:List Item) (ah:l.length<=1000000):Tot (DF l) λ_=>True:=by
 unfold DF;refine .aB (Ξ:=λ_=>True) ?_ λx J=>by
  rcases x with x | x
  ·exact .aj trivial
  ·exact .aj trivial
 refine Tot.upto (λs=>s) l.length (λ_ _=>True) rfl (by omega) trivial λk i hk he _=>?_;subst he;rw [eA k (by omega)];refine Tot.bt (λaP=>?_) (λ_=>.aj trivial);have aP:k<l.length:=by omega
 rw [dT aP];simp only [Option.bind_some];refine .aB (Ξ:=λ_=>True) (Tot.bt (λ_=>.aj trivial) (λ_=>.aj trivial)) λc _=>Tot.bH (λ_=>.aj trivial) (λ_=>.aj ⟨aP,rfl,trivial⟩)
theorem M' (B:List Bool) (l:List Int) (ah:l.length<=1000) (h:∀ s∈l,s<1000\/(1000<=s/\s - 1000<B.length)) (eX:B.length<=1000):Tot (AA B l) λ_=>True:=by
 unfold AA;refine .aB (Ξ:=λ_=>True) ?_ λx J=>by
  rcases x with x | x
  ·exact .aj trivial
  ·exact .aj trivial
 refine Tot.upto (λs=>s) l.length (λ_ _=>True) rfl (by omega) trivial λk i hk he _=>?_;subst he;rw [eA k (by omega)];refine Tot.bt (λaP=>?_) (λ_=>.aj trivial);have aP:k<l.length:=by omega
 have ao:=h _ (List.getElem_mem aP);rw [dT aP];generalize l[k]=y at *;simp only [Option.bind_some];refine .aB (Ξ:=λ_=>True) (Tot.bt (λ_=>.aj trivial) (λh1=>?_)) λc _=>Tot.bH (λ_=>.aj trivial) (λ_=>.aj ⟨aP,rfl,trivial⟩);have hw:aG (y - 1000)=y - 1000:=by rw [cv]; omega
 rw [hw];obtain ⟨b,ar,_⟩:=nC (l:=B) (i:=y - 1000) (by omega) (by omega);rw [ar];exact .aj trivial
theorem QF {g:bA}(aN:f' g) {q:Prod}(a_:q∈g.bu) {B:List Bool}(eX:B.length=g.dD.length):∀ s∈q.dw,s<1000\/(1000<=s/\s - 1000<B.length):=λs av=>by
 have au:=aN.lk;have aC:=aN.e1;rcases (aN.gB q a_).right s av with h | h <;> omega
theorem M_ (g:bA) (aN:f' g):Tot (Ay g) λB=>B.length=g.dD.length:=by
 have au:=aN.lk;have aC:=aN.e1;have aq:=aN.jd;unfold Ay;refine .aB (Ξ:=λB=>B=List.replicate g.dD.length false) (Tot.mk (by simp [lim]; omega) (by simp)) λabO VO=>?_;subst VO;refine .aB (Ξ:=λB:List Bool=>B.length=g.dD.length) ?_ λB eX=>.aj eX;refine Tot.loop (λs=>s.1.length=g.dD.length) (λs=>2 * (g.dD.length - iV s.1)+s.2.toNat) (by simp) (by
  show 2 * (g.dD.length - iV _)+1<1000000000000000000; omega) λs av=>?_
 obtain ⟨B,f⟩:=s;simp only at av ⊢;refine Tot.bH (λaU=>?_) (λ_=>.aj av);subst aU;refine .aB (Ξ:=λr:List Bool × Bool=>r.1.length=g.dD.length/\iV B<=iV r.1/\(r.2=true->iV B<iV r.1)) ?_ λr hr=>?_
 ·refine Tot.upto (λs=>s.2.2) g.bu.length (λ_ s=>s.1.length=g.dD.length/\iV B<=iV s.1/\(s.2.1=true->iV B<iV s.1)) rfl (by omega) ⟨av,Nat.le_refl _,λh=>by cases h⟩ λk s hk he bc=>?_;obtain ⟨C,f,i⟩:=s;obtain ⟨h1,af,aE⟩:=bc;simp only at he h1 af aE ⊢;subst he;rw [eA k (by omega)];refine Tot.bt (λaP=>?_) (λdF=>.aj ⟨h1,af,aE⟩);have aP:k<g.bu.length:=by omega
  have kQ:=List.getElem_mem aP;rw [dT aP];generalize g.bu[k]=q at *;have a_:=aN.gB q kQ;have OX:=a_.left;obtain ⟨b,ar,_⟩:=nC (l:=C) (i:=q.Left) OX.1 (by omega);simp only [Option.bind_some,ar];refine .aB (Ξ:=λr:List Bool × Bool=>r.1.length=g.dD.length/\iV B<=iV r.1/\(r.2=true->iV B<iV r.1)) ?_ λr hr=>.aj ⟨aP,rfl,hr⟩;refine .aB (Ξ:=λc:Bool=>c=true->b=false) ?_ λc aa=>?_
  ·cases b with
   | true=>exact .aj λh=>by cases h
   | false =>
    refine .aB (M' C q.dw (by have:=aN.aF q kQ; omega) (QF aN kQ h1) (by omega)) λ_ _=>.aj λ_=>rfl
  ·refine .aB (Ξ:=λr:List Bool × Bool=>r.1.length=g.dD.length/\iV B<=iV r.1/\(r.2=true->iV B<iV r.1)) (Tot.bH (λh=>.aj ?_) (λh=>.aj ⟨h1,af,aE⟩)) λr hr=>.aj hr;have WN:=aa h;subst WN;have zO:q.Left.toNat<C.length:=by omega
   have mR:C.getD q.Left.toNat false=false:=by
    unfold idx at ar;rw [if_pos OX.1] at ar;rw [List.getD_eq_getElem?_getD,ar]; rfl
   have:=Nd C q.Left.toNat zO mR;exact ⟨by rw [List.length_set]; exact h1,by show iV B<=iV (C.set _ _); omega,λ_=>by show iV B<iV (C.set _ _); omega⟩
 ·obtain ⟨h1,af,aE⟩:=hr;refine .aj ⟨h1,?_⟩;have aa:=T6 r.1;show 2 * (g.dD.length - iV r.1)+r.2.toNat<2 * (g.dD.length - iV B)+true.toNat;cases hK:r.2 with
  | false=>simp only [Bool.toNat_false,Bool.toNat_true]; omega
  | true =>
   have:=aE hK;simp only [Bool.toNat_true]; omega
structure jk (T:Nat) (r:List Int):Prop where
 a:fg iP r
 i:∀ x∈r,0<=x/\x<T
theorem jk.len {T:Nat}{r:List Int}(h:jk T r):r.length<=T:=by
 have:=Ae (m:=(List.range T).map λk:Nat=>(k:Int)) (h.a.nd Gp) λx J=>by
  have:=h.i x J;exact List.mem_map.2 ⟨x.toNat,by rw [List.mem_range]; omega,by omega⟩
 grind
theorem jk.nil {T:Nat}:jk T []:=⟨.nil,λx h=>by cases h⟩
theorem jk.put {T:Nat}(cX:T<=100000) {r:List Int}(h:jk T r) {x:Int}(J:0<=x/\x<T):Tot (qI r x) λc'=>jk T c'/\r.length<=c'.length:=by
 have ah:=h.len;refine (E_ r x h.a (by omega)).use λc' dH=>⟨⟨dH.1,λy ao=>?_⟩,Ae (h.a.nd Gp) λy ao=>(dH.2.2 y).2 (.inl ao)⟩;rcases (dH.2.2 y).1 ao with aI | rfl
 ·exact h.i y aI
 grind
def mY (L:List (List Int)) (i:Nat):Nat:=(L.getD i []).length
def jz (L:List (List Int)):Nat:=(L.map List.length).sum
theorem Rt:∀ (L L':List (List Int)),L.length=L'.length->(∀ i,mY L i<=mY L' i)->jz L<=jz L'/\((∃ i,mY L i<mY L' i)->jz L<jz L')
 | [],[],_,_=>⟨Nat.le_refl _,λ⟨i,h⟩=>absurd h (Nat.lt_irrefl _)⟩
 | a::L,b::L',ah,h=>by
  obtain ⟨h1,af⟩:=Rt L L' (by simpa using ah) λi=>by simpa [mY] using h (i+1)
  have aK:a.length<=b.length:=by simpa [mY] using h 0
  have b9:jz (a::L)=a.length+jz L:=by simp [jz]
  have b3:jz (b::L')=b.length+jz L':=by simp [jz]
  rw [b9,b3];refine ⟨by omega,λ⟨i,hi⟩=>?_⟩;cases i with
  | zero =>
   have:a.length<b.length:=by simpa [mY] using hi
   omega
  | succ i =>
   have:=af ⟨i,by simpa [mY] using hi⟩;omega
def Sets (T:Nat) (L:List (List Int)):Prop:=∀ r∈L,jk T r
theorem Rs {T:Nat}:∀ {L:List (List Int)},Sets T L->jz L<=L.length * T
 | [],_=>by simp [jz]
 | a::L,h=>by
  have h1:=(h a (by simp)).len;have af:=Rs (L:=L) λr hr=>h r (by simp [hr]);have b9:jz (a::L)=a.length+jz L:=by simp [jz]
  rw [b9,List.length_cons,Nat.succ_mul]; omega
structure pB (T:Nat) (L L':List (List Int)):Prop where
 n:L'.length=L.length
 s:Sets T L'
 u:∀ i,mY L i<=mY L' i
theorem pB.refl {T:Nat}{L:List (List Int)}(h:Sets T L):pB T L L:=⟨rfl,h,λ_=>Nat.le_refl _⟩
theorem pB.trans {T:Nat}{A B C:List (List Int)}(h:pB T A B) (aI:pB T B C):pB T A C:=⟨aI.n.trans h.n,aI.s,λi=>Nat.le_trans (h.u i) (aI.u i)⟩
theorem pB.set {T:Nat}{L:List (List Int)}{k:Nat}{r c':List Int}(av:Sets T L) (hk:L[k]?=some r) (h:jk T c') (ah:r.length<=c'.length):pB T L (L.set k c'):=by
 have dv:=(List.getElem?_eq_some_iff.1 hk).1;refine ⟨List.length_set ..,λx J=>?_,λi=>?_⟩
 ·rcases List.mem_or_eq_of_mem_set J with aI | aI
  ·exact av x aI
  grind
 grind [mY]
theorem Yv {L:List (List Int)}{k:Nat}{r:List Int}(h:L[k]?=some r):mY L k=r.length:=by
 grind [mY]
theorem Yt {α:Type}{l:List α}{i:Int}{y:α}(h:idx l i=some y):l[i.toNat]?=some y:=by
 grind [idx]
theorem M8 (T:Nat) (cX:T<=1000) (a0 aw:List (List Int)) (aC:a0.length<=9600) (he:aw.length=a0.length) (aK:Sets T a0) (h1:Sets a0.length aw):Tot (Au a0 aw) λr=>r.length=a0.length/\Sets T r:=by
 unfold Au;refine .aB (Ξ:=λr:List (List Int)=>r.length=a0.length/\Sets T r) ?_ λr hr=>.aj hr;have ar:a0.length * T<=9600 * 1000:=Nat.mul_le_mul aC cX;refine Tot.loop (λs=>s.1.length=a0.length/\Sets T s.1) (λs=>2 * (a0.length * T - jz s.1)+s.2.toNat) ⟨rfl,aK⟩ (by
  show 2 * (a0.length * T - jz _)+1<1000000000000000000;omega) λs av=>?_
 obtain ⟨L,f⟩:=s;obtain ⟨ah,av⟩:=av;simp only at ah av ⊢;refine Tot.bH (λaU=>?_) (λ_=>.aj ⟨ah,av⟩);subst aU;refine .aB (Ξ:=λr:List (List Int) × Bool=>pB T L r.1/\(r.2=true->∃ i,mY L i<mY r.1 i)) ?_ λr hr=>?_
 ·refine Tot.upto (λs=>s.2.2) L.length (λ_ s=>pB T L s.1/\(s.2.1=true->∃ i,mY L i<mY s.1 i)) rfl (by omega) ⟨.refl av,λh=>by cases h⟩ λk s hk h_ bc=>?_;obtain ⟨C,f,i⟩:=s;obtain ⟨hu,mQ⟩:=bc;simp only at h_ hu mQ ⊢;subst h_;rw [eA k (by omega)];have O5:=hu.n;refine Tot.bt (λaP=>?_) (λdF=>.aj ⟨hu,mQ⟩);have OF:k<C.length:=by omega
  have gz:k<aw.length:=by omega
  have ael:C[k]?=some C[k]:=List.getElem?_eq_getElem OF;have rm:=h1 _ (List.getElem_mem gz);rw [dT gz,dT OF];generalize aw[k]=row at *;generalize C[k]=mX at *;simp only [Option.bind_some];have oH:=rm.len;refine .aB (Ξ:=λD:List (List Int)=>pB T C D) ?_ λD js=>?_
  ·refine Tot.upto (λs=>s.2) row.length (λ_ s=>pB T C s.1) rfl (by omega) (.refl hu.s) λj s ag h_ bc=>?_;obtain ⟨D,i⟩:=s;simp only at h_ bc ⊢;subst h_;rw [eA j (by omega)];have VT:=bc.n;refine Tot.bt (λaP=>?_) (λ_=>.aj bc);have aP:j<row.length:=by omega
   have ao:=rm.i _ (List.getElem_mem aP);rw [dT aP];generalize row[j]=y at *;simp only [Option.bind_some];refine .aB (Ξ:=λE:List (List Int)=>pB T C E) ?_ λE lv=>.aj ⟨aP,rfl,lv⟩;refine Tot.count (λs=>s.2) T (λs=>∃ n:Nat,s.2=(n:Int)/\pB T C s.1) ⟨0,rfl,bc⟩ (by show (T:Int) - 0<_; omega) λs av=>?_;obtain ⟨E,i⟩:=s;obtain ⟨n,zQ,lv⟩:=av;simp only at zQ lv ⊢;subst zQ;have ad_:=lv.n;obtain ⟨z,aW,Kv⟩:=nC (l:=E) (i:=y) ao.1 (by omega);have l0:=lv.s z Kv;have uv:=l0.len;have JQ:k<E.length:=by omega
   have W9:E[k]?=some E[k]:=List.getElem?_eq_getElem JQ;rw [aW];simp only [Option.bind_some];refine Tot.bt (λaP=>?_) (λ_=>.aj lv);have aP:n<z.length:=by omega
   rw [eA n (by omega),dT JQ,dT aP];simp only [Option.bind_some];refine .aB ((lv.s _ (List.getElem_mem JQ)).put (by omega) (l0.i _ (List.getElem_mem aP))) λc' dH=>.aj ⟨⟨n+1,rfl,?_⟩,by show (n:Int)<((n+1:Nat):Int); omega,by show ((n+1:Nat):Int)<=T; omega⟩;exact lv.trans (.set lv.s W9 dH.1 dH.2)
  ·have VT:=js.n;have OG:k<D.length:=by omega
   have aem:D[k]?=some D[k]:=List.getElem?_eq_getElem OG;have zX:=hu.trans js;refine .aB (Ξ:=λc:Bool=>c=true->∃ i,mY L i<mY D i) ?_ λc aa=>.aj ⟨by omega,rfl,zX,aa⟩;refine Tot.bH (λaU=>.aj λ_=>?_) (λ_=>?_)
   ·obtain ⟨i,hi⟩:=mQ aU;exact ⟨i,Nat.lt_of_lt_of_le hi (js.u i)⟩
   ·rw [dT OG];refine Tot.aV (.aj λh=>⟨k,?_⟩);have aE:=js.u k;have bm:=hu.u k
    grind [Yv]
 ·obtain ⟨hu,aU⟩:=hr;have CG:=hu.n;obtain ⟨aE,bm⟩:=Rt L r.1 CG.symm hu.u;have b7:=Rs hu.s;rw [show r.1.length=a0.length by omega] at b7;refine .aj ⟨⟨by show r.1.length=_; omega,hu.s⟩,?_⟩;show 2 * (a0.length * T - jz r.1)+r.2.toNat<2 * (a0.length * T - jz L)+true.toNat;cases hK:r.2 with
  | false=>simp only [Bool.toNat_false,Bool.toNat_true]; omega
  | true =>
   grind
theorem nh.sym {g:bA}(aN:f' g) {m:List State}(hm:nh g m) {st:State}(bU:st∈m) {v:Move}(hv:v∈st.dY):0<=v.Sym/\(v.Sym<1000->v.Sym<g.bo.length)/\(1000<=v.Sym->v.Sym - 1000<g.dD.length):=by
 have au:=aN.lk;rcases PQ.1 (hm.aT st bU v hv).s with h | h
 ·exact ⟨h.1,λ_=>h.2,λaI=>by omega⟩
 ·exact ⟨by omega,λaI=>by omega,λ_=>by omega⟩
theorem va.go {g:bA}{m:List State}(hm:nh g m) {t:Trans}(h:va m t):Tot (rE m t.State t.fy) λr=>0<=r/\r<m.length:=by
 obtain ⟨st,v,h1,af,aE,_⟩:=h;exact (E9 m t.State t.fy hm.xX).use λr hr=>hr.yes hm h1 af aE
theorem Q7 {T:Nat}{L:List (List Int)}{r:List Int}(h:Sets T L) (hr:jk T r):Sets T (L++[r]):=λx J=>by
 rcases List.mem_append.1 J with J | J
 ·exact h x J
 ·rw [List.mem_singleton.1 J]; exact hr
theorem Tz (g:bA) (aN:f' g) {m:List State}(hm:nh g m):Tot (Dx m) λr=>∃ c7,qH m=some c7/\wM m c7/\r.length=c7.length/\Sets g.bo.length r:=by
 have au:=aN.lk;obtain ⟨c7,qo,hV⟩:=TC hm;have xC:=hV.n;unfold Dx;rw [qo];refine Tot.aV (.aB (Ξ:=λr:List (List Int)=>r.length=c7.length/\Sets g.bo.length r) ?_ λr hr=>.aj ⟨c7,rfl,hV,hr⟩);refine Tot.upto (λs=>s.2) c7.length (λk s=>s.1.length=k/\Sets g.bo.length s.1) rfl (by omega) ⟨rfl,λr h=>by cases h⟩ λk s hk he bc=>?_;obtain ⟨L,i⟩:=s;obtain ⟨h1,af⟩:=bc;simp only at he h1 af ⊢;subst he;rw [eA k (by omega)];refine Tot.bt (λaP=>?_) (λdF=>.aj ⟨by show L.length=_; omega,af⟩);have aP:k<c7.length:=by omega
 have fP:=hV.ok _ (List.getElem_mem aP);rw [dT aP];generalize c7[k]=t at *;simp only [Option.bind_some];refine .aB (fP.go hm) λto CM=>?_;obtain ⟨st,bU,qz⟩:=nC CM.1 CM.2;have c5:=hm.pW st qz;have vE:=hm.xX st qz;rw [bU];simp only [Option.bind_some];refine .aB (TG _ (by have:=c5.len aN; omega)) λc _=>?_;refine .aB (Ξ:=jk g.bo.length) (Tot.bH (λ_=>?_) (λ_=>.aj .nil)) λAW zT=>?_
 ·refine .aB (Ξ:=λ_=>True) (Tot.ap (by simp [lim]) trivial) λ_ _=>.aj ⟨List.pairwise_singleton ..,λx J=>?_⟩;rw [List.mem_singleton.1 J]; omega
 refine .aB (Ξ:=jk g.bo.length) ?_ λr hr=>?_
 ·refine Tot.upto (λs=>s.2) st.dY.length (λk s=>jk g.bo.length s.1) rfl (by omega) zT λj s ag he bc=>?_;obtain ⟨r,i⟩:=s;simp only at he bc ⊢;subst he;rw [eA j (by omega)];refine Tot.bt (λaP=>?_) (λ_=>.aj bc);have aP:j<st.dY.length:=by omega
  have hv:=hm.sym aN qz (List.getElem_mem aP);rw [dT aP];generalize st.dY[j]=v at *;simp only [Option.bind_some];refine .aB (Ξ:=jk g.bo.length) ?_ λr hr=>.aj ⟨aP,rfl,hr⟩;refine .aB (Ξ:=jk g.bo.length) (Tot.bt (λh=>?_) (λ_=>.aj bc)) λr hr=>.aj hr;exact .aB (bc.put (by omega) ⟨hv.1,hv.2.1 h⟩) λr hr=>.aj hr.1
 ·refine .bJ<|.aj ⟨aP,rfl,by simp; omega,Q7 af hr⟩
theorem TA (g:bA) (aN:f' g) {m:List State}(hm:nh g m) {c7:List Trans}(qo:qH m=some c7) (hV:wM m c7):Tot (Dy g m) λr=>r.length=c7.length/\Sets c7.length r:=by
 have au:=aN.lk;have ri:=aN.e1;have xC:=hV.n;unfold Dy;rw [qo];refine Tot.aV (.aB (M_ g aN) λB eX=>.aB (Ξ:=λr:List (List Int)=>r.length=c7.length/\Sets c7.length r) ?_ λr hr=>.aj hr);refine Tot.upto (λs=>s.2) c7.length (λk s=>s.1.length=k/\Sets c7.length s.1) rfl (by omega) ⟨rfl,λr h=>by cases h⟩ λk s hk he bc=>?_;obtain ⟨L,i⟩:=s;obtain ⟨h1,af⟩:=bc;simp only at he h1 af ⊢;subst he;rw [eA k (by omega)];refine Tot.bt (λaP=>?_) (λdF=>.aj ⟨by show L.length=_; omega,af⟩);have aP:k<c7.length:=by omega
 have fP:=hV.ok _ (List.getElem_mem aP);rw [dT aP];generalize c7[k]=t at *;simp only [Option.bind_some];refine .aB (fP.go hm) λto CM=>?_;obtain ⟨st,bU,qz⟩:=nC CM.1 CM.2;have pc:=Yt bU;have vE:=hm.xX st qz;rw [bU];simp only [Option.bind_some];refine .aB (Ξ:=jk c7.length) ?_ λr hr=>?_
 ·refine Tot.upto (λs=>s.2) st.dY.length (λk s=>jk c7.length s.1) rfl (by omega) .nil λj s ag he bc=>?_;obtain ⟨r,i⟩:=s;simp only at he bc ⊢;subst he;rw [eA j (by omega)];refine Tot.bt (λaP=>?_) (λ_=>.aj bc);have aP:j<st.dY.length:=by omega
  have FM:=List.getElem_mem aP;have hv:=hm.sym aN qz FM;rw [dT aP];generalize st.dY[j]=v at *;simp only [Option.bind_some];refine .aB (Ξ:=jk c7.length) ?_ λr hr=>.aj ⟨aP,rfl,hr⟩;refine .aB (Ξ:=λc:Bool=>c=true->1000<=v.Sym) (Tot.bt (λh=>?_) (λ_=>.aj λh=>by cases h)) λc aa=>?_
  ·have hw:aG (v.Sym - 1000)=v.Sym - 1000:=by
    have:=hv.2.2 h;rw [cv]; omega
   rw [hw];obtain ⟨b,ar,_⟩:=nC (l:=B) (i:=v.Sym - 1000) (by omega) (by have:=hv.2.2 h; omega);rw [ar];exact Tot.aV (.aj λ_=>h)
  ·refine .aB (Ξ:=jk c7.length) (Tot.bH (λh=>?_) (λ_=>.aj bc)) λr hr=>.aj hr;have zK:=hV.dB to.toNat st v pc FM (aa h);rw [show ((to.toNat:Nat):Int)=to by omega] at zK;refine .aB (BC c7 to v.Sym xC) λz aW=>?_;exact .aB (bc.put (by omega) ⟨aW.2.2 zK,aW.2.1⟩) λr hr=>.aj hr.1
 ·refine .bJ<|.aj ⟨aP,rfl,by simp; omega,Q7 af hr⟩
theorem TB (g:bA) (aN:f' g) {m:List State}(hm:nh g m) {c7:List Trans}(qo:qH m=some c7) (hV:wM m c7):Tot (Dz g m) λr=>r.length=c7.length/\Sets c7.length r:=by
 have au:=aN.lk;have ri:=aN.e1;have rk:=aN.jd;have xC:=hV.n;unfold Dz;rw [qo];refine Tot.aV (.aB (M_ g aN) λB eX=>.aB (Ξ:=λr=>r=List.replicate c7.length ([]:List Int)) (Tot.mk (by simp [lim]; omega) (by simp)) λabT V3=>.aB (Ξ:=λr:List (List Int)=>r.length=c7.length/\Sets c7.length r) ?_ λr hr=>.aj hr);subst V3;have abN:∀ {L:List (List Int)},(L.length=c7.length/\Sets c7.length L)->∀ {z:Int}{r c':List Int},idx L z=some r->jk c7.length c'->(L.set z.toNat c').length=c7.length/\Sets c7.length (L.set z.toNat c'):=λ{L} fN {z r c'} _ dH=>⟨by rw [List.length_set]; exact fN.1,λx J=>by
  rcases List.mem_or_eq_of_mem_set J with aI | aI
  ·exact fN.2 x aI
  ·rw [aI]; exact dH⟩
 refine Tot.upto (λs=>s.2) c7.length (λk s=>s.1.length=c7.length/\Sets c7.length s.1) rfl (by omega) ⟨by simp,λr h=>by rw [List.eq_of_mem_replicate h]; exact .nil⟩ λk s hk he bc=>?_;obtain ⟨L,i⟩:=s;simp only at he bc ⊢;subst he;rw [eA k (by omega)];refine Tot.bt (λaP=>?_) (λdF=>.aj bc);have aP:k<c7.length:=by omega
 have fP:=hV.ok _ (List.getElem_mem aP);rw [dT aP];generalize c7[k]=t at *;simp only [Option.bind_some];refine .aB (Ξ:=λr:List (List Int)=>r.length=c7.length/\Sets c7.length r) ?_ λr hr=>.aj ⟨aP,rfl,hr⟩;refine Tot.upto (λs=>s.2) g.bu.length (λk s=>s.1.length=c7.length/\Sets c7.length s.1) rfl (by omega) bc λp s aq he bc=>?_;obtain ⟨L,i⟩:=s;simp only at he bc ⊢;subst he;rw [eA p (by omega)];refine Tot.bt (λFC=>?_) (λdF=>.aj bc);have FC:p<g.bu.length:=by omega
 have kQ:=List.getElem_mem FC;rw [dT FC];generalize g.bu[p]=q at *;have a_:=aN.gB q kQ;have CG:=aN.aF q kQ;have lY:=QF aN kQ eX;simp only [Option.bind_some];refine .aB (Ξ:=λr:List (List Int)=>r.length=c7.length/\Sets c7.length r) ?_ λr hr=>.aj ⟨FC,rfl,hr⟩;refine Tot.bH (λ_=>.aj bc) (λ_=>.aB (Ξ:=λr:List (List Int)=>r.length=c7.length/\Sets c7.length r) ?_ λr hr=>.aj hr);refine Tot.upto (λs=>s.2) q.dw.length (λk s=>s.1.length=c7.length/\Sets c7.length s.1) rfl (by omega) bc λj s ag he bc=>?_;obtain ⟨L,i⟩:=s;simp only at he bc ⊢;subst he;rw [eA j (by omega)];refine Tot.bt (λfX=>?_) (λdF=>.aj bc);have fX:j<q.dw.length:=by omega
 rw [dT fX];generalize q.dw[j]=y at *;simp only [Option.bind_some];refine .aB (Ξ:=λr:List (List Int)=>r.length=c7.length/\Sets c7.length r) ?_ λr hr=>.aj ⟨fX,rfl,hr⟩;refine .aB (Ξ:=λ_=>True) (Tot.bt (λ_=>.aj trivial) (λ_=>?_)) λc _=>Tot.bH (λ_=>.aj bc) (λ_=>?_)
 ·refine .aB (Ξ:=λr=>r=q.dw.drop (j+1)) (Tot.sub ⟨by omega,by omega,by omega⟩ ?_) λr hr=>?_
  ·rw [List.take_of_length_le]
   ·congr 1
   ·rw [List.length_drop]; omega
  ·subst hr;exact .aB (M' B _ (by rw [List.length_drop]; omega) (λs av=>lY s (List.mem_of_mem_drop av)) (by omega)) λ_ _=>.aj trivial
 refine .aB (Ξ:=λr=>r.length<=8) (Tot.sub ⟨by omega,by omega,by omega⟩ (by rw [List.length_take,List.length_drop]; omega)) λr hr=>?_;obtain ⟨st,_,bU,_⟩:=fP;have Kb:=ka bU;refine .aB (M9 hm t.State r ⟨by omega,Kb.2.1⟩ (by omega)) λz aW=>?_;refine .aB (Ξ:=λr:List (List Int)=>r.length=c7.length/\Sets c7.length r) (Tot.bH (λ_=>?_) (λ_=>.aj bc)) λr hr=>.aj hr;refine .aB (BC c7 z y xC) λn aC=>?_;refine .aB (Ξ:=λr:List (List Int)=>r.length=c7.length/\Sets c7.length r) (Tot.bt (λaK=>?_) (λ_=>.aj bc)) λr hr=>.aj hr;obtain ⟨AW,zT,zV⟩:=nC (l:=L) aK (by rw [bc.1]; exact aC.2.1);rw [zT];refine Tot.aV (.aB ((bc.2 AW zV).put (by omega) ⟨by omega,by omega⟩) λc' dH=>.aj (abN bc zT dH.1))
theorem TU (g:bA) (aN:f' g) {m:List State}(hm:nh g m):Tot (AR g m) λr=>∃ c7,qH m=some c7/\wM m c7/\r.length=c7.length/\Sets g.bo.length r:=by
 have au:=aN.lk;unfold AR;refine .aB (Tz g aN hm) λuO h1=>?_;obtain ⟨c7,qo,hV,zN,xz⟩:=h1;have xC:=hV.n;refine .aB (TA g aN hm qo hV) λjy af=>.aB (M8 g.bo.length (by omega) uO jy (by omega) (by omega) xz (by rw [zN]; exact af.2)) λAX aE=>?_;refine .aB (TB g aN hm qo hV) λyr bm=>.aB (M8 g.bo.length (by omega) AX yr (by omega) (by omega) aE.2 (by rw [aE.1,zN]; exact bm.2)) λGF b7=>?_;exact .aj ⟨c7,qo,hV,by omega,b7.2⟩
def oY (g:bA) (p:Int):Prop:=0<p/\p<g.bu.length
theorem TV (g:bA) (aN:f' g) {m:List State}(hm:nh g m) {c7:List Trans}(qo:qH m=some c7) (hV:wM m c7) (q p:Int):Tot (DW g m q p) λr=>r.length<=9600/\∀ x∈r,0<=x/\x<c7.length:=by
 have xC:=hV.n;have rk:=aN.jd;have ri:=aN.e1;unfold DW;refine .aB (Ξ:=λc:Bool=>c=false->0<=p/\p<g.bu.length) (Tot.bt (λ_=>.aj λh=>by cases h) (λ_=>Tot.bt (λ_=>.aj λh=>by cases h) (λ_=>Tot.bt (λ_=>.aj λh=>by cases h) (λh=>.aj λaI=>by have:=of_decide_eq_false aI; omega)))) λc aa=>Tot.bH (λ_=>.aj ⟨Nat.zero_le _,λx h=>by cases h⟩) (λh=>?_);obtain ⟨aK,h1⟩:=aa h;rw [qo];refine Tot.aV ?_;refine .aB (Ξ:=λr:List Int=>r.length<=9600/\∀ x∈r,0<=x/\x<c7.length) ?_ λr hr=>.aj hr;obtain ⟨gB,FH,J9⟩:=nC aK h1;have CG:=aN.aF gB J9;refine Tot.upto (λs=>s.2) c7.length (λk s=>s.1.length<=k/\∀ x∈s.1,0<=x/\x<c7.length) rfl (by omega) ⟨Nat.le_refl 0,λp h=>by cases h⟩ λk s hk he bc=>?_;obtain ⟨L,i⟩:=s;obtain ⟨af,aE⟩:=bc;simp only at he af aE ⊢;subst he;rw [eA k (by omega)];refine Tot.bt (λaP=>?_) (λdF=>.aj ⟨by show L.length<=_; omega,aE⟩);have aP:k<c7.length:=by omega
 have fP:=hV.ok _ (List.getElem_mem aP);rw [dT aP,FH];generalize c7[k]=t at *;obtain ⟨st,_,bU,_⟩:=fP;have Kb:=ka bU;simp only [Option.bind_some];refine .aB (Ξ:=λL:List Int=>L.length<=k+1/\∀ x∈L,0<=x/\x<c7.length) ?_ λr hr=>.aj ⟨aP,rfl,hr⟩;refine .aB (Ξ:=λ_=>True) (Tot.bt (λh=>?_) (λ_=>.aj trivial)) λc aa=>?_
 ·exact .aB (M9 hm t.State gB.dw ⟨by omega,Kb.2.1⟩ (by omega)) λ_ _=>.aj trivial
 refine .aB (Ξ:=λL:List Int=>L.length<=k+1/\∀ x∈L,0<=x/\x<c7.length) (Tot.bH (λh=>?_) (λ_=>.aj ⟨by omega,aE⟩)) λr hr=>.aj hr;refine .bJ<|.aj ⟨by simp; omega,λp aq=>?_⟩;rcases List.mem_append.1 aq with aq | aq
 ·exact aE p aq
 ·rw [List.mem_singleton.1 aq]; exact ⟨by omega,by omega⟩
structure y7 (g:bA) (l:lM):Prop where
 p:oY g l.Prod
 t:jk g.bo.length l.bo
def oh (c:Cell):Nat:=c.bu.length+(if 0<=c.k2 then 1 else 0)+(if c.nK then 1 else 0)
theorem aa6 {x:Option Int}{c:Cell}(ah:c.bu.length<=1000) (e:x=(((bif decide (0<=c.k2) then
some (aG ((c.bu.length:Int)+1))
else
some (c.bu.length:Int))).bind λlB =>
((bif c.nK then
some (aG (lB+1))
else
some lB)).bind λhN =>
some hN)):x=some (oh c:Int):=by
 subst e;have hw:aG ((c.bu.length:Int)+1)=(c.bu.length:Int)+1:=by rw [cv]; omega
 have Km:aG ((c.bu.length:Int)+1+1)=(c.bu.length:Int)+1+1:=by rw [cv]; omega
 unfold oh;by_cases h:0<=c.k2
 ·cases af:c.nK <;> simp [h,hw,Km]
 ·cases af:c.nK <;> simp [h,hw]
theorem Np (c:Cell) (ah:c.bu.length<=1000):AL c=some (oh c:Int):=aa6 ah (by unfold AL; rfl)
structure pz (g:bA) (n:Nat) (c:Cell):Prop where
 s:0<=c.State/\c.State<n
 t:0<=c.b4/\c.b4<g.bo.length
 f:-1<=c.k2/\c.k2<n
 p:fg iP c.bu
 q:∀ p∈c.bu,oY g p
 Rr:0<oh c
theorem pz.len {g:bA}(aN:f' g) {n:Nat}{c:Cell}(h:pz g n c):c.bu.length<=60:=by
 have:=aN.jd;have:=jk.len (T:=g.bu.length) ⟨h.p,λx J=>⟨by have:=(h.q x J).1; omega,(h.q x J).2⟩⟩;omega
def yT (a b:Cell):Prop:=a.State<b.State\/(a.State=b.State/\a.b4<b.b4)
structure Bd (g:bA) (n:Nat) (l:List Cell):Prop where
 ok:∀ c∈l,pz g n c
 aeW:l.Pairwise yT
 n:l.length<=6000
theorem f128 (m:List State) (k:List Item) (aK:m.length<=1000) (h1:∀ st∈m,st.Kernel.length<=1000000):Tot (Dv m k) λr=>-1<=r/\r<m.length/\(0<=r->∃ st,m[r.toNat]?=some st/\st.Kernel=k):=by
 unfold Dv;refine .aB (Ξ:=ie (λ_=>True) (λr:Int=>0<=r/\r<m.length/\∃ st,m[r.toNat]?=some st/\st.Kernel=k)) ?_ λx J=>?_
 ·refine Tot.upto (λs=>s) m.length (λ_ _=>True) rfl (by omega) trivial λj s ag he _=>?_;subst he;rw [eA j (by omega)];refine Tot.bt (λaP=>?_) (λdF=>.aj trivial);have aP:j<m.length:=by omega
  rw [dT aP];refine Tot.aV (.aB (TF _ k (h1 _ (List.getElem_mem aP))) λc aa=>Tot.bH (λh=>.aj ⟨by omega,by omega,m[j],?_,aa.1 h⟩) (λh=>.aj ⟨aP,rfl,trivial⟩));rw [Int.toNat_natCast]; exact List.getElem?_eq_getElem aP
 ·rcases x with x | x
  ·exact .aj ⟨by omega,by omega,λh=>by omega⟩
  ·have J:0<=x/\x<m.length/\∃ st,m[x.toNat]?=some st/\st.Kernel=k:=J;exact .aj ⟨by omega,by omega,λ_=>J.2.2⟩
structure j2 (g:bA) (m:List State) (q j:Nat):Prop where
 k0:∃ st,m[0]?=some st/\st.Kernel=[(⟨0,0⟩:Item)]
 aT:∀ (i:Nat) (st:State),m[i]?=some st->∀ v∈st.dY,(∃ (t:Nat) (u:State),v.rW=(t:Int)/\m[t]?=some u/\∀ y,y∈u.Kernel↔qa g st.Kernel v.Sym y)/\∃ y,qa g st.Kernel v.Sym y
 dB:∀ (i:Nat) (st:State),m[i]?=some st->∀ (k:Nat) (s:Int),(syms g)[k]?=some s->(i<q\/(i=q/\k<j))->∀ y,qa g st.Kernel s y->∃ v∈st.dY,v.Sym=s
theorem j2.skip {g:bA}{m:List State}{q j:Nat}(h:j2 g m q j) {st:State}{s:Int}(a_:m[q]?=some st) (av:(syms g)[j]?=some s) (aC:∀ y,¬ qa g st.Kernel s y):j2 g m q (j+1):=by
 refine ⟨h.k0,h.aT,λi u hu k cz hk aa y ao=>?_⟩;by_cases e:i=q/\k=j
 ·obtain ⟨rfl,rfl⟩:=e;rw [a_] at hu; cases hu;rw [av] at hk; cases hk;exact absurd ao (aC y)
 ·exact h.dB i u hu k cz hk (by omega) y ao
theorem j2.more {g:bA}{m:List State}{q j:Nat}(h:j2 g m q j) (ah:q<m.length) (K:List Item):j2 g (m++[⟨K,[]⟩]) q j:=by
 have up:∀ {i:Nat}{u:State},m[i]?=some u->(m++[(⟨K,[]⟩:State)])[i]?=some u:=λ{i u} hu=>by
  rw [List.getElem?_append_left (List.getElem?_eq_some_iff.1 hu).1]; exact hu
 have ql:∀ {i:Nat}{u:State},(m++[(⟨K,[]⟩:State)])[i]?=some u->m[i]?=some u\/(m.length<=i/\u=⟨K,[]⟩):=λ{i u} hu=>by
  by_cases e:i<m.length
  ·rw [List.getElem?_append_left e] at hu; exact .inl hu
  ·rw [List.getElem?_append_right (by omega)] at hu;have:=List.mem_of_getElem? hu;exact .inr ⟨by omega,by simpa using this⟩
 refine ⟨?_,λi st hi v hv=>?_,λi st hi k s hk aa y ao=>?_⟩
 ·obtain ⟨st,h1,af⟩:=h.k0;exact ⟨st,up h1,af⟩
 ·rcases ql hi with hi | ⟨_,rfl⟩
  ·obtain ⟨⟨t,u,h1,af,aE⟩,bm⟩:=h.aT i st hi v hv;exact ⟨⟨t,u,h1,up af,aE⟩,bm⟩
  ·cases hv
 ·rcases ql hi with hi | ⟨aI,rfl⟩
  ·exact h.dB i st hi k s hk aa y ao
  ·omega
theorem j2.put {g:bA}{m:List State}{q j:Nat}(h:j2 g m q j) {st u:State}{s:Int}{t:Nat}(a_:m[q]?=some st) (av:(syms g)[j]?=some s) (eG:(syms g).Nodup) (au:m[t]?=some u) (hu:∀ y,y∈u.Kernel↔qa g st.Kernel s y) (cS:∃ y,qa g st.Kernel s y):j2 g (m.set q ⟨st.Kernel,st.dY++[⟨s,(t:Int)⟩]⟩) q (j+1):=by
 have kQ:=(List.getElem?_eq_some_iff.1 a_).1;have Fk:∀ {i:Nat}{w:State},m[i]?=some w->∃ w',(m.set q ⟨st.Kernel,st.dY++[⟨s,(t:Int)⟩]⟩)[i]?=some w'/\w'.Kernel=w.Kernel:=λ{i w} hw=>by
  rw [p3 kQ];by_cases e:i=q
  ·subst e;rw [a_] at hw; cases hw;exact ⟨_,if_pos rfl,rfl⟩
  ·exact ⟨w,by rw [if_neg e]; exact hw,rfl⟩
 refine ⟨?_,λi w hi v hv=>?_,λi w hi k cz hk aa y ao=>?_⟩
 ·obtain ⟨w,h1,af⟩:=h.k0;obtain ⟨w',aE,bm⟩:=Fk h1;exact ⟨w',aE,bm.trans af⟩
 ·rw [p3 kQ] at hi;by_cases e:i=q
  ·subst e;rw [if_pos rfl] at hi; cases hi;rcases List.mem_append.1 hv with hv | hv
   ·obtain ⟨⟨t',sM,h1,af,aE⟩,bm⟩:=h.aT i st a_ v hv;obtain ⟨sN,b7,dr⟩:=Fk af;exact ⟨⟨t',sN,h1,b7,dr ▸ aE⟩,bm⟩
   ·rw [List.mem_singleton.1 hv];obtain ⟨sN,b7,dr⟩:=Fk au;exact ⟨⟨t,sN,rfl,b7,dr ▸ hu⟩,cS⟩
  ·rw [if_neg e] at hi;obtain ⟨⟨t',sM,h1,af,aE⟩,bm⟩:=h.aT i w hi v hv;obtain ⟨sN,b7,dr⟩:=Fk af;exact ⟨⟨t',sN,h1,b7,dr ▸ aE⟩,bm⟩
 ·rw [p3 kQ] at hi;by_cases e:i=q
  ·subst e;rw [if_pos rfl] at hi; cases hi;by_cases IL:k=j
   ·subst IL;rw [av] at hk; cases hk;exact ⟨_,List.mem_append.2 (.inr (List.mem_singleton.2 rfl)),rfl⟩
   ·obtain ⟨v,hv,e⟩:=h.dB i st a_ k cz hk (by omega) y ao;exact ⟨v,List.mem_append.2 (.inl hv),e⟩
  ·rw [if_neg e] at hi;exact h.dB i w hi k cz hk (by omega) y ao
theorem j2.next {g:bA}{m:List State}{q:Nat}(h:j2 g m q (syms g).length):j2 g m (q+1) 0 :=
 ⟨h.k0,h.aT,λi st hi k s hk aa y ao=>h.dB i st hi k s hk (by have:=(List.getElem?_eq_some_iff.1 hk).1; omega) y ao⟩
theorem Zr (g:bA) (aX:f' g):Tot (AQ g) λr=>(r.2=0/\nh g r.1/\j2 g r.1 r.1.length 0)\/r.2=4:=by
 have cX:=aX.lk;have bp:=aX.e1;have bT:=aX.jd;unfold AQ;refine Tot.aB (M7 g aX) λaR h1=>?_;subst h1;have fN:=aaS g;refine Tot.aB (Ξ:=ie (λm=>nL g m m.length 0/\j2 g m m.length 0) (λr:List State × Int=>r.2=4)) ?_ λx J=>?_
 ·refine Tot.loop (λs=>∃ q:Nat,s.2=(q:Int)/\q<=s.1.length/\nL g s.1 q 0/\j2 g s.1 q 0) (λs=>151 - s.2.toNat) ⟨0,rfl,Nat.zero_le _,⟨by simp,by simp,λs av=>?_,λi s av=>?_,λs av v hv=>?_⟩,⟨_,rfl,rfl⟩,λi s av v hv=>?_,λi s av k cz hk aa=>?_⟩ (by show 151 - 0<1000000000000000000; omega) λs bU=>?_
  ·rw [List.mem_singleton.1 av];refine ⟨List.pairwise_singleton ..,λx J=>?_⟩;rw [List.mem_singleton.1 J];obtain ⟨q,a_⟩:∃ q,g.bu[0]?=some q:=⟨g.bu[0]'(by omega),List.getElem?_eq_getElem _⟩;exact Ps (p:=0) a_
  ·have:=List.mem_of_getElem? av;rw [List.mem_singleton.1 this]; exact List.nil_sublist _
  ·rw [List.mem_singleton.1 av] at hv; cases hv
  ·have:=List.mem_of_getElem? av;rw [List.mem_singleton.1 this] at hv; cases hv
  ·omega
  obtain ⟨q,he,a_,B4,jK⟩:=bU;obtain ⟨m,i⟩:=s;simp only at he a_ B4 jK ⊢;subst he;have s_:=B4.nE;rw [eA q (by omega)];refine Tot.bt (λaP=>?_) (λdF=>.aj ?_)
  ·have aP:q<m.length:=by omega
   rw [dT aP];have c5:=B4.pW _ (List.getElem_mem aP);obtain ⟨Sh,Jf⟩:∃ K,K=m[q].Kernel:=⟨_,rfl⟩;refine Tot.aV (Tot.aB (H8 g aX _ (by have:=c5.len aX; omega)) λc aa=>?_);have hT:=tO aX aa.1 λx J=>((aa.2 x).1 J).iM;refine Tot.aB (Ξ:=λl:List Int=>l.length<=1000/\∀ a,a∈l↔∃ x∈c,gA g x=a/\0<=a) ?_ λSE Oc=>?_
   ·refine Tot.upto (λs=>s.2) c.length (λk s=>fg iP s.1/\s.1.length<=k/\∀ a,a∈s.1↔∃ x∈c.take k,gA g x=a/\0<=a) rfl (by omega) ⟨.nil,Nat.le_refl 0,λa=>by simp⟩ λk s hk he bc=>?_;obtain ⟨l,i⟩:=s;obtain ⟨g1,g2,g3⟩:=bc;simp only at he g1 g2 g3 ⊢;subst he;rw [eA k (by omega)];refine Tot.bt (λaP=>?_) (λdF=>.aj ⟨by omega,λa=>by rw [List.take_of_length_le (by omega)] at g3; exact g3 a⟩);have aP:k<c.length:=by omega
    have fP:=lG aP;rw [dT aP];generalize c[k]=x at *;refine .aB (Ξ:=λl:List Int=>fg iP l/\l.length<=k+1/\∀ a,a∈l↔∃ x∈c.take (k+1),gA g x=a/\0<=a) ?_ λo aX=>.aj ⟨aP,rfl,aX⟩;refine Tot.aV ?_;rw [IE g _];refine Tot.aV (.aB (Ξ:=λl:List Int=>fg iP l/\l.length<=k+1/\∀ a,a∈l↔∃ x∈c.take (k+1),gA g x=a/\0<=a) ?_ λo aX=>.aj aX);refine Tot.bt (λaq=>.aB (E_ l (gA g x) g1 (by omega)) λr hr=>.aj ⟨hr.1,by have:=hr.2.1; omega,λa=>?_⟩) (λaq=>.aj ⟨g1,by omega,λa=>?_⟩)
    ·rw [hr.2.2,g3,fP];constructor
     ·rintro (⟨z,aW,h⟩ | rfl)
      ·exact ⟨z,List.mem_append.2 (.inl aW),h⟩
      ·exact ⟨x,List.mem_append.2 (.inr (by simp)),rfl,aq⟩
     ·rintro ⟨z,aW,h⟩;rcases List.mem_append.1 aW with aW | aW
      ·exact .inl ⟨z,aW,h⟩
      ·rw [List.mem_singleton.1 aW] at h;exact .inr h.1.symm
    ·rw [g3,fP];constructor
     ·rintro ⟨z,aW,h⟩;exact ⟨z,List.mem_append.2 (.inl aW),h⟩
     ·rintro ⟨z,aW,h⟩;rcases List.mem_append.1 aW with aW | aW
      ·exact ⟨z,aW,h⟩
      ·rw [List.mem_singleton.1 aW] at h;omega
   ·refine Tot.aB (Ξ:=ie (λm=>nL g m q (syms g).length/\q<m.length/\j2 g m q (syms g).length) (λr:List State × Int=>r.2=4)) ?_ λx J=>?_
    ·refine Tot.upto (λs=>s.2) (syms g).length (λk s=>nL g s.1 q k/\q<s.1.length/\j2 g s.1 q k/\∃ u,s.1[q]?=some u/\u.Kernel=Sh) rfl (by omega) ⟨B4,aP,jK,_,List.getElem?_eq_getElem aP,Jf.symm⟩ λk s hk he bc=>?_;obtain ⟨m,i⟩:=s;obtain ⟨ua,kQ,B6,Rw,CN,CO⟩:=bc;simp only at he ua kQ B6 CN ⊢;subst he;rw [eA k (by omega)];have vE:=ua.nE;refine Tot.bt (λaP=>?_) (λdF=>.aj ?_)
     ·have aP:k<(syms g).length:=by omega
      have qz:=List.getElem_mem aP;have n0:(syms g)[k]?=some (syms g)[k]:=List.getElem?_eq_getElem aP;rw [dT aP];generalize (syms g)[k]=s at *;refine Tot.aV (Tot.aB (r0 SE s (by omega)) λcr xn=>?_);refine Tot.bH (λCl=>.aj ⟨aP,rfl,ua.mono (by omega),kQ,B6.skip CN n0 λy ao=>?_,Rw,CN,CO⟩) (λCl=>?_)
      ·obtain ⟨x,gJ,gv,hl,_⟩:=ao;rw [CO,Jf] at gJ;have:=xn.2 ((Oc.2 s).2 ⟨x,(aa.2 x).2 gJ,gv,hl⟩);simp [this] at Cl
      have mR:m[q]?=some m[q]:=List.getElem?_eq_getElem kQ;have c5:=ua.pW _ (List.getElem_mem kQ);rw [dT kQ];generalize m[q]=st at *;obtain rfl:st=Rw:=by rw [mR] at CN; exact Option.some.inj CN
      have cS:∃ y,qa g st.Kernel s y:=by
       have:cr=true:=by simpa using Cl
       obtain ⟨x,gJ,gv,hl⟩:=(Oc.2 s).1 (xn.1 this);exact ⟨_,x,by rw [CO,Jf]; exact (aa.2 x).1 gJ,gv,hl,rfl⟩
      refine Tot.aV (Tot.aV (Tot.aB (Ty g aX st.Kernel s (by have:=c5.len aX; omega)) λy3 zB=>?_));have ih:y4 g y3:=⟨zB.1,λy ao=>((zB.2 y).1 ao).iM aX⟩;refine Tot.aB (f128 m y3 (by omega) λt au=>by have:=(ua.pW t au).len aX; omega) λz aW=>?_;have XO:=(ua.ms q st mR).length_le;rw [if_neg (by omega),if_pos rfl,List.length_map,List.length_take] at XO;refine Tot.bt (λCw=>Tot.bt (λ_=>.aj rfl) (λOO=>?_)) (λpP=>?_)
      ·refine .bJ<|?_;have V5:=ua.more (by omega) ih;have JI:(m++[(⟨y3,[]⟩:State)])[q]?=some st:=by rw [List.getElem?_append_left kQ]; exact mR
       have Cp:idx (m++[(⟨y3,[]⟩:State)]) (q:Int)=some st:=by simp only [idx,if_pos (show (0:Int)<=(q:Int) by omega),Int.toNat_natCast]; exact JI
       rw [Cp];refine Tot.aV (Tot.aV ?_);refine .bJ<|.aj ⟨aP,rfl,?_⟩;rw [Int.toNat_natCast];refine ⟨V5.put JI ⟨qz,by show (0:Int)<=(m.length:Int); omega,by show (m.length:Int)<_; simp; omega⟩ n0,by show q<(List.set _ _ _).length; rw [List.length_set]; simp; omega,?_,⟨st.Kernel,st.dY++[⟨s,(m.length:Int)⟩]⟩,?_,CO⟩
       ·exact (B6.more kQ y3).put (u:=⟨y3,[]⟩) (t:=m.length) JI n0 (LP aX) (by rw [List.getElem?_append_right (Nat.le_refl _),Nat.sub_self]; rfl) zB.2 cS
       ·rw [p3 (by simp; omega),if_pos rfl]
      ·refine Tot.aV (Tot.aV ?_);refine .bJ<|.aj ⟨aP,rfl,?_⟩;rw [Int.toNat_natCast];obtain ⟨w,Kl,Km⟩:=aW.2.2 (by omega);refine ⟨ua.put mR ⟨qz,by show 0<=z; omega,aW.2.1⟩ n0,by show q<(List.set _ _ _).length; rw [List.length_set]; exact kQ,?_,⟨st.Kernel,st.dY++[⟨s,z⟩]⟩,?_,CO⟩
       ·have:=B6.put (u:=w) (t:=z.toNat) mR n0 (LP aX) Kl (by rw [Km]; exact zB.2) cS
        rwa [show ((z.toNat:Nat):Int)=z by omega] at this
       ·rw [p3 kQ,if_pos rfl]
     ·have:k=(syms g).length:=by omega
      subst this;exact ⟨ua,kQ,B6⟩
    ·rcases x with x | x
     ·obtain ⟨h1,af,aE⟩:=J;refine .aj ⟨⟨q+1,rfl,af,h1.next,aE.next⟩,?_⟩;show 151 - ((q+1:Nat):Int).toNat<151 - (q:Int).toNat;omega
     ·exact .aj J
  ·have:q=m.length:=by omega
   subst this;exact ⟨B4,jK⟩
 ·rcases x with x | x
  ·have V_:j2 g x x.length 0:=J.2;have J:nL g x x.length 0:=J.1;have key:∀ st∈x,(st.dY.map (·.Sym)).Sublist (syms g):=λst bU=>by
    obtain ⟨i,hi⟩:=List.getElem?_of_mem bU;have:=J.ms i st hi;rw [if_pos (List.getElem?_eq_some_iff.1 hi).1] at this;exact this
   refine .aj (.inl ⟨rfl,⟨J.gN,J.nE,J.pW,λst bU=>?_,λst bU=>(key st bU).nodup (LP aX),J.aT⟩,V_⟩);have:=(key st bU).length_le;rw [List.length_map] at this; omega
  ·exact .aj (.inr J)
def yU (g:bA) (K:List Item) (p:Int):Prop:=∃ r,idx g.bu p=some r/\l' g K ⟨p,r.dw.length⟩
def om (g:bA) (m:List State) (q p:Int):Prop:=∃ st,idx m q=some st/\yU g st.Kernel p
structure tA (g:bA) (m:List State) (c:Cell):Prop where
 T3:∀ p∈c.bu,om g m c.State p
 dO:GoTo m c.State c.b4 c.k2
 ac:c.nK=true->∃ st,idx m c.State=some st/\(⟨0,1⟩:Item)∈st.Kernel
theorem Zs (g:bA) (aN:f' g) (K:List Item) (ah:K.length<=1000000):Tot (DV g K) λr=>r.length<=540/\∀ p∈r,oY g p/\yU g K p:=by
 unfold DV;refine .aB (H8 g aN K ah) λc Ck=>?_;have hT:=tO aN Ck.1 λx J=>((Ck.2 x).1 J).iM;refine .aB (Ξ:=λr:List Int=>r.length<=540/\∀ p∈r,oY g p/\yU g K p) ?_ λr hr=>.aj hr;refine Tot.upto (λs=>s.2) c.length (λk s=>s.1.length<=k/\∀ p∈s.1,oY g p/\yU g K p) rfl (by omega) ⟨Nat.le_refl 0,λp h=>by cases h⟩ λk s hk he bc=>?_;obtain ⟨L,i⟩:=s;obtain ⟨h1,af⟩:=bc;simp only at he h1 af ⊢;subst he;rw [eA k (by omega)];refine Tot.bt (λaP=>?_) (λdF=>.aj ⟨by show L.length<=_; omega,af⟩);have aP:k<c.length:=by omega
 have Oo:=(Ck.2 _).1 (List.getElem_mem aP);have hi:=Oo.iM;rw [dT aP];generalize c[k]=x at *;obtain ⟨q,a_,aE,bm⟩:=hi;simp only [Option.bind_some];refine .aB (Ξ:=λL:List Int=>L.length<=k+1/\∀ p∈L,oY g p/\yU g K p) ?_ λr hr=>.aj ⟨aP,rfl,hr⟩;refine .aB (Ξ:=λc:Bool=>c=true->0<x.Prod/\x.ee=(q.dw.length:Int)) (Tot.bt (λh=>?_) (λ_=>.aj λh=>by cases h)) λc aa=>?_
 ·rw [a_]; exact Tot.aV (.aj λaI=>⟨h,of_decide_eq_true aI⟩)
 refine .aB (Ξ:=λL:List Int=>L.length<=k+1/\∀ p∈L,oY g p/\yU g K p) (Tot.bH (λh=>?_) (λ_=>.aj ⟨by omega,af⟩)) λr hr=>.aj hr;refine .bJ<|.aj ⟨by simp; omega,λp aq=>?_⟩;rcases List.mem_append.1 aq with aq | aq
 ·exact af p aq
 ·rw [List.mem_singleton.1 aq];have aQ:=aa h;refine ⟨⟨aQ.1,(ka a_).2.1⟩,q,a_,?_⟩;rw [<- aQ.2]; exact Oo
theorem Zq (g:bA) (aN:f' g) {m:List State}(hm:nh g m):Tot (DT g m) λr=>r.length<=81000/\∀ l∈r,y7 g l/\om g m l.State l.Prod:=by
 have au:=aN.lk;have s_:=hm.nE;unfold DT;refine .aB (TU g aN hm) λF aH=>?_;obtain ⟨c7,qo,hV,ad',jt⟩:=aH;have xC:=hV.n;refine .aB (Ξ:=λr:List lM=>r.length<=81000/\∀ l∈r,y7 g l/\om g m l.State l.Prod) ?_ λr hr=>.aj hr;refine Tot.upto (λs=>s.2) m.length (λk s=>s.1.length<=540 * k/\∀ l∈s.1,y7 g l/\om g m l.State l.Prod) rfl (by omega) ⟨Nat.le_refl 0,λp h=>by cases h⟩ λk s hk he bc=>?_;obtain ⟨L,i⟩:=s;obtain ⟨h1,af⟩:=bc;simp only at he h1 af ⊢;subst he;rw [eA k (by omega)];refine Tot.bt (λaP=>?_) (λdF=>.aj ⟨by show L.length<=_; omega,af⟩);have aP:k<m.length:=by omega
 have c5:=hm.pW _ (List.getElem_mem aP);have Cr:=dT aP;rw [Cr];generalize m[k]=st at *;refine Tot.aV (.aB (Zs g aN st.Kernel (by have:=c5.len aN; omega)) λE lv=>?_);obtain ⟨ad9,VU⟩:=lv;refine .aB (Ξ:=λL:List lM=>L.length<=540 * (k+1)/\∀ l∈L,y7 g l/\om g m l.State l.Prod) ?_ λr hr=>.aj ⟨aP,rfl,hr⟩;refine Tot.upto (λs=>s.2) E.length (λj s=>s.1.length<=540 * k+j/\∀ l∈s.1,y7 g l/\om g m l.State l.Prod) rfl (by omega) ⟨h1,af⟩ λj s ag he bc=>?_;obtain ⟨L,i⟩:=s;obtain ⟨h1,af⟩:=bc;simp only at he h1 af ⊢;subst he;rw [eA j (by omega)];refine Tot.bt (λfX=>?_) (λdF=>.aj ⟨by show L.length<=_; omega,af⟩);have fX:j<E.length:=by omega
 have aq:=VU _ (List.getElem_mem fX);rw [dT fX];generalize E[j]=p at *;simp only [Option.bind_some];refine .aB (TV g aN hm qo hV k p) λB eX=>?_;obtain ⟨ad6,VR⟩:=eX;refine .aB (Ξ:=jk g.bo.length) ?_ λS bf=>?_
 ·refine Tot.upto (λs=>s.2) B.length (λ_ s=>jk g.bo.length s.1) rfl (by omega) .nil λb s ar he bc=>?_;obtain ⟨S,i⟩:=s;simp only at he bc ⊢;subst he;rw [eA b (by omega)];refine Tot.bt (λzP=>?_) (λdF=>.aj bc);have zP:b<B.length:=by omega
  have J:=VR _ (List.getElem_mem zP);rw [dT zP];generalize B[b]=x at *;obtain ⟨row,rm,zV⟩:=nC (l:=F) J.1 (by omega);have lz:=jt row zV;have oH:=lz.len;simp only [Option.bind_some,rm];refine .aB (Ξ:=jk g.bo.length) ?_ λS bf=>.aj ⟨zP,rfl,bf⟩;refine Tot.upto (λs=>s.2) row.length (λ_ s=>jk g.bo.length s.1) rfl (by omega) bc λz s aW he bc=>?_;obtain ⟨S,i⟩:=s;simp only at he bc ⊢;subst he;rw [eA z (by omega)];refine Tot.bt (λpN=>?_) (λdF=>.aj bc);have pN:z<row.length:=by omega
  rw [dT pN];exact Tot.aV (.aB (bc.put (by omega) (lz.i _ (List.getElem_mem pN))) λr hr=>.aj ⟨pN,rfl,hr.1⟩)
 ·refine .bJ<|.aj ⟨fX,rfl,by simp; omega,λl ah=>?_⟩;rcases List.mem_append.1 ah with ah | ah
  ·exact af l ah
  ·rw [List.mem_singleton.1 ah]; exact ⟨⟨aq.1,bf⟩,st,Cr,aq.2⟩
theorem Zp (g:bA) (aN:f' g) {m:List State}(hm:nh g m) (rz:List lM) (ah:rz.length<=81000) (hk:∀ l∈rz,y7 g l/\om g m l.State l.Prod):Tot (DS g m rz) λl=>Bd g m.length l/\∀ c∈l,tA g m c:=by
 have au:=aN.lk;have s_:=hm.nE;have rk:=aN.jd;unfold DS;refine .aB (Ξ:=λl=>Bd g m.length l/\∀ c∈l,tA g m c) ?_ λr hr=>.aj hr;refine Tot.upto (λs=>s.2) m.length (λk s=>s.1.length<=40 * k/\(∀ c∈s.1,pz g m.length c/\tA g m c)/\s.1.Pairwise yT/\∀ c∈s.1,c.State<k) rfl (by omega) ⟨Nat.le_refl 0,λp h=>(by cases h),.nil,λp h=>by cases h⟩ λk s JT he bc=>?_;obtain ⟨L,i⟩:=s;obtain ⟨h1,af,aE,bm⟩:=bc;simp only at he h1 af aE bm ⊢;subst he;rw [eA k (by omega)];refine Tot.bt (λaP=>?_) (λdF=>.aj ⟨⟨λc aa=>(af c aa).1,aE,by show L.length<=_; omega⟩,λc aa=>(af c aa).2⟩);have aP:k<m.length:=by omega
 have c5:=hm.pW _ (List.getElem_mem aP);have Cr:=dT aP;rw [Cr];generalize m[k]=st at *;have aeb:=c5.len aN;refine .aB (Ξ:=λL:List Cell=>L.length<=40 * (k+1)/\(∀ c∈L,pz g m.length c/\tA g m c)/\L.Pairwise yT/\∀ c∈L,c.State<(k+1:Nat)) ?_ λr hr=>.aj ⟨aP,rfl,hr⟩;refine Tot.upto (λs=>s.2) g.bo.length (λj s=>s.1.length<=40 * k+j/\(∀ c∈s.1,pz g m.length c/\tA g m c)/\s.1.Pairwise yT/\∀ c∈s.1,c.State<k\/(c.State=k/\c.b4<j)) rfl (by omega) ⟨h1,af,aE,λc aa=>.inl (bm c aa)⟩ λj s ag he bc=>?_;obtain ⟨L,i⟩:=s;obtain ⟨h1,af,aE,bm⟩:=bc;simp only at he h1 af aE bm ⊢;subst he;rw [eA j (by omega)];refine Tot.bt (λfX=>?_) (λdF=>.aj ⟨by show L.length<=_; omega,af,aE,λc aa=>by rcases bm c aa with h | h <;> omega⟩);refine .aB (Ξ:=λL:List Cell=>L.length<=40 * k+(j+1)/\(∀ c∈L,pz g m.length c/\tA g m c)/\L.Pairwise yT/\∀ c∈L,c.State<k\/(c.State=k/\c.b4<(j+1:Nat))) ?_ λr hr=>.aj ⟨by omega,rfl,hr⟩;refine .aB (E9 m k j hm.xX) λdO CJ=>?_;have XM:=CJ.aL hm;refine .aB (Ξ:=λb:Bool=>b=true->(⟨0,1⟩:Item)∈st.Kernel) ?_ λac Fw=>?_
 ·refine Tot.upto (λs=>s.2) st.Kernel.length (λ_ s=>s.1=true->(⟨0,1⟩:Item)∈st.Kernel) rfl (by omega) (λh=>by cases h) λz s aW he bc=>?_;obtain ⟨b,i⟩:=s;simp only at he bc ⊢;subst he;rw [eA z (by omega)];simp only [Option.bind_some];refine Tot.bt (λpN=>?_) (λ_=>.aj bc);have pN:z<st.Kernel.length:=by omega
  have Kv:=List.getElem_mem pN;rw [dT pN];generalize st.Kernel[z]=y at *;simp only [Option.bind_some];refine .aB (Ξ:=λb:Bool=>b=true->(⟨0,1⟩:Item)∈st.Kernel) (Tot.bH (λar=>.aj λ_=>bc ar) (λ_=>Tot.bt (λ_=>Tot.bt (λaK=>.aj λh1=>?_) (λ_=>.aj λh=>by cases h)) (λ_=>.aj λh=>by cases h))) λ_ h=>.aj ⟨pN,rfl,h⟩;have h1:y.ee=1:=of_decide_eq_true h1;have:y=⟨0,1⟩:=by cases y; simp only at aK h1; rw [aK,h1]
  rw [<- this]; exact Kv
 refine .aB (Ξ:=λP:List Int=>fg iP P/\∀ p∈P,oY g p/\om g m k p) ?_ λP bT=>?_
 ·refine Tot.upto (λs=>s.2) rz.length (λ_ s=>fg iP s.1/\∀ p∈s.1,oY g p/\om g m k p) rfl (by omega) ⟨.nil,λp h=>by cases h⟩ λz s aW he bc=>?_;obtain ⟨P,i⟩:=s;obtain ⟨g1,g2⟩:=bc;simp only at he g1 g2 ⊢;subst he;rw [eA z (by omega)];refine Tot.bt (λpN=>?_) (λdF=>.aj ⟨g1,g2⟩);have pN:z<rz.length:=by omega
  have fN:=hk _ (List.getElem_mem pN);rw [dT pN];generalize rz[z]=l at *;have Ke:=fN.1.t.len;have V9:=jk.len (T:=g.bu.length) ⟨g1,λx J=>⟨by have:=(g2 x J).1.1; omega,(g2 x J).1.2⟩⟩;simp only [Option.bind_some];refine .aB (Ξ:=λP:List Int=>fg iP P/\∀ p∈P,oY g p/\om g m k p) ?_ λr hr=>.aj ⟨pN,rfl,hr⟩;refine .aB (Ξ:=λb:Bool=>b=true->l.State=(k:Int)) (Tot.bt (λh=>.aB (r0 l.bo j (by omega)) λ_ _=>.aj λ_=>h) (λ_=>.aj λh=>by cases h)) λc eY=>?_;refine .aB (Ξ:=λP:List Int=>fg iP P/\∀ p∈P,oY g p/\om g m k p) (Tot.bH (λxn=>?_) (λ_=>.aj ⟨g1,g2⟩)) λr hr=>.aj hr;refine .aB (E_ P l.Prod g1 (by omega)) λr hr=>.aj ⟨hr.1,λp aq=>?_⟩;rcases (hr.2.2 p).1 aq with h | rfl
  ·exact g2 p h
  ·exact ⟨fN.1.p,by have:=fN.2; rwa [eY xn] at this⟩
 ·have V9:=jk.len (T:=g.bu.length) ⟨bT.1,λx J=>⟨by have:=(bT.2 x J).1.1; omega,(bT.2 x J).1.2⟩⟩;rw [Np _ (by show P.length<=_; omega)];refine Tot.aV (.aB (Ξ:=λL:List Cell=>L.length<=40 * k+(j+1)/\(∀ c∈L,pz g m.length c/\tA g m c)/\L.Pairwise yT/\∀ c∈L,c.State<k\/(c.State=k/\c.b4<(j+1:Nat))) (Tot.bt (λaK=>?_) (λ_=>.aj ⟨by omega,af,aE,λc aa=>by rcases bm c aa with h | h <;> omega⟩)) λr hr=>.aj hr);refine .bJ<|.aj ⟨by simp; omega,λc aa=>?_,List.pairwise_append.2 ⟨aE,List.pairwise_singleton ..,λa aJ b ar=>?_⟩,λc aa=>?_⟩
  ·rcases List.mem_append.1 aa with aa | aa
   ·exact af c aa
   ·rw [List.mem_singleton.1 aa];exact ⟨⟨⟨by show (0:Int)<=k; omega,by show (k:Int)<_; omega⟩,⟨by show (0:Int)<=j; omega,by show (j:Int)<_; omega⟩,XM,bT.1,λp aq=>(bT.2 p aq).1,by omega⟩,λp aq=>(bT.2 p aq).2,CJ,λh=>⟨st,Cr,Fw h⟩⟩
  ·rw [List.mem_singleton.1 ar];rcases bm a aJ with h | h
   ·exact .inl h
   ·exact .inr h
  ·rcases List.mem_append.1 aa with aa | aa
   ·rcases bm c aa with h | h
    ·exact .inl h
    ·exact .inr ⟨h.1,by omega⟩
   ·rw [List.mem_singleton.1 aa];exact .inr ⟨rfl,by show (j:Int)<_; omega⟩
def oo (m:List State) (s x cz:Int):Prop:=∃ st v,idx m s=some st/\v∈st.dY/\v.Sym=x/\v.rW=cz
def rT (g:bA) (m:List State) (s:Int) (x:Item):Prop:=∃ st,idx m s=some st/\l' g st.Kernel x
theorem FW {α:Type}{m:List α}{s:Int}{x:α}(h:idx m s=some x):∃ i:Nat,s=(i:Int)/\m[i]?=some x:=by
 obtain ⟨aK,h1,af⟩:=mn h;exact ⟨s.toNat,by omega,af⟩
theorem l'.dot {g:bA}{K:List Item}{x:Item}(h:l' g K x) (aQ:x.ee≠0):x∈K:=by
 cases h with
 | base h _=>exact h
 | step _ _ _ _=>exact absurd rfl aQ
theorem oo.PC {g:bA}{m:List State}{n:Nat}(jK:j2 g m n 0) {s x cz:Int}(h:oo m s x cz):∃ st u,idx m s=some st/\idx m cz=some u/\∀ y,y∈u.Kernel↔qa g st.Kernel x y:=by
 obtain ⟨st,v,h1,af,rfl,rfl⟩:=h;obtain ⟨i,rfl,hi⟩:=FW h1;obtain ⟨⟨t,u,aE,bm,b7⟩,_⟩:=jK.aT i st hi v af;exact ⟨st,u,h1,by rw [aE]; simp [idx,bm],b7⟩
theorem oo.back {g:bA}{m:List State}{n:Nat}(jK:j2 g m n 0) {s x cz p k:Int}(h:oo m s x cz) (aa:rT g m cz ⟨p,k⟩) (hk:1<=k):gA g ⟨p,k - 1⟩=x/\rT g m s ⟨p,k - 1⟩:=by
 obtain ⟨st,u,h1,af,aE⟩:=h.PC jK;obtain ⟨sM,bm,b7⟩:=aa;rw [af] at bm; cases bm;obtain ⟨y,ao,aC,_,e⟩:=(aE _).1 (b7.dot (show k≠0 by omega));have b9:p=y.Prod:=congrArg Item.Prod e;have b3:k=y.ee+1:=congrArg Item.ee e;have:(⟨p,k - 1⟩:Item)=y:=by
  cases y; simp only at b9 b3; rw [b9,b3]; congr 1; omega
 rw [this];exact ⟨aC,st,h1,ao⟩
theorem rT.zero {g:bA}{m:List State}{n:Nat}(jK:j2 g m n 0) {x:Item}(h:rT g m 0 x):x.ee=0:=by
 obtain ⟨st,h1,af⟩:=h;obtain ⟨uW,aE,bm⟩:=jK.k0;have:idx m 0=some uW:=by simp [idx,aE]
 rw [h1] at this; cases this;cases af with
 | base h _=>rw [bm,List.mem_singleton] at h; rw [h]
 | step _ _ _ _=>rfl
theorem rT.Vq {g:bA}(aN:f' g) {m:List State}(jK:j2 g m m.length 0) {s p:Int}(av:s=0\/∃ a x,oo m a x s) (h:rT g m s ⟨p,0⟩) (aq:p≠0) {r:Prod}(hr:idx g.bu p=some r):∃ cz,oo m s (1000+r.Left) cz:=by
 obtain ⟨st,h1,af⟩:=h;obtain ⟨i,rfl,hi⟩:=FW h1;generalize J:(⟨p,0⟩:Item)=x at af;cases af with
 | base h _ =>
  exfalso;rcases av with av | ⟨a,y,av⟩
  ·obtain ⟨uW,aE,bm⟩:=jK.k0;have:i=0:=by omega
   subst this;rw [aE] at hi; cases hi;rw [bm,List.mem_singleton] at h;rw [h] at J;exact aq (congrArg Item.Prod J)
  ·obtain ⟨uW,u,aE,bm,b7⟩:=av.PC jK;rw [h1] at bm; cases bm;obtain ⟨z,aW,_,_,e⟩:=(b7 _).1 h;rw [<- J] at e;have b3:(0:Int)=z.ee+1:=congrArg Item.ee e;obtain ⟨q,_,dr,_⟩:=aW.iM;omega
 | @step y q k h a_ aC aK =>
  have b9:p=(k:Int):=congrArg Item.Prod J;have:r=q:=by
   rw [b9] at hr;have:idx g.bu (k:Int)=some q:=by simp [idx,a_]
   rw [hr] at this; exact Option.some.inj this
  subst this;have mT:qa g st.Kernel (1000+r.Left) ⟨y.Prod,y.ee+1⟩:=⟨y,h,aC,by omega,rfl⟩;obtain ⟨_,j_,_⟩:=Gm aN (x:=y) (by omega);have mS:(1000+r.Left)∈syms g:=by
   rw [PQ];have:=aN.e1;have:=aN.lk;rw [aC] at j_;rcases j_ with aI | aI
   ·omega
   ·exact .inr (by omega)
  obtain ⟨j,ag⟩:=List.getElem?_of_mem mS;obtain ⟨v,hv,e⟩:=jK.dB i st hi j _ ag (.inl (List.getElem?_eq_some_iff.1 hi).1) _ mT;exact ⟨v.rW,st,v,h1,hv,e,rfl⟩
structure nk (m:List State) (st xs:List Int):Prop where
 len:st.length=xs.length+1
 z:st[0]?=some 0
 e:∀ (i:Nat) (a x b:Int),st[i]?=some a->xs[i]?=some x->st[i+1]?=some b->oo m a x b
theorem nk.start {m:List State}:nk m [0] []:=⟨rfl,rfl,λi a x b _ h _=>by simp at h⟩
theorem nk.take {m:List State}{st xs:List Int}(h:nk m st xs) {n:Nat}(aC:n<=xs.length):nk m (st.take (n+1)) (xs.take n):=by
 refine ⟨by have:=h.len; simp; omega,by rw [List.getElem?_take]; simp [h.z],λi a x b h1 af aE=>?_⟩;rw [List.getElem?_take] at h1 af aE
 split at h1
 ·split at af
  ·split at aE
   ·exact h.e i a x b h1 af aE
   ·cases aE
  ·cases af
 ·cases h1
theorem nk.push {m:List State}{st xs:List Int}(h:nk m st xs) {a x b:Int}(aJ:st[xs.length]?=some a) (he:oo m a x b):nk m (st++[b]) (xs++[x]):=by
 have ah:=h.len;refine ⟨by simp; omega,by rw [List.getElem?_append_left (by omega)]; exact h.z,λi ca x' dR h1 af aE=>?_⟩;by_cases hi:i<xs.length
 ·rw [List.getElem?_append_left (by omega)] at h1 aE;rw [List.getElem?_append_left hi] at af;exact h.e i ca x' dR h1 af aE
 ·have aP:=(List.getElem?_eq_some_iff.1 af).1;have:i=xs.length:=by simp at aP; omega
  subst this;rw [List.getElem?_append_left (by omega),aJ] at h1;rw [List.getElem?_append_right (by omega),Nat.sub_self] at af;rw [List.getElem?_append_right (by omega),ah,Nat.sub_self] at aE;cases h1; cases af; cases aE;exact he
theorem nk.from {m:List State}{st xs:List Int}(h:nk m st xs) {i:Nat}{a:Int}(aJ:st[i]?=some a):a=0\/∃ b x,oo m b x a:=by
 cases i with
 | zero=>rw [h.z] at aJ; cases aJ; exact .inl rfl
 | succ i =>
  have aP:=(List.getElem?_eq_some_iff.1 aJ).1;have ah:=h.len;have h1:i<st.length:=by omega
  have af:i<xs.length:=by omega
  exact .inr ⟨_,_,h.e i _ _ _ (List.getElem?_eq_getElem h1) (List.getElem?_eq_getElem af) aJ⟩
theorem nk.back {g:bA}{m:List State}{n:Nat}(jK:j2 g m n 0) {st xs:List Int}(h:nk m st xs) {p:Int}:∀ (k:Nat) {i:Nat}{a:Int},st[i]?=some a->rT g m a ⟨p,(k:Int)⟩->k<=i/\∀ j,j<=k->∃ b,st[i - j]?=some b/\rT g m b ⟨p,(k:Int) - j⟩/\(0<j->xs[i - j]?=some (gA g ⟨p,(k:Int) - j⟩)):=by
 intro k
 induction k with
 | zero=>
  intro i a aJ aa;refine ⟨by omega,λj ag=>?_⟩;obtain rfl:j=0:=by omega
  exact ⟨a,aJ,by simpa using aa,λh=>by omega⟩
 | succ k aO =>
  intro i a aJ aa;cases i with
  | zero =>
   rw [h.z] at aJ; cases aJ;have:=aa.zero jK;simp only at this;omega
  | succ i =>
   have aP:=(List.getElem?_eq_some_iff.1 aJ).1;have ah:=h.len;have h1:st[i]?=some st[i]:=List.getElem?_eq_getElem (by omega);have af:xs[i]?=some xs[i]:=List.getElem?_eq_getElem (by omega);obtain ⟨b9,b3⟩:=(h.e i _ _ _ h1 af aJ).back jK aa (by omega);have IL:((k+1:Nat):Int) - 1=(k:Int):=by omega
   rw [IL] at b9 b3;obtain ⟨aE,bm⟩:=aO h1 b3;refine ⟨by omega,λj ag=>?_⟩;cases j with
   | zero=>exact ⟨a,aJ,by simpa using aa,λh=>by omega⟩
   | succ j =>
    obtain ⟨b,b7,dr,kN⟩:=bm j (by omega);have es:i+1 - (j+1)=i - j:=by omega
    have w7:((k+1:Nat):Int) - ((j+1:Nat):Int)=(k:Int) - j:=by omega
    rw [es,w7];refine ⟨b,b7,dr,λ_=>?_⟩;by_cases Xb:j=0
    ·subst Xb;rw [Nat.sub_zero,af];simp [b9]
    ·exact kN (by omega)
open Go Go.Own
theorem iF.YT {m:fh}{T L:Nat}(h:iF m T L):lq m (3+T) m.dq.length 0 0 :=
 ⟨h.gr,h.lo,h.hi,by have:=h.ty; omega,rfl,by rw [h.hB]; decide,by rw [h.gB]; exact Nat.le_refl 0,by rw [h.gB]; exact λp aq=>absurd aq (by simp),h.lvl,h.jw,by rw [h.gB]; exact λ_ p aq=>absurd aq (by simp)⟩
theorem t123 (s:Source) (ar:u' s):Tot (v7 s) λr=>r.2.1=0->f' r.1:=by
 unfold v7;refine .aB (t146 s ar) λc aa=>Tot.bH (λ_=>.aj λh=>absurd h (by decide)) (λku=>?_);have ok:Mu s:=aa (by simpa using ku);refine .aB (Tot.mk (by decide) (rfl:List.replicate (3:Int).toNat false=List.replicate (3:Int).toNat false)) λa8 hl=>?_;have W1:=ar.ql;have CG:=ar.aF
 -- declarations
 refine Tot.aB (Ξ:=λr=>iF r.1 (1001 * 1000) 0) ?_ λb1 b7=>?_
 ·refine Tot.count (λz=>z.2.2) s.Decls.length (λz=>0<=z.2.2/\z.2.2<=s.Decls.length/\iF z.1 (1001 * z.2.2.toNat) 0/\z.1.fj<=z.2.2) ⟨Int.le_refl 0,by show (0:Int)<=_; omega,⟨by show a8.length=3; rw [<- hl]; rfl,Nat.le_refl 3,Nat.le_refl 3,Nat.le_refl 0,Nat.le_refl 0,rfl,rfl,Int.le_refl 0,by show ∀ t∈[_,_,_],0<=b4.Level t; simp⟩,Int.le_refl 0⟩ (by show (s.Decls.length:Int) - 0<_; omega) λz aW=>?_;obtain ⟨m,st,i⟩:=z;obtain ⟨aK,h1,hm,pO⟩:=aW;simp only at aK h1 hm pO ⊢;have hw:aG (i+1)=i+1:=by rw [cv]; omega
  rw [hw];have ui:=hm.lvl;refine Tot.bt (λaP=>?_) (λ_=>.aj (hm.mono (by omega) (Nat.le_refl _)));refine .aB (Tot.hC (Φ:=λy=>y∈s.Decls) aK aP λy _ ao=>ao) λd aQ=>?_;have js:=ar.decls d aQ;have zH:=js.n;refine .aB (Ξ:=λ_=>True) (Tot.bH (λ_=>.aj trivial) (λ_=>.aj trivial)) λiI _=>.aB (Ξ:=λj=>0<=j/\j<=i+1) (Tot.bH (λ_=>.aj (by rw [cv]; omega)) (λ_=>.aj (by omega))) λjb BW=>?_;refine Tot.aB (Ξ:=λr=>iF r.1 (1001 * i.toNat+1000) 0/\r.1.fj<=i+1) ?_ λe3 vn=>.aj ⟨⟨?_,?_,?_,?_⟩,?_,?_⟩
  ·refine Tot.count (λz=>z.2.2) d.fi.length (λz=>0<=z.2.2/\z.2.2<=d.fi.length/\iF z.1 (1001 * i.toNat+z.2.2.toNat) 0/\z.1.fj<=i+1) ⟨Int.le_refl 0,by show (0:Int)<=_; omega,⟨hm.gr,hm.lo,hm.hi,hm.ty,hm.e_,hm.gB,hm.hB,BW.1,hm.jw⟩,BW.2⟩ (by show (d.fi.length:Int) - 0<_; omega) λz aW=>?_;obtain ⟨m,st,k⟩:=z;obtain ⟨g0,g1,hm,pO⟩:=aW;simp only at g0 g1 hm pO ⊢;have sk:aG (k+1)=k+1:=by rw [cv]; omega
   rw [sk];refine Tot.bt (λxt=>?_) (λ_=>.aj ⟨hm.mono (by omega) (Nat.le_refl _),pO⟩);have F0:Tot (idx d.fi k) λy=>y∈d.fi:=Tot.hC g0 xt λy _ ao=>ao;refine Tot.aB (Ξ:=λj=>iF j.1 (1001 * i.toNat+k.toNat+1) 0/\j.1.fj<=i+1) ?_ λj ag=>.aj ⟨⟨?_,?_,?_,ag.2⟩,?_,?_⟩
   ·refine Tot.bH (λ_=>?_) (λ_=>?_)
    ·refine .aB F0 λx J=>.aB (t147 m d x hm.gr (by have:=hm.hi; omega) (by have:=hm.ty; omega) (ok.decls d aQ x J)) λm' aN=>.aj ⟨hm.grow aN,by show m'.fj<=_; rw [aN.lvl]; exact pO⟩
    ·refine Tot.aB (Ξ:=λj=>iF j (1001 * i.toNat+k.toNat+1) 0/\j.fj<=i+1) ?_ λj ag=>.aB F0 λ_ _=>.aj ag;refine Tot.bH (λ_=>?_) (λ_=>.aj ⟨hm.mono (by omega) (Nat.le_refl _),pO⟩);exact .aB F0 λ_ _=>.aB F0 λ_ _=>.aB (t148 m _ _) λm' hZ=>.aj ⟨(hm.same hZ.1).mono (by omega) (Nat.le_refl _),by rw [hZ.1.jw]; exact pO⟩
   ·show 0<=k+1; omega
   ·show k+1<=(d.fi.length:Int); omega
   ·show iF j.1 (1001 * i.toNat+(k+1).toNat) 0;exact ag.1.mono (by omega) (Nat.le_refl _)
   ·show k<k+1; omega
   ·show k+1<=(d.fi.length:Int); omega
  ·show 0<=i+1; omega
  ·show i+1<=(s.Decls.length:Int); omega
  ·show iF e3.1 (1001 * (i+1).toNat) 0;exact vn.1.mono (by omega) (Nat.le_refl _)
  ·exact vn.2
  ·show i<i+1; omega
  ·show i+1<=(s.Decls.length:Int); omega
 -- what stands on the left
 refine Tot.aB (Ξ:=λr=>iF r (1001 * 1000) 1000) ?_ λgD I5=>?_
 ·refine Tot.count (λz=>z.2) s.eR.length (λz=>0<=z.2/\z.2<=s.eR.length/\iF z.1 (1001 * 1000) z.2.toNat) ⟨Int.le_refl 0,by show (0:Int)<=_; omega,b7⟩ (by show (s.eR.length:Int) - 0<_; omega) λz aW=>?_;obtain ⟨m,i⟩:=z;obtain ⟨aK,h1,hm⟩:=aW;simp only at aK h1 hm ⊢;have hw:aG (i+1)=i+1:=by rw [cv]; omega
  rw [hw];refine Tot.bt (λaP=>?_) (λ_=>.aj (hm.mono (Nat.le_refl _) (by omega)));have vz:=hm.hi;have vB:=hm.e_;refine Tot.aB (Ξ:=λj=>iF j (1001 * 1000) (i.toNat+1)) ?_ λj ag=>.aj ⟨⟨?_,?_,?_⟩,?_,?_⟩
  ·refine .aB (Tot.hC (Φ:=λ_=>True) aK aP λy _ ao=>trivial) λr hr=>.aB (t149 m _ (by simp only [dA]; omega)) λt _=>?_;refine Tot.aB (Ξ:=λj=>iF j (1001 * 1000) i.toNat) ?_ λmV pG=>?_
   ·exact Tot.bH (λ_=>.aB (t148 m _ _) λm' hZ=>.aj (hm.same hZ.1)) (λ_=>.aj hm)
   ·have aex:=pG.e_;refine .aB (t150 mV _ (by simp only [dA]; omega)) λk _=>?_;refine Tot.aB (Ξ:=λl=>l.length<=i.toNat+1) ?_ λl ah=>.aj ⟨pG.gr,pG.lo,pG.hi,pG.ty,ah,pG.gB,pG.hB,pG.lvl,pG.jw⟩;refine Tot.bH (λ_=>?_) (λ_=>.aj (by omega));exact .bJ<|.aj (by simp; omega)
  ·show 0<=i+1; omega
  ·show i+1<=(s.eR.length:Int); omega
  ·show iF j (1001 * 1000) (i+1).toNat;exact ag.mono (Nat.le_refl _) (by omega)
  ·show i<i+1; omega
  ·show i+1<=(s.eR.length:Int); omega
 -- types and starts
 refine Tot.aB (Ξ:=λr=>iF r (1001 * 1000) 1000) ?_ λhP tZ=>?_
 ·refine Tot.count (λz=>z.2) s.Decls.length (λz=>0<=z.2/\z.2<=s.Decls.length/\iF z.1 (1001 * 1000) 1000) ⟨Int.le_refl 0,by show (0:Int)<=_; omega,I5⟩ (by show (s.Decls.length:Int) - 0<_; omega) λz aW=>?_;obtain ⟨m,i⟩:=z;obtain ⟨aK,h1,hm⟩:=aW;simp only at aK h1 hm ⊢;have hw:aG (i+1)=i+1:=by rw [cv]; omega
  rw [hw];refine Tot.bt (λaP=>?_) (λ_=>.aj hm);refine Tot.aB (Ξ:=λr=>iF r (1001 * 1000) 1000) ?_ λqQ Vx=>.aj ⟨⟨?_,?_,Vx⟩,?_,?_⟩
  ·have pM:i.toNat<s.Decls.length:=by omega
   have hi:idx s.Decls i=some s.Decls[i.toNat]:=by simp [idx,aK,pM]
   rw [hi];generalize aQ:s.Decls[i.toNat]=d;have j8:d∈s.Decls:=by rw [<- aQ]; exact List.getElem_mem pM
   have zH:=(ar.decls d j8).n;refine Tot.count (λz=>z.2) d.fi.length (λz=>0<=z.2/\z.2<=d.fi.length/\iF z.1 (1001 * 1000) 1000) ⟨Int.le_refl 0,by show (0:Int)<=_; omega,hm⟩ (by show (d.fi.length:Int) - 0<_; omega) λz aW=>?_;obtain ⟨m,k⟩:=z;obtain ⟨g0,g1,hm⟩:=aW;simp only at g0 g1 hm ⊢;have sk:aG (k+1)=k+1:=by rw [cv]; omega
   rw [sk];refine Tot.aV (Tot.bt (λxt=>?_) (λ_=>.aj hm));have vB:=hm.e_;refine Tot.aB (Ξ:=λj=>iF j (1001 * 1000) 1000) ?_ λj ag=>.aj ⟨⟨?_,?_,ag⟩,?_,?_⟩
   ·refine Tot.aV (.aB (Tot.hC (Φ:=λ_=>True) g0 xt λ_ _ _=>trivial) λx _=>?_);refine .aB (Ξ:=λ_=>True) (Tot.aV (Tot.bH (λ_=>.aB (t150 m _ (by simp only [dA]; omega)) λ_ _=>.aj trivial) (λ_=>.aj trivial))) λc _=>?_;refine Tot.aB (Ξ:=λj=>iF j (1001 * 1000) 1000) ?_ λj ag=>.aj ag;exact Tot.bH (λ_=>.aB (t148 m _ _) λm' hZ=>.aj (hm.same hZ.1)) (λ_=>.aj hm)
   ·show 0<=k+1; omega
   ·show k+1<=(d.fi.length:Int); omega
   ·show k<k+1; omega
   ·show k+1<=(d.fi.length:Int); omega
  ·show 0<=i+1; omega
  ·show i+1<=(s.Decls.length:Int); omega
  ·show i<i+1; omega
  ·show i+1<=(s.Decls.length:Int); omega
 -- the start
 have pP:=ok.pos;refine Tot.aB (Ξ:=λ_=>True) (Tot.bH (λ_=>.aB (Ξ:=λ_=>True) (Tot.hC (by decide) (by omega) λ_ _ _=>trivial) λ_ _=>.aj trivial) (λ_=>.aj trivial)) λxR _=>?_;have aez:=tZ.e_;refine .aB (t150 hP xR (by simp only [dA]; omega)) λmA o7=>?_;have VF:-1<=mA/\mA<hP.dq.length:=by rcases o7 with h | h <;> omega
 -- the alternatives
 have fN:hP.dq.length<=1000:=tZ.e_;generalize V4:hP.dq.length=L at fN VF;refine Tot.aB (Ξ:=λr=>lq r (3+1001 * 1000+1001 * 1000000) L (1001 * 1000000) (1+1001 * 1000000)/\1<=r.ba.bu.length) ?_ λcj VG=>?_
 ·have uj:=tZ.YT;rw [V4] at uj;refine Tot.count (λz=>z.2) s.eR.length (λz=>0<=z.2/\z.2<=s.eR.length/\lq z.1 (3+1001 * 1000+1001 * (1000 * z.2.toNat)) L (1001 * (1000 * z.2.toNat)) (1+1001 * (1000 * z.2.toNat))/\1<=z.1.ba.bu.length) ⟨Int.le_refl 0,by show (0:Int)<=_; omega,⟨uj.gr,uj.lo,uj.hi,uj.ty,uj.e_,uj.hB,Nat.le_refl 1,λp aq=>?_,uj.lvl,uj.jw,λ_=>Lo (P:=[]) (λp aq=>by cases aq) λy ao=>?_⟩,Nat.le_refl 1⟩ (by show (s.eR.length:Int) - 0<_; omega) λz aW=>?_
  ·rw [List.mem_singleton.1 aq];have aep:=tZ.hB;have mi:=tZ.lo;refine ⟨⟨Int.le_refl 0,by show (0:Int)<=L+hP.df; omega⟩,λy ao=>?_,⟨by show (-1:Int)<=-1; omega,by show (-1:Int)<_; omega⟩⟩;have ao:y∈[aG (1001+mA)]:=ao;rw [List.mem_singleton.1 ao];have:aG (1001+mA)=1001+mA:=by rw [cv]; omega
   rw [this];exact .inr (by show 1000<=1001+mA/\1001+mA<=1000+((L:Int)+hP.df); omega)
  ·have ao:y∈[aG (1001+mA)]:=ao;rw [List.mem_singleton.1 ao,cv]; omega
  ·obtain ⟨m,i⟩:=z;obtain ⟨aK,h1,hm,vG⟩:=aW;simp only at aK h1 hm vG ⊢;have hw:aG (i+1)=i+1:=by rw [cv]; omega
   rw [hw];refine Tot.bt (λaP=>?_) (λ_=>.aj ⟨hm.mono (by omega) (by omega) (by omega),vG⟩);refine Tot.aB (Ξ:=λr=>lq r (3+1001 * 1000+1001 * (1000 * (i.toNat+1))) L (1001 * (1000 * (i.toNat+1))) (1+1001 * (1000 * (i.toNat+1)))/\1<=r.ba.bu.length) ?_ λkW Fo=>.aj ⟨⟨?_,?_,?_,Fo.2⟩,?_,?_⟩
   ·have pM:i.toNat<s.eR.length:=by omega
    have hi:idx s.eR i=some s.eR[i.toNat]:=by simp [idx,aK,pM]
    rw [hi];generalize aQ:s.eR[i.toNat]=d;have j8:d∈s.eR:=by rw [<- aQ]; exact List.getElem_mem pM
    have zH:=(ar.rules d j8).n;refine Tot.count (λz=>z.2) d.gi.length (λz=>0<=z.2/\z.2<=d.gi.length/\lq z.1 (3+1001 * 1000+1001 * (1000 * i.toNat+z.2.toNat)) L (1001 * (1000 * i.toNat+z.2.toNat)) (1+1001 * (1000 * i.toNat+z.2.toNat))/\1<=z.1.ba.bu.length) ⟨Int.le_refl 0,by show (0:Int)<=_; omega,hm,vG⟩ (by show (d.gi.length:Int) - 0<_; omega) λz aW=>?_;obtain ⟨m,k⟩:=z;obtain ⟨g0,g1,hm,vG⟩:=aW;simp only at g0 g1 hm vG ⊢;have sk:aG (k+1)=k+1:=by rw [cv]; omega
    rw [sk];refine Tot.aV (Tot.bt (λxt=>?_) (λ_=>.aj ⟨hm.mono (by omega) (by omega) (by omega),vG⟩));refine Tot.aV (Tot.aV (.aB (Tot.hC (Φ:=λy=>y∈d.gi) g0 xt λ_ _ h=>h) λa aJ=>?_));refine .aB (t151 m d.Left a hm (by omega) (by omega) (by omega) (by omega) ((ar.rules d j8).alts a aJ) (ok.rules d j8 a aJ)) λm' hZ=>.aj ⟨⟨?_,?_,?_,hZ.2⟩,?_,?_⟩
    ·show 0<=k+1; omega
    ·show k+1<=(d.gi.length:Int); omega
    ·show lq m' (3+1001 * 1000+1001 * (1000 * i.toNat+(k+1).toNat)) L (1001 * (1000 * i.toNat+(k+1).toNat)) (1+1001 * (1000 * i.toNat+(k+1).toNat));exact hZ.1.mono (by omega) (by omega) (by omega)
    ·show k<k+1; omega
    ·show k+1<=(d.gi.length:Int); omega
   ·show 0<=i+1; omega
   ·show i+1<=(s.eR.length:Int); omega
   ·show lq kW (3+1001 * 1000+1001 * (1000 * (i+1).toNat)) L (1001 * (1000 * (i+1).toNat)) (1+1001 * (1000 * (i+1).toNat));exact Fo.1.mono (by omega) (by omega) (by omega)
   ·show i<i+1; omega
   ·show i+1<=(s.eR.length:Int); omega
 obtain ⟨o8,VH⟩:=VG;refine Tot.q8 (λh=>.aj λaI=>absurd aI h) (λhe=>?_);have ad0:=o8.e_;have adY:=o8.hi;have ad2:=o8.ty;have adZ:=o8.hB;have ad1:=o8.AS
 -- nonterminals
 refine Tot.aB (Ξ:=λl=>l.length=1+L) ?_ λu2 I7=>?_
 ·refine Tot.count (λz=>z.2) cj.dq.length (λz=>0<=z.2/\z.2<=cj.dq.length/\z.1.length=1+z.2.toNat) ⟨Int.le_refl 0,by show (0:Int)<=_; omega,rfl⟩ (by show (cj.dq.length:Int) - 0<_; omega) λz aW=>?_;obtain ⟨l,i⟩:=z;obtain ⟨aK,h1,ah⟩:=aW;simp only at aK h1 ah ⊢;have hw:aG (i+1)=i+1:=by rw [cv]; omega
  rw [hw];refine Tot.bt (λaP=>?_) (λ_=>.aj (by show l.length=1+L; omega));refine .aB (Tot.hC (Φ:=λ_=>True) aK aP λ_ _ _=>trivial) λqR _=>.aB (t152 _ _ (by show cj.fD.length<=_; simp only [dA]; omega)) λyL VI=>?_;have ad4:yL=-1\/(0<=yL/\yL<cj.fD.length):=VI;refine .aB (Ξ:=λ_=>True) (Tot.bt (λh=>.aB (Ξ:=λ_=>True) (Tot.hC h (by omega) λ_ _ _=>trivial) λ_ _=>.aj trivial) (λ_=>.aj trivial)) λuy _=>?_;refine .bJ<|.aj ⟨⟨?_,?_,?_⟩,?_,?_⟩
  ·show 0<=i+1; omega
  ·show i+1<=(cj.dq.length:Int); omega
  ·show (l++[_]).length=1+(i+1).toNat;simp; omega
  ·show i<i+1; omega
  ·show i+1<=(cj.dq.length:Int); omega
 refine Tot.aB (Ξ:=λl=>(l.length:Int)=1+L+cj.df) ?_ λln N0=>?_
 ·refine Tot.count (λz=>z.2) (cj.df+1) (λz=>1<=z.2/\z.2<=cj.df+1/\(z.1.length:Int)=1+L+(z.2 - 1)) ⟨Int.le_refl 1,by show (1:Int)<=_; omega,by show (u2.length:Int)=1+L+(1 - 1); omega⟩ (by show cj.df+1 - 1<_; omega) λz aW=>?_;obtain ⟨l,i⟩:=z;obtain ⟨aK,h1,ah⟩:=aW;simp only at aK h1 ah ⊢;have hw:aG (i+1)=i+1:=by rw [cv]; omega
  rw [hw];refine Tot.bt (λaP=>?_) (λ_=>.aj (by show (l.length:Int)=1+L+cj.df; omega));refine .aB (t153 i (by omega) (by omega)) λHy ad5=>.aB (Ξ:=λ_=>True) (Tot.cat (by show 1+Hy.size<=_; omega) trivial) λwC _=>?_;refine .bJ<|.aj ⟨⟨?_,?_,?_⟩,?_,?_⟩
  ·show 1<=i+1; omega
  ·show i+1<=cj.df+1; omega
  ·show ((l++[_]).length:Int)=1+L+(i+1 - 1);simp; omega
  ·show i<i+1; omega
  ·show i+1<=cj.df+1; omega
 -- numbers
 have sc:=o8.gr;refine Tot.aB (Ξ:=λl=>l.length=cj.ba.bo.length/\∀ t∈l,0<=t.Level) ?_ λmB VJ=>?_
 ·refine Tot.count (λz=>z.2.2) cj.ba.bo.length (λz=>3<=z.2.2/\z.2.2<=cj.ba.bo.length/\z.1.length=cj.ba.bo.length/\∀ t∈z.1,0<=t.Level) ⟨Int.le_refl 3,by have:=o8.lo; show (3:Int)<=_; omega,rfl,o8.jw⟩ (by show (cj.ba.bo.length:Int) - 3<_; omega) λz aW=>?_;obtain ⟨l,n,i⟩:=z;obtain ⟨aK,h1,ah,hv⟩:=aW;simp only at aK h1 ah hv ⊢;have hw:aG (i+1)=i+1:=by rw [cv]; omega
  rw [hw];refine Tot.bt (λaP=>?_) (λ_=>.aj ⟨ah,hv⟩);refine Tot.aB (Ξ:=λj=>j.1.length=cj.ba.bo.length/\∀ t∈j.1,0<=t.Level) ?_ λj ag=>.aj ⟨⟨?_,?_,ag⟩,?_,?_⟩
  ·refine .aB (Tot.hC (Φ:=λ_=>True) (by omega) (by rw [sc]; omega) λ_ _ _=>trivial) λ_ _=>?_;refine Tot.aB (Ξ:=λj=>j.1.length=cj.ba.bo.length/\∀ t∈j.1,0<=t.Level) ?_ λj ag=>.aj ag;refine Tot.bH (λ_=>?_) (λ_=>.aj ⟨ah,hv⟩);refine .aB (Tot.hC (Φ:=λy=>y∈l) (by omega) aP λ_ _ h=>h) λy ao=>.aj ⟨by show (l.set _ _).length=_; simp [ah],λt au=>?_⟩;rcases PO au with au | rfl
   ·exact hv t au
   ·exact (hv y ao:0<=y.Level)
  ·show 3<=i+1; omega
  ·show i+1<=(cj.ba.bo.length:Int); omega
  ·show i<i+1; omega
  ·show i+1<=(cj.ba.bo.length:Int); omega
 -- limits
 obtain ⟨N1,VK⟩:=VJ;refine Tot.aB (Ξ:=λc=>c=false->mB.length<=40/\ln.length<=24/\cj.ba.bu.length<=60) ?_ λBC I2=>?_
 ·refine Tot.bt (λ_=>.aj λh=>by cases h) (λh1=>Tot.bt (λ_=>.aj λh=>by cases h) (λaf=>.aj λh=>?_));have aE:=of_decide_eq_false h;omega
 refine Tot.aB (Ξ:=λc=>c=false->BC=false/\∀ p∈cj.ba.bu,p.dw.length<=8) ?_ λA7 I3=>?_
 ·refine Tot.count (λz=>z.2) cj.ba.bu.length (λz=>0<=z.2/\z.2<=cj.ba.bu.length/\(z.1=false->BC=false/\∀ (j:Nat) (p:Prod),(j:Int)<z.2->cj.ba.bu[j]?=some p->p.dw.length<=8)) ⟨Int.le_refl 0,by show (0:Int)<=_; omega,λh=>⟨h,λj p ag=>by have ag:(j:Int)<0:=ag; omega⟩⟩ (by show (cj.ba.bu.length:Int) - 0<_; omega) λz aW=>?_;obtain ⟨c,i⟩:=z;obtain ⟨aK,h1,ah⟩:=aW;simp only at aK h1 ah ⊢;have hw:aG (i+1)=i+1:=by rw [cv]; omega
  rw [hw];refine Tot.bt (λaP=>?_) (λdF=>.aj λh=>⟨(ah h).1,λp aq=>?_⟩)
  ·refine Tot.aB (Ξ:=λcc=>cc=false->c=false/\∀ p,cj.ba.bu[i.toNat]?=some p->p.dw.length<=8) ?_ λcc et=>.aj ⟨⟨?_,?_,λh=>?_⟩,?_,?_⟩
   ·refine Tot.bH (λ_=>.aj λh=>by cases h) (λCl=>.aB (Tot.hC (Φ:=λy=>idx cj.ba.bu i=some y) aK aP λ_ h _=>h) λy ao=>.aj λh=>⟨Cl,λp aq=>?_⟩);have af:=(mn ao).2.2;rw [aq] at af; cases af;have:=of_decide_eq_false h;omega
   ·show 0<=i+1; omega
   ·show i+1<=(cj.ba.bu.length:Int); omega
   ·obtain ⟨aw,a2⟩:=et h;obtain ⟨gY,iu⟩:=ah aw;refine ⟨gY,λj p ag aq=>?_⟩;have ag:(j:Int)<i+1:=ag;by_cases Xe:(j:Int)<i
    ·exact iu j p Xe aq
    ·have:j=i.toNat:=by omega
     subst this;exact a2 p aq
   ·show i<i+1; omega
   ·show i+1<=(cj.ba.bu.length:Int); omega
  ·obtain ⟨j,ag,rfl⟩:=List.mem_iff_getElem.1 aq;exact (ah h).2 j _ (by omega) (List.getElem?_eq_getElem ag)
 refine Tot.bH (λ_=>.aj λh=>absurd h (by decide)) (λaa=>.aj λ_=>?_);obtain ⟨aw,a2⟩:=I3 aa;obtain ⟨gY,iu,lO⟩:=I2 aw;have mi:=o8.lo;refine ⟨⟨?_,gY⟩,⟨?_,iu⟩,⟨VH,lO⟩,λp aq=>?_,a2,VK,o8.yq he⟩
 ·show 3<=mB.length; omega
 ·show 1<=ln.length; omega
 ·have:=o8.gB p aq;exact this.mono (by show _<=mB.length; omega) (by show (L:Int)+cj.df<=((ln.length:Nat):Int) - 1; omega)
theorem t93 (s:Source) (ar:u' s):Tot (yo s) λr=>r.2=true->f' r.1:=by
 unfold yo;exact .aB (t123 s ar) λr hr=>.aj λh=>hr (of_decide_eq_true h)
structure Ez (g:bA) (m:List State) (cs:List Cell):Prop where
 o6:f' g
 Gb:nh g m
 ce:Bd g m.length cs
def Ab (g:bA) (p:Int):Int × Int:=match idx g.bu p with
 | some q=>match idx g.bo q.Prec with
  | some t=>(t.Level,t.jg)
  | none=>(0,0)
 | none=>(0,0)
def dec (g:bA) (p t:Int):Int:=match idx g.bo t with
 | some k=>if (Ab g p).1=0\/k.Level=0 then 0 else if (Ab g p).1<k.Level then 1 else if k.Level<(Ab g p).1 then 2 else if k.jg=1 then 2 else if k.jg=2 then 1 else 3
 | none=>0
theorem US (g:bA) (aN:f' g) (p:Int) (aq:0<=p/\p<g.bu.length):DA g p=some (Ab g p):=by
 obtain ⟨q,a_,hm⟩:=nC aq.1 aq.2;have ar:=(aN.gB q hm).prec;unfold DA Ab;have d1:decide (p<0)=false:=decide_eq_false (by omega);have d2:decide ((g.bu.length:Int)<=p)=false:=decide_eq_false (by omega);rw [d1,d2,a_];simp only [cond_false,Option.bind_some];by_cases h:q.Prec<0
 ·rw [decide_eq_true h,Kz (.inl h)]; rfl
 ·obtain ⟨t,au,_⟩:=nC (l:=g.bo) (i:=q.Prec) (by omega) ar.2;rw [decide_eq_false h,au]; rfl
theorem UY (g:bA) (aN:f' g) (p t:Int) (aq:0<=p/\p<g.bu.length) (au:0<=t/\t<g.bo.length):DX g p t=some (dec g p t):=by
 obtain ⟨k,hk,hm⟩:=nC au.1 au.2;unfold DX dec;rw [US g aN p aq,hk];have d1:decide (t<0)=false:=decide_eq_false (by omega);have d2:decide ((g.bo.length:Int)<=t)=false:=decide_eq_false (by omega);rw [d1,d2];generalize Ab g p=x;simp only [cond_false,Option.bind_some];by_cases h1:x.1=0
 ·simp [h1]
 ·by_cases af:k.Level=0
  ·simp [h1,af]
  ·rw [if_neg (by omega)];simp only [h1,af,decide_false,cond_false,Option.bind_some];by_cases aE:x.1<k.Level
   ·simp [aE]
   ·by_cases bm:k.Level<x.1
    ·simp [aE,bm]
    ·by_cases b7:k.jg=1
     ·simp [aE,bm,b7]
     ·by_cases dr:k.jg=2 <;> simp [aE,bm,b7,dr]
def qf (g:bA) (c:Cell):Act:=match c.bu with
 | []=>if c.nK=true then ⟨3,0⟩ else ⟨1,c.k2⟩
 | p::_=>if c.nK=true then ⟨3,0⟩ else if c.k2<0 then ⟨2,p⟩ else if dec g p c.b4=2 then ⟨2,p⟩ else if dec g p c.b4=3 then ⟨4,0⟩ else ⟨1,c.k2⟩
def zt (g:bA) (c:Cell):List e5:=match c.bu with
 | []=>[]
 | p::r=>r.map (λx=>(⟨c.State,c.b4,p,x⟩:e5))++(if c.nK=true\/(0<=c.k2/\dec g p c.b4=0) then [(⟨c.State,c.b4,-1,p⟩:e5)] else [])
structure oV (g:bA) (n:Nat) (a:Act):Prop where
 k:0<=a.Kind/\a.Kind<=4
 gN:a.Kind=0->a.N=0
 nE:a.Kind=1->0<=a.N/\a.N<n
 ob:a.Kind=2->oY g a.N
 PT:a.Kind=3->a.N=0
 YY:a.Kind=4->a.N=0
theorem SB {g:bA}{n:Nat}{c:Cell}(h:pz g n c):oV g n (qf g c)/\(qf g c).Kind≠0:=by
 have si:=h.Rr;have aU:=h.f;have a3:oV g n ⟨3,0⟩:=⟨⟨by decide,by decide⟩,λh=>(by cases h),λh=>(by cases h),λh=>(by cases h),λ_=>rfl,λh=>by cases h⟩;have a4:oV g n ⟨4,0⟩:=⟨⟨by decide,by decide⟩,λh=>(by cases h),λh=>(by cases h),λh=>(by cases h),λ_=>rfl,λ_=>rfl⟩;have aw:0<=c.k2->oV g n ⟨1,c.k2⟩:=λaK=>⟨⟨by show (0:Int)<=1; decide,by show (1:Int)<=4; decide⟩,λh=>(by cases h),λ_=>⟨aK,aU.2⟩,λh=>(by cases h),λh=>(by cases h),λh=>by cases h⟩;have a2:∀ p∈c.bu,oV g n ⟨2,p⟩:=λp aq=>⟨⟨by show (0:Int)<=2; decide,by show (2:Int)<=4; decide⟩,λh=>(by cases h),λh=>(by cases h),λ_=>h.q p aq,λh=>(by cases h),λh=>by cases h⟩;unfold qf;unfold oh at si;cases bT:c.bu with
 | nil =>
  simp only;rw [bT] at si;by_cases h1:c.nK=true
  ·rw [if_pos h1]; exact ⟨a3,by decide⟩
  ·rw [if_neg h1];rw [if_neg h1] at si;refine ⟨aw ?_,by show (1:Int)≠0; decide⟩;by_cases af:0<=c.k2
   ·exact af
   ·rw [if_neg af] at si; simp at si
 | cons p r =>
  simp only;have aq:=a2 p (by rw [bT]; simp);split
  ·exact ⟨a3,by decide⟩
  ·split
   ·exact ⟨aq,by show (2:Int)≠0; decide⟩
   ·split
    ·exact ⟨aq,by show (2:Int)≠0; decide⟩
    ·split
     ·exact ⟨a4,by decide⟩
     ·exact ⟨aw (by omega),by show (1:Int)≠0; decide⟩
theorem Nc {g:bA}(aN:f' g) {n:Nat}{c:Cell}(h:pz g n c):(zt g c).length<=60:=by
 have ah:=h.len aN;unfold zt;cases bT:c.bu with
 | nil=>simp
 | cons p r =>
  rw [bT,List.length_cons] at ah;simp only [List.length_append,List.length_map];split
  ·simp; omega
  ·simp; omega
theorem BO (g:bA) (aN:f' g) {n:Nat}(c:Cell) (h:pz g n c):yl g c=some (qf g c,zt g c):=by
 have ah:=h.len aN
 suffices av:Tot (yl g c) λr=>r=(qf g c,zt g c) by
  obtain ⟨r,hr,e⟩:=av; rw [hr,e]
 unfold yl qf zt;cases bT:c.bu with
 | nil =>
  simp only;refine .aB (Ξ:=λl:List e5=>l=[]) ?_ λl ah=>?_
  ·refine Tot.loop (λs=>s=(([]:List e5),(1:Int))) (λ_=>0) rfl (by show 0<1000000000000000000; omega) λs av=>?_;subst av;exact .aj rfl
  ·subst ah;cases h1:c.nK
   ·exact .aj (by simp)
   ·exact .aj (by simp)
 | cons p r =>
  rw [bT,List.length_cons] at ah;simp only;have fU:idx (p::r) 0=some p:=rfl;refine .aB (Ξ:=λl:List e5=>l=r.map (λx=>(⟨c.State,c.b4,p,x⟩:e5))) ?_ λl ah=>?_
  ·refine Tot.count (λs=>s.2) ((r.length:Int)+1) (λs=>∃ k:Nat,k<=r.length/\s.2=((k+1:Nat):Int)/\s.1=(r.take k).map (λx=>(⟨c.State,c.b4,p,x⟩:e5))) ⟨0,Nat.zero_le _,rfl,rfl⟩ (by show (r.length:Int)+1 - 1<_; omega) λs av=>?_;obtain ⟨l,i⟩:=s;obtain ⟨k,hk,he,bc⟩:=av;simp only at he bc ⊢;subst he bc;rw [eA (k+1) (by omega),fU];refine Tot.bt (λaP=>?_) (λdF=>.aj ?_)
   ·rw [List.length_cons] at aP;have aP:k<r.length:=by omega
    have b9:idx (p::r) ((k+1:Nat):Int)=some r[k]:=by
     simp only [idx,if_pos (show (0:Int)<=((k+1:Nat):Int) by omega),Int.toNat_natCast,List.getElem?_cons_succ];exact List.getElem?_eq_getElem aP
    rw [b9];refine Tot.aV (Tot.aV (.bJ<|.aj ⟨⟨k+1,by omega,rfl,?_⟩,by show ((k+1:Nat):Int)<((k+1+1:Nat):Int); omega,by show ((k+1+1:Nat):Int)<=(r.length:Int)+1; omega⟩));show _=(r.take (k+1)).map _;rw [lG aP,List.map_append]; rfl
   ·rw [List.length_cons] at dF;rw [List.take_of_length_le (by omega)]; rfl
  ·subst ah;have aq:=h.q p (by rw [bT]; simp);have II:=UY g aN p c.b4 ⟨by have:=aq.1; omega,aq.2⟩ h.t;have dl:decide (((p::r).length:Int)=0)=false:=decide_eq_false (by simp; omega);simp only [fU,II,dl,cond_false,Option.bind_some];generalize s6:dec g p c.b4=v;refine ⟨_,?_,rfl⟩;have Oi:c8 (r.map (λx=>(⟨c.State,c.b4,p,x⟩:e5))) [(⟨c.State,c.b4,(-1),p⟩:e5)]=some (r.map (λx=>(⟨c.State,c.b4,p,x⟩:e5))++[⟨c.State,c.b4,(-1),p⟩]):=by
    unfold c8; rw [if_pos (by simp [lim]; omega)]
   cases h1:c.nK
   ·by_cases af:c.k2<0
    ·have aE:¬ (0<=c.k2):=by omega
     simp [af,aE]
    ·have aE:0<=c.k2:=by omega
     by_cases bm:v=0
     ·simp [af,aE,bm,Oi]
     ·by_cases b7:v=2
      ·simp [af,aE,b7]
      ·by_cases dr:v=3
       ·simp [af,aE,dr]
       ·simp [af,aE,bm,b7,dr]
   ·simp [Oi]
end Go.Proofs
