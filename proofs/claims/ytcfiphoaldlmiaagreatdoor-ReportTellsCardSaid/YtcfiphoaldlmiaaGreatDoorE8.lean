/- Parts of the proof that the last text states. -/
import Derived.Test.YtcfiphoaldlmiaaGreatDoorE7
namespace Go.Proofs
open Go Go.Own
set_option maxRecDepth 100000
set_option linter.unusedVariables false
theorem t146 (c:Int):Tot (CB c) λ_=>True:=by
 unfold CB
 repeat' first | apply Tot.bi | refine Tot.bB (λ_=>?_) (λ_=>?_) | exact Tot.al trivial | apply Tot.al
theorem t147 (c:Int):Tot (CC c) λ_=>True:=by
 unfold CC
 repeat' first | apply Tot.bi | refine Tot.bB (λ_=>?_) (λ_=>?_) | exact Tot.al trivial | apply Tot.al
theorem t85 (c:Int):Tot (xu c) λ_=>True:=by
 unfold xu
 repeat' first | apply Tot.bi | refine Tot.bB (λ_=>?_) (λ_=>?_) | exact Tot.al trivial | apply Tot.al
theorem t136 (x:Sym):Tot (tN x) λr=>r=true->x.Name=⟨#[]⟩/\x.Lit=false:=by
 unfold tN;apply Tot.bi;refine Tot.bD (λh=>Tot.bB (λaf=>?_) (λaf=>?_)) (λh=>?_) <;> apply Tot.al <;> apply Tot.al
 ·exact λ_=>⟨h,by simpa using af⟩
 ·exact λh=>by cases h
 ·exact λh=>by cases h
abbrev eV:Nat:=1000
abbrev kN:Nat:=1000000000000
theorem t135 (s:ByteArray) (h:s.size<=eV):Tot (CA s 0) λn=>0<=n/\n<=s.size:=by
 unfold CA;refine Tot.aB (Ξ:=λn=>0<=n/\n<=s.size) ?_ λa aQ=>.al aQ;refine Tot.count (λi=>i) s.size (λi=>0<=i/\i<=s.size) ⟨by omega,by omega⟩ (by show (s.size:Int) - 0<_; simp only [eV] at h; omega) λi ⟨aH,h1⟩=>?_;simp only [eV] at h;have e:aR (0+i)=i:=by rw [cD]; omega
 rw [e];have go:∀ c:Bool,(c=true->i<s.size)->Tot (bif c then some (.inl (aR (i+1))) else some (.inr i)) (h8 (λcG:Int=>(0<=cG/\cG<=s.size)/\i<cG/\cG<=s.size) (λr:Int=>0<=r/\r<=s.size)):=by
  intro c J;refine Tot.bB (λaf=>.al ?_) (λ_=>.al ⟨aH,h1⟩);have:=J af;have e:aR (i+1)=i+1:=by rw [cD]; omega
  show (0<=aR (i+1)/\aR (i+1)<=s.size)/\i<aR (i+1)/\aR (i+1)<=s.size;rw [e]; omega
 apply Tot.bi;refine Tot.bD (λaf=>?_) (λaf=>.al (go false (by simp)));apply Tot.bi;refine Tot.nA ⟨aH,af⟩ (Tot.aB (t146 _) λc _=>?_);refine Tot.bB (λ_=>.al (go _ λ_=>af)) (λ_=>Tot.bB (λ_=>?_) (λ_=>.al (go _ λ_=>af)));apply Tot.bi;refine Tot.nA ⟨aH,af⟩ (Tot.aB (t147 _) λc _=>?_);refine Tot.bB (λ_=>.al (go _ λ_=>af)) (λ_=>?_);apply Tot.bi;exact Tot.nA ⟨aH,af⟩ (.al (go _ λ_=>af))
theorem t113 (s:ByteArray) (h:s.size<=eV):Tot (vm s) λr=>r=true->1<=s.size/\s.size<=20:=by
 unfold vm;apply Tot.bi;refine Tot.bD (λh1=>Tot.bD (λaf=>?_) (λaf=>?_)) (λh1=>?_)
 ·exact .aB (t135 s h) λn az=>.al (.al λ_=>by omega)
 ·exact .al (.al λh=>by cases h)
 ·exact .al (.al λh=>by cases h)
theorem t150 (s:ByteArray) (i:Int) (t:ByteArray) (h:s.size<=eV) (aH:0<=i) (h1:i<=4 * eV) (ak:t.size<=eV):Tot (xl s i t) λr=>r=true->i+t.size<=s.size:=by
 unfold xl;simp only [eV] at *;apply Tot.bi;refine Tot.bD (λaf=>?_) (λaf=>.al (.al λh=>by cases h));apply Tot.bi;rw [cD] at af;have e:aR (i+t.size)=i+t.size:=by rw [cD]; omega
 refine Tot.cut (by rw [e]; omega) (.al (.al λ_=>by omega))
theorem t148 (s:ByteArray) (i:Int) (h:s.size<=eV) (aH:0<=i) (h1:i<s.size):Tot (CD s i) λr=>r<=s.size:=by
 unfold CD;have au:(s.size:Int)<=1000:=by simp only [eV] at h; omega
 have bO:aR (i+1)=i+1:=by rw [cD]; omega
 have b7:aR (i+2)=i+2:=by rw [cD]; omega
 rw [bO,b7];have wA:=Tot.nA (Φ:=λ_=>True) (s:=s) (m:=i) ⟨aH,h1⟩ trivial;refine Tot.aB (Ξ:=λ_=>True) ?_ λc _=>Tot.bB (λ_=>?_) (λ_=>?_)
 ·refine Tot.aB wA λ_ _=>Tot.bB (λ_=>.al trivial) (λ_=>Tot.aB wA λ_ _=>.al trivial)
 ·refine Tot.aB (Ξ:=h8 (λ_=>True) (λr=>r<=s.size)) ?_ λx j=>?_
  ·refine Tot.count (λaa=>aa) (s.size+1) (λaa=>0<=aa) (by show (0:Int)<=i+1; omega) (by show (s.size:Int)+1 - (i+1)<_; omega) λaa ag=>?_;refine Tot.aB (Ξ:=λc=>c=true->aa<s.size) ?_ λc J=>Tot.bB (λaf=>?_) (λ_=>.al trivial)
   ·refine Tot.bD (λaf=>?_) (λ_=>.al λh=>by cases h);exact .aB (Ξ:=λ_=>True) (Tot.nA ⟨ag,af⟩ trivial) λ_ _=>.al λ_=>af
   ·have VW:=J af;have Iu:=Tot.nA (Φ:=λ_=>True) (s:=s) (m:=aa) ⟨ag,VW⟩ trivial;have e1:aR (aa+1)=aa+1:=by rw [cD]; omega
    have qh:aR (aa+1+1)=aa+1+1:=by rw [cD]; omega
    rw [e1,qh];refine .aB Iu λ_ _=>.aB wA λ_ _=>Tot.bB (λ_=>.al ?_) (λ_=>.aB Iu λ_ _=>Tot.bB (λ_=>?_) (λ_=>.al ?_))
    ·show aa+1<=s.size; omega
    ·refine Tot.aB (Ξ:=λ_=>True) ?_ λc _=>Tot.bB (λ_=>.al ?_) (λ_=>.al ?_)
     ·refine Tot.bD (λaJ=>?_) (λ_=>.al trivial);exact .aB (Ξ:=λ_=>True) (Tot.nA ⟨by omega,aJ⟩ trivial) λ_ _=>.al trivial
     ·show (-1:Int)<=s.size; omega
     ·show (0:Int)<=aa+1+1/\aa<aa+1+1/\aa+1+1<=s.size+1; omega
    ·show (0:Int)<=aa+1/\aa<aa+1/\aa+1<=s.size+1; omega
  ·rcases x with _ | r
   ·exact .al (by show (-1:Int)<=s.size; omega)
   ·exact .al j
 ·refine .aB wA λ_ _=>Tot.bB (λ_=>?_) (λ_=>?_)
  ·refine Tot.aB (Ξ:=h8 (λ_=>True) (λr=>r<=s.size)) ?_ λx j=>?_
   ·refine Tot.count (λaa=>aa) (s.size+1) (λaa=>0<=aa) (by show (0:Int)<=i+1; omega) (by show (s.size:Int)+1 - (i+1)<_; omega) λaa ag=>?_;refine Tot.bD (λaf=>?_) (λ_=>.al trivial);have e1:aR (aa+1)=aa+1:=by rw [cD]; omega
    rw [e1];refine .aB (Ξ:=λ_=>True) (Tot.nA ⟨ag,af⟩ trivial) λ_ _=>Tot.bB (λ_=>.al ?_) (λ_=>.al ?_)
    ·show aa+1<=s.size; omega
    ·show (0:Int)<=aa+1/\aa<aa+1/\aa+1<=s.size+1; omega
   ·rcases x with _ | r
    ·exact .al (by show (-1:Int)<=s.size; omega)
    ·exact .al j
  ·refine .aB (t150 s i _ h aH (by simp only [eV]; omega) (by decide)) λc _=>Tot.bB (λ_=>?_) (λ_=>?_)
   ·refine Tot.aB (Ξ:=λr=>r<=s.size) ?_ λx j=>.al j;refine Tot.count (λaa=>aa) s.size (λaa=>0<=aa/\aa<=s.size) ⟨aH,by omega⟩ (by show (s.size:Int) - i<_; omega) λaa ag=>?_;refine Tot.aB (Ξ:=λc=>c=true->aa<s.size) ?_ λc J=>Tot.bB (λaf=>?_) (λ_=>.al ag.2)
    ·refine Tot.bD (λaf=>?_) (λ_=>.al λh=>by cases h);exact .aB (Ξ:=λ_=>True) (Tot.nA ⟨ag.1,af⟩ trivial) λ_ _=>.al λ_=>af
    ·have:=J af;have e1:aR (aa+1)=aa+1:=by rw [cD]; omega
     rw [e1];exact .al (by show ((0:Int)<=aa+1/\aa+1<=s.size)/\aa<aa+1/\aa+1<=s.size; omega)
   ·refine .aB (t150 s i _ h aH (by simp only [eV]; omega) (by decide)) λc J=>Tot.bB (λig=>?_) (λ_=>.al (by omega));refine Tot.aB (Ξ:=h8 (λ_=>True) (λr=>r<=s.size)) ?_ λx j=>?_
    ·refine Tot.count (λaa=>aa) (s.size+1) (λaa=>0<=aa) (by show (0:Int)<=i+2; omega) (by show (s.size:Int)+1 - (i+2)<_; omega) λaa ag=>?_;refine Tot.bD (λaf=>?_) (λ_=>.al trivial);have e1:aR (aa+1)=aa+1:=by rw [cD]; omega
     have qh:aR (aa+2)=aa+2:=by rw [cD]; omega
     rw [e1,qh];refine .aB (t150 s aa _ h ag (by simp only [eV]; omega) (by decide)) λc J=>Tot.bB (λwC=>.al ?_) (λ_=>.al ?_)
     ·have:=J wC;have q3:(⟨#[42,47]⟩:ByteArray).size=2:=rfl;rw [q3] at this;show aa+2<=s.size; omega
     ·show (0:Int)<=aa+1/\aa<aa+1/\aa+1<=s.size+1; omega
    ·rcases x with _ | r
     ·exact .al (by show (-1:Int)<=s.size; omega)
     ·exact .al j
theorem t137 (s:ByteArray) (h:s.size<=eV):Tot (zi s 0) λ_=>True:=by
 unfold zi;have au:(s.size:Int)<=1000:=by simp only [eV] at h; omega
 refine Tot.aB (Ξ:=λ_=>True) ?_ λc _=>Tot.bB (λ_=>.al trivial) (λ_=>?_)
 ·refine Tot.bD (λh=>.al trivial) (λaH=>Tot.bD (λh=>.al trivial) (λaf=>?_));exact .aB (Ξ:=λ_=>True) (Tot.nA (by omega) trivial) λ_ _=>.al trivial
 ·refine Tot.aB (Ξ:=λ_=>True) ?_ λx _=>by rcases x with _ | r <;> exact .al trivial
  refine Tot.count (λaa=>aa.2) s.size (λaa=>0<=aa.2/\aa.2<=s.size) ⟨by show (0:Int)<=0; omega,by show (0:Int)<=s.size; omega⟩ (by show (s.size:Int) - 0<_; omega) λaa ag=>?_;refine Tot.bD (λaf=>?_) (λ_=>.al trivial);refine .aB (t148 s aa.2 h ag.1 af) λn az=>Tot.bD (λ_=>.al trivial) (λaJ=>Tot.bD (λbo=>.al ?_) (λbo=>?_))
  ·show ((0:Int)<=n/\n<=s.size)/\aa.2<n/\n<=s.size; omega
  ·have wA:=Tot.nA (Φ:=λ_=>True) (s:=s) (m:=aa.2) ⟨ag.1,af⟩ trivial;have e1:aR (aa.2+1)=aa.2+1:=by rw [cD]; omega
   rw [e1];refine .aB wA λ_ _=>.aB (Ξ:=λ_=>True) (Tot.bB (λ_=>.al trivial) (λ_=>.al trivial)) λ_ _=>.aB wA λ_ _=>.aB (Ξ:=λ_=>True) (Tot.bB (λ_=>.al trivial) (λ_=>.al trivial)) λ_ _=>Tot.bB (λ_=>.al trivial) (λ_=>.al ?_);show ((0:Int)<=aa.2+1/\aa.2+1<=s.size)/\aa.2<aa.2+1/\aa.2+1<=s.size; omega
def lA (x:Sym):Prop:=x.Lit=true->x.Name.size=1
structure Gz (d:Decl):Prop where
 tag:d.Tag.size<=1000
 n:d.er.length<=1000
 syms:∀ x∈d.er,x.Name.size<=eV
structure vJ (a:Alt):Prop where
 n:a.Parts.length<=1000
 parts:∀ p∈a.Parts,p.Sym.Name.size<=eV/\p.Code.size<=1000
 prec:a.Prec.Name.size<=eV
structure LB (r:eZ):Prop where
 left:r.Left.size<=eV
 n:r.eA.length<=1000
 alts:∀ a∈r.eA,vJ a
structure qW (s:Source):Prop where
 YE:s.b_.size<=eV
 yx:s.Decls.length<=1000
 decls:∀ d∈s.Decls,Gz d
 aF:s.dB.length<=1000
 rules:∀ r∈s.dB,LB r
theorem t134 (x:Sym) (a b:Bool) (h:x.Name.size<=eV):Tot (tM x a b) λr=>r=true->lA x:=by
 unfold tM;refine Tot.bB (λah=>?_) (λah=>?_)
 ·refine Tot.aB (Ξ:=λc=>c=false->x.Name.size=1) ?_ λc J=>Tot.bB (λ_=>.al λh=>by cases h) (λaf=>?_)
  ·refine Tot.bB (λ_=>.al λh=>by cases h) (λ_=>Tot.pq (λ_=>.al λh=>by cases h) (λh1=>.al λ_=>by omega))
  ·have h1:=J af;refine .aB (Ξ:=λ_=>True) (Tot.nA (by omega) trivial) λ_ _=>.aB (t85 _) λ_ _=>.al λ_ _=>h1
 ·have dp:lA x:=λh=>by rw [ah] at h; cases h
  refine Tot.aB (Ξ:=λ_=>True) ?_ λc J=>.al λ_=>dp;refine .aB (t113 _ h) λc _=>?_
  repeat' first | refine Tot.bB (λ_=>?_) (λ_=>?_) | exact Tot.al trivial
theorem t112 (d:Decl) (h:Gz d):Tot (xj d) λr=>r=true->∀ x∈d.er,lA x:=by
 unfold xj;refine Tot.aB (Ξ:=λ_=>True) ?_ λc _=>Tot.bB (λ_=>.al λh=>by cases h) (λ_=>?_)
 ·have ak:=(t113 _ (Nat.le_trans h.tag (by decide))).use (Φ:=λ_=>True) λ_ _=>trivial
  repeat' first | refine Tot.bB (λ_=>?_) (λ_=>?_) | exact Tot.al trivial | refine .aB ak λ_ _=>?_
 ·refine Tot.aB (Tot.scan d.er (λx=>lA x) (λr=>r=false) (by have:=h.n; omega) (λs y aH h1 hi hm=>?_) (λs ax=>by simp [ax])) λx j=>?_
  ·refine Tot.bD (λ_=>?_) (λh=>absurd h1 h);rw [hi];refine Tot.sm ?_;refine .aB (t134 _ _ _ (h.syms _ hm)) λc J=>Tot.bB (λ_=>.al rfl) (λaf=>.al ⟨?_,J (by simpa using af)⟩);have:=h.n;rw [cD]; omega
  ·rcases x with _ | r
   ·exact .al λ_=>j
   ·exact .al λh=>by have:r=false:=j; rw [this] at h; cases h
theorem t114 (a:Alt) (h:vJ a):Tot (xk a) λr=>r=true->(∀ p∈a.Parts,lA p.Sym)/\lA a.Prec:=by
 unfold xk;refine Tot.aB (Tot.scan a.Parts (λp=>lA p.Sym) (λr=>r=false) (by have:=h.n; omega) (λs y aH h1 hi hm=>?_) (λs ax=>by simp [ax])) λx j=>?_
 ·refine Tot.bD (λ_=>?_) (λh=>absurd h1 h);rw [hi];refine Tot.sm ?_;have av:=h.parts _ hm;have t1:=t134 y.Sym false true av.1;have t2:=t136 y.Sym;have Qt:=t137 y.Code (Nat.le_trans av.2 (by decide));have hw:aR (s+1)=s+1:=by have:=h.n; rw [cD]; omega
  rw [hw];have n118:(y.Sym.Name=⟨#[]⟩/\y.Sym.Lit=false)->lA y.Sym:=λh ah=>by rw [h.2] at ah; cases ah
  refine Tot.aB (Ξ:=λc=>c=false->lA y.Sym) ?_ λc J=>Tot.bB (λ_=>.al rfl) (λaf=>.al ⟨rfl,J af⟩);refine Tot.bD (λ_=>?_) (λcU=>?_)
  ·refine .aB t1 λc J=>Tot.bB (λ_=>.al λh=>by cases h) (λaf=>?_);have dp:=J (by simpa using af);refine Tot.bB (λ_=>?_) (λ_=>.al λ_=>dp);refine .aB t2 λc _=>Tot.bB (λ_=>.al λ_=>dp) (λ_=>?_);exact .aB Qt λ_ _=>.al λ_=>dp
  ·refine Tot.pq (λ_=>?_) (λh=>.al λ_=>?_)
   ·refine .aB t2 λc J=>Tot.bB (λ_=>.al λh=>by cases h) (λaf=>?_);have dp:=n118 (J (by simpa using af));exact .aB Qt λ_ _=>.al λ_=>dp
   ·exact absurd h cU
 ·rcases x with _ | r
  ·have j:∀ p∈a.Parts,lA p.Sym:=j;refine Tot.aB (Ξ:=λc=>c=true->lA a.Prec) ?_ λc J=>.al λh=>⟨j,J h⟩;refine .aB (t136 _) λc J=>Tot.bB (λaf=>.al λ_=>?_) (λ_=>.aB (t134 _ _ _ h.prec) λc J=>.al J);intro ah; rw [(J af).2] at ah; cases ah
  ·exact .al λh=>by have:r=false:=j; rw [this] at h; cases h
structure DC (a:Alt):Prop where
 parts:∀ p∈a.Parts,lA p.Sym
 prec:lA a.Prec
structure LF (s:Source):Prop where
 decls:∀ d∈s.Decls,∀ x∈d.er,lA x
 rules:∀ r∈s.dB,∀ a∈r.eA,DC a
 pos:0<s.dB.length
theorem t86 (s:Source) (h:qW s):Tot (xv s) λr=>r=true->LF s:=by
 unfold xv;refine Tot.aB (Ξ:=h8 (λ_=>True) (λr=>r=false)) ?_ λx j=>?_
 ·have av:(s.b_.size:Int)<=1000:=by have:=h.YE; simp only [eV] at this; omega
  refine Tot.count (λaa=>aa) s.b_.size (λaa=>0<=aa/\aa<=s.b_.size) ⟨by omega,by omega⟩ (by show (s.b_.size:Int) - 0<_; omega) λaa ag=>?_;have bO:aR (aa+1)=aa+1:=by rw [cD]; omega
  have b7:aR (aa+2)=aa+2:=by rw [cD]; omega
  rw [bO,b7];refine Tot.bD (λaf=>?_) (λ_=>.al trivial);refine .aB (Ξ:=λ_=>True) (Tot.cut (by omega) trivial) λ_ _=>Tot.bB (λ_=>.al rfl) (λ_=>.al ?_);show ((0:Int)<=aa+1/\aa+1<=s.b_.size)/\aa<aa+1/\aa+1<=s.b_.size; omega
 ·rcases x with _ | r
  ·refine Tot.aB (Tot.scan s.Decls (λd=>∀ x∈d.er,lA x) (λr=>r=false) (by have:=h.yx; omega) (λi y aH h1 hi hm=>?_) (λs ax=>by simp [ax])) λx j=>?_
   ·refine Tot.bD (λ_=>?_) (λh=>absurd h1 h);rw [hi];refine Tot.sm ?_;refine .aB (t112 _ (h.decls _ hm)) λc J=>Tot.bB (λ_=>.al rfl) (λaf=>.al ⟨?_,J (by simpa using af)⟩);have:=h.yx;rw [cD]; omega
   ·rcases x with _ | r
    ·have j:∀ d∈s.Decls,∀ x∈d.er,lA x:=j;refine Tot.aB (Tot.scan s.dB (λr=>∀ a∈r.eA,DC a) (λr=>r=false) (by have:=h.aF; omega) (λi y aH h1 hi hm=>?_) (λs ax=>by simp [ax])) λx gZ=>?_
     ·refine Tot.bD (λ_=>?_) (λh=>absurd h1 h);rw [hi];refine Tot.sm ?_;have aj:=h.rules _ hm;have hw:aR (i+1)=i+1:=by have:=h.aF; rw [cD]; omega
      rw [hw];refine .aB (Ξ:=λ_=>True) (.aB (t113 _ aj.left) λc _=>Tot.bB (λ_=>.al trivial) (λ_=>.al trivial)) λc _=>Tot.bB (λ_=>.al rfl) (λ_=>?_);refine Tot.aB (Tot.scan y.eA DC (λr=>r=false) (by have:=aj.n; omega) (λk a aH h1 hi hm=>?_) (λs ax=>by simp [ax])) λx lb=>?_
      ·refine Tot.bD (λ_=>?_) (λh=>absurd h1 h);rw [hi];refine Tot.sm ?_;refine .aB (t114 _ (aj.alts _ hm)) λc J=>Tot.bB (λ_=>.al rfl) (λaf=>.al ⟨?_,⟨(J (by simpa using af)).1,(J (by simpa using af)).2⟩⟩);have:=aj.n;rw [cD]; omega
      ·rcases x with _ | r
       ·exact .al ⟨rfl,lb⟩
       ·exact .al lb
     ·rcases x with _ | r
      ·exact .al λh=>⟨j,gZ,by have:=of_decide_eq_true h; omega⟩
      ·exact .al λh=>by have:r=false:=gZ; rw [this] at h; cases h
    ·exact .al λh=>by have:r=false:=j; rw [this] at h; cases h
  ·exact .al λh=>by have:r=false:=j; rw [this] at h; cases h
abbrev fh:=db
structure qV (m bm:fh):Prop where
 g:bm.aA=m.aA
 gf:bm.cg=m.cg
 ty:bm.cx=m.cx
 e6:bm.bX=m.bX
 jn:bm.ca=m.ca
 gT:bm.bU=m.bU
theorem t88 (m:fh) (a:Int) (n:ByteArray):Tot (nk m a n) λbm=>qV m bm/\bm.cO≠0:=by
 unfold nk;apply Tot.bi;refine Tot.bD (λ_=>.al (.al ⟨⟨rfl,rfl,rfl,rfl,rfl,rfl⟩,?_⟩)) (λh=>.al (.al ⟨⟨rfl,rfl,rfl,rfl,rfl,rfl⟩,h⟩))
 grind
theorem t92 (m:fh) (n:ByteArray) (h:m.cx.length<=kN):Tot (zA m n) λr=>r=-1\/(0<=r/\r<m.cx.length):=by
 unfold zA;simp only [kN] at h;refine Tot.aB (Tot.scan m.cx (λ_=>True) (λr:Int=>0<=r/\r<m.cx.length) (by omega) (λs y aH h1 hi hm=>?_) (λs ax=>by simp [ax])) λx j=>?_
 ·refine Tot.bD (λ_=>?_) (λh=>absurd h1 h);rw [hi];refine Tot.sm ?_;refine Tot.bB (λ_=>.al ⟨aH,h1⟩) (λ_=>.al ⟨?_,trivial⟩)
  grind [cD]
 ·rcases x with _ | r
  ·exact .al (.inl rfl)
  ·exact .al (.inr j)
theorem t90 (m:fh) (n:ByteArray) (h:m.bX.length<=kN):Tot (sJ m n) λr=>(r=-1/\∀ x∈m.bX,x≠n)\/(0<=r/\r<m.bX.length/\m.bX[r.toNat]?=some n):=by
 unfold sJ;simp only [kN] at h;refine Tot.aB (Tot.scan m.bX (λx=>x≠n) (λr:Int=>0<=r/\r<m.bX.length/\m.bX[r.toNat]?=some n) (by omega) (λs y aH h1 hi hm=>?_) (λs ax=>by simp [ax])) λx j=>?_
 ·refine Tot.bD (λ_=>?_) (λh=>absurd h1 h);rw [hi];refine Tot.sm ?_;refine Tot.bD (λe=>.al ⟨aH,h1,by rw [<- e]; exact (qu hi).2.2⟩) (λe=>.al ⟨?_,e⟩)
  grind [cD]
 ·rcases x with _ | r
  ·exact .al (.inl ⟨rfl,j⟩)
  ·exact .al (.inr j)
theorem t89 (m:fh) (x:Sym) (h:m.aA.aW.length<=kN):Tot (tP m x) λr=>r=-1\/(1<=r/\r<m.aA.aW.length):=by
 unfold tP;simp only [kN] at h;refine Tot.aB (Ξ:=h8 (λ_=>True) (λr=>1<=r/\r<m.aA.aW.length)) ?_ λx j=>?_
 ·refine Tot.count (λaa=>aa) m.aA.aW.length (λaa=>1<=aa) (by omega) (by show (m.aA.aW.length:Int) - 1<_; omega) λaa ag=>?_;refine Tot.bD (λaf=>?_) (λ_=>.al trivial);have e:aR (aa+1)=aa+1:=by rw [cD]; omega
  rw [e];refine .aB (Ξ:=λ_=>True) ?_ λc _=>Tot.bB (λ_=>.al ⟨ag,af⟩) (λ_=>.al ?_)
  ·refine .aB (Ξ:=λ_=>True) (Tot.gM (by omega) af λ_ _ _=>trivial) λ_ _=>Tot.bB (λ_=>?_) (λ_=>.al trivial);exact .aB (Ξ:=λ_=>True) (Tot.gM (by omega) af λ_ _ _=>trivial) λ_ _=>Tot.bB (λ_=>.al trivial) (λ_=>.al trivial)
  grind
 ·rcases x with _ | r
  ·exact .al (.inl rfl)
  ·exact .al (.inr j)
theorem t116 (m:fh) (n:Int) (h:m.aA.aW.length<=kN):Tot (vo m n) λ_=>True:=by
 unfold vo;simp only [kN] at h;refine Tot.aB (Ξ:=λ_=>True) ?_ λx j=>?_
 ·refine Tot.count (λaa=>aa) m.aA.aW.length (λaa=>1<=aa) (by decide) (by show (m.aA.aW.length:Int) - 3<_; omega) λaa ag=>?_;refine Tot.bD (λaf=>?_) (λ_=>.al trivial);have e:aR (aa+1)=aa+1:=by rw [cD]; omega
  rw [e];refine .aB (Ξ:=λ_=>True) (Tot.gM (by omega) af λ_ _ _=>trivial) λc _=>Tot.bB (λ_=>.al trivial) (λ_=>.al ?_)
  grind
 ·rcases x with _ | r <;> exact .al trivial
structure Grow (m bm:fh) (k:Nat):Prop where
 gf:bm.cg.length=bm.aA.aW.length
 lo:m.aA.aW.length<=bm.aA.aW.length
 hi:bm.aA.aW.length<=m.aA.aW.length+k
 ty:bm.cx.length<=m.cx.length+k
 e6:bm.bX=m.bX
 gN:bm.aA.a7=m.aA.a7
 gT:bm.bU=m.bU
 lvl:bm.ca=m.ca
 jn:0<=m.ca->(∀ t∈m.aA.aW,0<=t.Level)->∀ t∈bm.aA.aW,0<=t.Level
theorem qV.grow {m bm:fh}(h:qV m bm) (aI:m.cg.length=m.aA.aW.length) (k:Nat):Grow m bm k:=by
 obtain ⟨h1,af,aJ,bo,cu,dC⟩:=h;exact ⟨by rw [h1,af]; exact aI,by rw [h1]; omega,by rw [h1]; omega,by rw [aJ]; omega,bo,by rw [h1],dC,cu,by rw [h1]; exact λ_ h=>h⟩
theorem t115 (m:fh) (x:Sym) (aI:m.cg.length=m.aA.aW.length) (h:m.aA.aW.length<=100000000000) (j:lA x) :
  Tot (vn m x) λr=>Grow m r.2 1/\0<=r.1/\r.1<r.2.aA.aW.length:=by
 unfold vn;refine .aB (t89 m x (by simp only [kN]; omega)) λt ak=>Tot.bD (λaH=>.al ⟨⟨aI,Nat.le_refl _,Nat.le_succ _,Nat.le_succ _,rfl,rfl,rfl,rfl,λ_ h=>h⟩,aH,?_⟩) (λ_=>?_)
 ·grind
 ·refine Tot.aB (Ξ:=λaa=>qV m aa.1) ?_ λaa ag=>?_
  ·refine Tot.bB (λah=>?_) (λ_=>.al ⟨rfl,rfl,rfl,rfl,rfl,rfl⟩);have:=j ah;refine .aB (Ξ:=λ_=>True) (Tot.nA (by omega) trivial) λb _=>.aB (t116 m _ (by simp only [kN]; omega)) λo _=>?_;refine Tot.aB (Ξ:=λaa=>qV m aa) ?_ λaa ag=>.al ag;exact Tot.bB (λ_=>.aB (t88 m _ _) λbm hm=>.al hm.1) (λ_=>.al ⟨rfl,rfl,rfl,rfl,rfl,rfl⟩)
  ·obtain ⟨h1,af,aJ,bo,cu,dC⟩:=ag;have aN:aa.1.aA.aW.length=m.aA.aW.length:=by rw [h1]
   have V4:aa.1.cg.length=m.cg.length:=by rw [af]
   refine .aB (Ξ:=λ_=>True) (Tot.ap (by rw [aN]; simp [lim]; omega) trivial) λ_ _=>.aB (Ξ:=λ_=>True) (Tot.ap (by rw [V4]; simp [lim]; omega) trivial) λ_ _=>.al ?_;refine ⟨⟨?_,?_,?_,?_,bo,by show aa.1.aA.a7=_; rw [h1],dC,cu,?_⟩,?_,?_⟩
   all_goals grind [cD]
structure ny (m bm:fh):Prop where
 tk:bm.aA.aW.length=m.aA.aW.length
 gf:bm.cg.length=m.cg.length
 ty:bm.cx=m.cx
 e6:bm.bX=m.bX
 gN:bm.aA.a7=m.aA.a7
 gT:bm.bU=m.bU
 lvl:bm.ca=m.ca
 jn:0<=m.ca->(∀ t∈m.aA.aW,0<=t.Level)->∀ t∈bm.aA.aW,0<=t.Level
theorem ny.refl (m:fh):ny m m:=⟨rfl,rfl,rfl,rfl,rfl,rfl,rfl,λ_ h=>h⟩
theorem ny.trans {m bm Ck:fh}(h:ny m bm) (aL:ny bm Ck):ny m Ck:=⟨aL.tk.trans h.tk,aL.gf.trans h.gf,aL.ty.trans h.ty,aL.e6.trans h.e6,aL.gN.trans h.gN,aL.gT.trans h.gT,aL.lvl.trans h.lvl,λaH ah=>aL.jn (by rw [h.lvl]; exact aH) (h.jn aH ah)⟩
theorem qV.tk {m bm:fh}(h:qV m bm):ny m bm:=⟨by rw [h.g],by rw [h.gf],h.ty,h.e6,by rw [h.g],h.gT,h.jn,by rw [h.g]; exact λ_ h=>h⟩
theorem Grow.tk {m bm Ck:fh}{k:Nat}(h:Grow m bm k) (aL:ny bm Ck):Grow m Ck k :=
 ⟨by rw [aL.gf,aL.tk]; exact h.gf,by rw [aL.tk]; exact h.lo,by rw [aL.tk]; exact h.hi,by rw [aL.ty]; exact h.ty,aL.e6.trans h.e6,aL.gN.trans h.gN,aL.gT.trans h.gT,aL.lvl.trans h.lvl,λaH ah=>aL.jn (by rw [h.lvl]; exact aH) (h.jn aH ah)⟩
theorem O3 {α:Type}{l:List α}{i:Nat}{x y:α}(h:y∈l.set i x):y∈l\/y=x:=List.mem_or_eq_of_mem_set h
theorem t87 (m:fh) (d:Decl) (x:Sym) (aI:m.cg.length=m.aA.aW.length) (h:m.aA.aW.length<=100000000000) (ak:m.cx.length<=100000000000) (j:lA x) :
  Tot (vv m d x) λbm=>Grow m bm 1:=by
 unfold vv;refine Tot.bB (λ_=>?_) (λ_=>?_)
 ·refine .aB (t92 m x.Name (by simp only [kN]; omega)) λk hk=>Tot.aB (Ξ:=λbm=>Grow m bm 1) ?_ λbm hm=>.al hm;refine Tot.bD (λ_=>?_) (λaH=>?_)
  ·refine .aB (Ξ:=λ_=>True) (Tot.ap (by simp [lim]; omega) trivial) λ_ _=>.al ⟨aI,Nat.le_refl _,Nat.le_succ _,?_,rfl,rfl,rfl,rfl,λ_ h=>h⟩
   grind
  ·refine .aB (Ξ:=λ_=>True) (Tot.gM (by omega) (by omega) λ_ _ _=>trivial) λ_ _=>Tot.aB (Ξ:=λbm=>Grow m bm 1) ?_ λbm hm=>.al hm;exact Tot.bB (λ_=>.aB (t88 m _ _) λbm hm=>.al (hm.1.grow aI 1)) (λ_=>.al ⟨aI,Nat.le_refl _,Nat.le_succ _,Nat.le_succ _,rfl,rfl,rfl,rfl,λ_ h=>h⟩)
 ·refine .aB (t115 m x aI h j) λr ⟨aj,aH,h1⟩=>?_;have gM:∀ {bm:fh},ny r.2 bm->Tot (idx bm.aA.aW r.1) λy=>y∈bm.aA.aW:=λhm=>Tot.gM aH (by rw [hm.tk]; exact h1) λ_ _ h=>h;have OI:∀ {bm:fh},ny r.2 bm->Tot (idx bm.cg r.1) λ_=>True:=λhm=>Tot.gM aH (by rw [hm.gf,aj.gf]; exact h1) λ_ _ _=>trivial;refine .aB (gM (.refl _)) λy _=>?_;refine Tot.aB (Ξ:=λbm=>ny r.2 bm) ?_ λfl lC=>?_
  ·refine Tot.bB (λ_=>?_) (λ_=>.al (.refl _));refine Tot.aB (Ξ:=λbm=>ny r.2 bm) ?_ λcZ r9=>?_
   ·exact Tot.bB (λ_=>.aB (t88 r.2 _ _) λbm hm=>.al ⟨rfl,hm.1.tk.gf,hm.1.tk.ty,hm.1.tk.e6,hm.1.tk.gN,hm.1.tk.gT,hm.1.tk.lvl,λ_ h=>h⟩) (λ_=>.al (.refl _))
   ·refine .aB (gM r9) λ_ _=>.al (r9.trans ⟨?_,rfl,rfl,rfl,rfl,rfl,rfl,λah ak t bE=>?_⟩)
    ·grind
    grind
  ·refine .aB (gM lC) λ_ _=>?_;refine Tot.aB (Ξ:=λbm=>ny r.2 bm) ?_ λeJ uG=>?_
   ·refine Tot.bB (λ_=>?_) (λ_=>.al lC);refine .aB (Ξ:=λ_=>True) ?_ λc _=>?_
    ·refine Tot.bB (λ_=>.al trivial) (λ_=>.aB (OI lC) λ_ _=>Tot.bB (λ_=>.al trivial) (λ_=>.aB (t116 fl _ ?_) λ_ _=>.al trivial));have:=lC.tk;have:=aj.hi
     grind
    ·refine Tot.aB (Ξ:=λbm=>ny r.2 bm) ?_ λdw q8=>?_
     ·exact Tot.bB (λ_=>.aB (t88 fl _ _) λbm hm=>.al (lC.trans ⟨rfl,hm.1.tk.gf,hm.1.tk.ty,hm.1.tk.e6,hm.1.tk.gN,hm.1.tk.gT,hm.1.tk.lvl,λ_ h=>h⟩)) (λ_=>.al lC)
     ·refine .aB (gM q8) λy ai=>.aB (OI q8) λ_ _=>.al (q8.trans ⟨?_,?_,rfl,rfl,rfl,rfl,rfl,λah ak t bE=>?_⟩)
      all_goals grind
   ·refine .aB (gM uG) λ_ _=>?_;refine Tot.aB (Ξ:=λbm=>ny r.2 bm) ?_ λoU HL=>.al (aj.tk HL);refine Tot.bB (λ_=>?_) (λ_=>.al uG);refine .aB (Ξ:=λ_=>True) (Tot.bB (λ_=>.al trivial) (λ_=>.al trivial)) λc _=>?_;refine Tot.aB (Ξ:=λbm=>ny r.2 bm) ?_ λkb AY=>?_
    ·exact Tot.bB (λ_=>.aB (t88 eJ _ _) λbm hm=>.al (uG.trans ⟨rfl,hm.1.tk.gf,hm.1.tk.ty,hm.1.tk.e6,hm.1.tk.gN,hm.1.tk.gT,hm.1.tk.lvl,λ_ h=>h⟩)) (λ_=>.al uG)
    ·refine .aB (gM AY) λy ai=>.al (AY.trans ⟨?_,rfl,rfl,rfl,rfl,rfl,rfl,λah ak t bE=>?_⟩)
     ·grind
     grind
def oF (T:Nat) (N:Int) (s:Int):Prop:=(0<=s/\s<T)\/(1000<=s/\s<=1000+N)
theorem oF.mono {T T':Nat}{N iv s:Int}(h:oF T N s) (dn:T<=T') (a8:N<=iv):oF T' iv s:=by
 rcases h with h | h
 ·exact .inl (by omega)
 ·exact .inr (by omega)
theorem t117 (m:fh) (x:Sym) (aI:m.cg.length=m.aA.aW.length) (aJ:3<=m.aA.aW.length) (h:m.aA.aW.length<=100000000000) (ah:m.bX.length<=100000000000) (j:lA x) :
  Tot (sF m x) λr=>Grow m r.2 1/\oF r.2.aA.aW.length m.bX.length r.1:=by
 unfold sF;have nG:Grow m m 1:=⟨aI,Nat.le_refl _,Nat.le_succ _,Nat.le_succ _,rfl,rfl,rfl,rfl,λ_ h=>h⟩;refine Tot.bB (λ_=>?_) (λ_=>?_)
 ·exact .aB (t115 m x aI h j) λr ⟨aj,aH,h1⟩=>.al ⟨aj,.inl ⟨aH,h1⟩⟩
 ·refine .aB (t90 m x.Name (by simp only [kN]; omega)) λk hk=>Tot.bD (λaH=>.al ⟨nG,.inr ?_⟩) (λ_=>?_)
  ·grind [cD]
  ·refine .aB (t89 m x (by simp only [kN]; omega)) λt ak=>Tot.bD (λ_=>?_) (λaH=>.al ⟨nG,.inl ?_⟩)
   ·refine .aB (t88 m _ _) λbm hm=>.al ⟨hm.1.grow aI 1,.inl ⟨Int.le_refl 0,?_⟩⟩;show (0:Int)<(bm.aA.aW.length:Int);rw [hm.1.g];omega
   grind
theorem ZH (m:fh) (x:Sym) (aI:m.cg.length=m.aA.aW.length) (aJ:3<=m.aA.aW.length) (h:m.aA.aW.length<=100000000000) (ah:m.bX.length<=100000000000) (j:lA x) (ak:x.Lit=true\/∀ y∈m.bX,y≠x.Name) :
  Tot (sF m x) λr=>Grow m r.2 1/\0<=r.1/\r.1<r.2.aA.aW.length:=by
 unfold sF;have nG:Grow m m 1:=⟨aI,Nat.le_refl _,Nat.le_succ _,Nat.le_succ _,rfl,rfl,rfl,rfl,λ_ h=>h⟩;refine Tot.bB (λ_=>?_) (λoR=>?_)
 ·exact .aB (t115 m x aI h j) λr ⟨aj,aH,h1⟩=>.al ⟨aj,aH,h1⟩
 ·have ak:∀ y∈m.bX,y≠x.Name:=ak.resolve_left (by rw [oR]; decide);refine .aB (t90 m x.Name (by simp only [kN]; omega)) λk hk=>Tot.bD (λaH=>?_) (λ_=>?_)
  ·rcases hk with ⟨rfl,_⟩ | ⟨h1,af,aJ⟩
   ·exact absurd aH (by decide)
   ·exact absurd rfl (ak _ (List.mem_of_getElem? aJ))
  ·refine .aB (t89 m x (by simp only [kN]; omega)) λt ak=>Tot.bD (λ_=>?_) (λaH=>.al ⟨nG,?_⟩)
   ·refine .aB (t88 m _ _) λbm hm=>.al ⟨hm.1.grow aI 1,Int.le_refl 0,?_⟩;show (0:Int)<(bm.aA.aW.length:Int);rw [hm.1.g]; omega
   ·show 0<=t/\t<(m.aA.aW.length:Int);rcases ak with ak | ak <;> omega
structure Am (T:Nat) (N:Int) (p:Prod):Prop where
 left:0<=p.Left/\p.Left<=N
 right:∀ s∈p.eI,oF T N s
 prec:-1<=p.Prec/\p.Prec<T
 args:∀ s∈p.vK,oF T N s
 code:p.Code.size<=1000
theorem Am.mono {T T':Nat}{N iv:Int}{p:Prod}(h:Am T N p) (dn:T<=T') (a8:N<=iv):Am T' iv p :=
 ⟨⟨h.left.1,by have:=h.left.2; omega⟩,λs ax=>(h.right s ax).mono dn a8,⟨h.prec.1,by have:=h.prec.2; omega⟩,λs ax=>(h.args s ax).mono dn a8,h.code⟩
structure kK (m:fh) (T L I Q:Nat):Prop where
 gf:m.cg.length=m.aA.aW.length
 lo:3<=m.aA.aW.length
 hi:m.aA.aW.length<=T
 ty:m.cx.length<=T
 e6:m.bX.length=L
 gT:0<=m.bU/\m.bU<=I
 zG:m.aA.a7.length<=Q
 gN:∀ p∈m.aA.a7,Am m.aA.aW.length (L+m.bU) p
 lvl:0<=m.ca
 jn:∀ t∈m.aA.aW,0<=t.Level
theorem kK.mono {m:fh}{T L I Q T' I' LA:Nat}(h:kK m T L I Q) (dn:T<=T') (bb:I<=I') (dD:Q<=LA):kK m T' L I' LA :=
 ⟨h.gf,h.lo,by have:=h.hi; omega,by have:=h.ty; omega,h.e6,⟨h.gT.1,by have:=h.gT.2; omega⟩,by have:=h.zG; omega,h.gN,h.lvl,h.jn⟩
theorem kK.grow {m bm:fh}{T L I Q k:Nat}(h:kK m T L I Q) (g:Grow m bm k):kK bm (T+k) L I Q :=
 ⟨g.gf,by have:=h.lo; have:=g.lo; omega,by have:=h.hi; have:=g.hi; omega,by have:=h.ty; have:=g.ty; omega,by rw [g.e6]; exact h.e6,by rw [g.gT]; exact h.gT,by rw [g.gN]; exact h.zG,
  by rw [g.gN,g.gT]; exact λp av=>(h.gN p av).mono g.lo (by omega),by rw [g.lvl]; exact h.lvl,g.jn h.lvl h.jn⟩
theorem t91 (m:fh) (left:ByteArray) (a:Alt) {T L I Q:Nat}(hm:kK m T L I Q) (dn:T<=10000000000) (ji:L<=10000000000) (bb:I<=10000000000) (dD:Q<=10000000000) (au:vJ a) (dp:DC a) :
  Tot (vx m left a) λbm=>kK bm (T+1001) L (I+1000) (Q+1001)/\1<=bm.aA.a7.length:=by
 unfold vx;have az:=au.n;refine .aB (t90 m left (by rw [hm.e6]; simp only [kN]; omega)) λaX jD=>?_;have adv:-1<=aX/\aX<L:=by rw [<- hm.e6]; rcases jD with h | h <;> omega
 refine Tot.aB (Ξ:=λaZ=>kK aZ.1 (T+1000) L (I+1000) (Q+1000)/\(∀ s∈aZ.2.1,oF aZ.1.aA.aW.length (L+aZ.1.bU) s)/\aZ.2.1.length<=1000/\aZ.2.2.1.size<=1000) ?_ λaZ lb=>?_
 ·refine Tot.count (λs=>s.2.2.2.2) a.Parts.length (λs=>0<=s.2.2.2.2/\s.2.2.2.2<=a.Parts.length/\kK s.1 (T+s.2.2.2.2.toNat) L (I+s.2.2.2.2.toNat) (Q+s.2.2.2.2.toNat)/\(∀ y∈s.2.1,oF s.1.aA.aW.length (L+s.1.bU) y)/\s.2.1.length<=s.2.2.2.2.toNat/\s.2.2.1.size<=1000) ⟨by show (0:Int)<=0; omega,by show (0:Int)<=_; omega,hm,by simp,Nat.le_refl 0,Nat.zero_le _⟩ (by show (a.Parts.length:Int) - 0<_; omega) λs ax=>?_;obtain ⟨m1,rt,bB,at_,i⟩:=s;obtain ⟨aH,h1,ag,aj,ah,yJ⟩:=ax;simp only at aH h1 ag aj ah yJ ⊢;have hw:aR (i+1)=i+1:=by rw [cD]; omega
  have bO:(i+1).toNat=i.toNat+1:=by omega
  refine Tot.bD (λaN=>?_) (λ_=>.al ⟨ag.mono (by omega) (by omega) (by omega),aj,by show rt.length<=1000; omega,yJ⟩);refine Tot.aB (Ξ:=λaa=>kK aa.1 (T+(i.toNat+1)) L (I+(i.toNat+1)) (Q+(i.toNat+1))/\(∀ y∈aa.2.1,oF aa.1.aA.aW.length (L+aa.1.bU) y)/\aa.2.1.length<=i.toNat+1/\aa.2.2.1.size<=1000) ?_ λaa yP=>?_
  ·refine Tot.aB (Tot.gM (Φ:=λy=>y∈a.Parts) aH aN λy _ ai=>ai) λy ai=>?_;refine Tot.aB (Ξ:=λaa=>kK aa.1 (T+(i.toNat+1)) L (I+(i.toNat+1)) (Q+(i.toNat+1))/\(∀ y∈aa.2.1,oF aa.1.aA.aW.length (L+aa.1.bU) y)/\aa.2.1.length<=i.toNat+1/\aa.2.2.1.size<=1000) ?_ λaa IP=>.al IP;refine Tot.aB (Ξ:=λaa=>kK aa.1 (T+(i.toNat+1)) L (I+(i.toNat+1)) (Q+(i.toNat+1))/\(∀ y∈aa.2.1,oF aa.1.aA.aW.length (L+aa.1.bU) y)/\aa.2.1.length<=i.toNat+1/\aa.2.2.1.size<=1000) ?_ λaa IP=>.al IP;refine Tot.bB (λ_=>?_) (λ_=>?_)
   ·have bE:=ag.hi;refine .aB (t117 m1 y.Sym ag.gf ag.lo (by omega) (by rw [ag.e6]; omega) (dp.parts y ai)) λr ⟨aI,Ob⟩=>?_;refine .aB (Ξ:=λ_=>True) (Tot.ap (by simp [lim]; omega) trivial) λ_ _=>.al ⟨(ag.grow aI).mono (by omega) (by omega) (by omega),λz aS=>?_,by simp; omega,yJ⟩;rcases List.mem_append.1 aS with aS | aS
    ·exact (aj z aS).mono aI.lo (by show (L:Int)+m1.bU<=L+r.2.bU; rw [aI.gT]; omega)
    ·rw [List.mem_singleton.1 aS];rw [ag.e6] at Ob;exact Ob.mono (Nat.le_refl _) (by show (L:Int)<=L+r.2.bU; rw [aI.gT]; have:=ag.gT.1; omega)
   ·refine Tot.aB (Ξ:=λaa=>kK (⟨(⟨m1.aA.aW,m1.aA.bA,aa.1,m1.aA.b_,m1.aA.ch⟩:bx),m1.cg,m1.cx,m1.bX,m1.cO,m1.c8,m1.c5,m1.ca,aa.2.1⟩:db) (T+(i.toNat+1)) L (I+(i.toNat+1)) (Q+(i.toNat+1))/\(∀ y∈aa.2.2.1,oF m1.aA.aW.length (L+aa.2.1) y)/\aa.2.2.1.length<=i.toNat+1/\aa.2.2.2.1.size<=1000) ?_ λaa VX=>.al VX;refine Tot.bB (λ_=>.al ⟨⟨ag.gf,ag.lo,by have:=ag.hi; show m1.aA.aW.length<=_; omega,by have:=ag.ty; show m1.cx.length<=_; omega,ag.e6,⟨ag.gT.1,by have:=ag.gT.2; show m1.bU<=_; omega⟩,by have:=ag.zG; show m1.aA.a7.length<=_; omega,ag.gN,ag.lvl,ag.jn⟩,aj,by show rt.length<=_; omega,(au.parts y ai).2⟩) (λ_=>?_);have yN:=ag.gT;have uP:=ag.e6;have yW:=ag.zG;have eR:aR (m1.bU+1)=m1.bU+1:=by rw [cD]; omega
    have eY:aR (((m1.bX.length:Int))+(m1.bU+1))=L+(m1.bU+1):=by rw [cD,uP]; omega
    have vE:aR (1000+(m1.bX.length:Int))=1000+L:=by rw [cD,uP]; omega
    have vF:aR (1000+(L:Int)+(m1.bU+1))=1000+(L:Int)+(m1.bU+1):=by rw [cD]; omega
    rw [eR,eY,vE,vF];refine .aB (Ξ:=λ_=>True) (Tot.ap (by simp [lim]; omega) trivial) λ_ _=>.aB (Ξ:=λ_=>True) (Tot.ap (by simp [lim]; omega) trivial) λ_ _=>.aB (Ξ:=λ_=>True) (Tot.ap (by simp [lim]; omega) trivial) λ_ _=>.al ⟨⟨ag.gf,ag.lo,?_,?_,ag.e6,?_,?_,?_,ag.lvl,ag.jn⟩,?_,?_,yJ⟩
    ·have:=ag.hi; show m1.aA.aW.length<=_; omega
    ·have:=ag.ty; show m1.cx.length<=_; omega
    ·show 0<=m1.bU+1/\m1.bU+1<=((I+(i.toNat+1):Nat):Int); omega
    ·show (m1.aA.a7++[_]).length<=_; simp; omega
    ·intro p av;rcases List.mem_append.1 av with av | av
     ·exact (ag.gN p av).mono (Nat.le_refl _) (by show (L:Int)+m1.bU<=L+(m1.bU+1); omega)
     ·rw [List.mem_singleton.1 av];refine ⟨?_,by simp,?_,λz aS=>(aj z (by simpa using aS)).mono (Nat.le_refl _) (by show (L:Int)+m1.bU<=L+(m1.bU+1); omega),(au.parts y ai).2⟩
      ·show 0<=(L:Int)+(m1.bU+1)/\(L:Int)+(m1.bU+1)<=L+(m1.bU+1); omega
      ·have:=ag.lo; show (-1:Int)<=-1/\(-1:Int)<(m1.aA.aW.length:Int); omega
    ·intro z aS;rcases List.mem_append.1 aS with aS | aS
     ·exact (aj z aS).mono (Nat.le_refl _) (by show (L:Int)+m1.bU<=L+(m1.bU+1); omega)
     ·rw [List.mem_singleton.1 aS];exact .inr (by show 1000<=1000+(L:Int)+(m1.bU+1)/\1000+(L:Int)+(m1.bU+1)<=1000+((L:Int)+(m1.bU+1)); omega)
    ·show (rt++[_]).length<=_; simp; omega
  ·rw [hw];refine .al ⟨⟨?_,?_,?_,yP.2.1,?_,yP.2.2.2⟩,?_,?_⟩
   ·show (0:Int)<=i+1; omega
   ·show i+1<=(a.Parts.length:Int); omega
   ·show kK aa.1 (T+(i+1).toNat) L (I+(i+1).toNat) (Q+(i+1).toNat);rw [bO]; exact yP.1
   ·show aa.2.1.length<=(i+1).toNat;rw [bO]; exact yP.2.2.1
   ·show i<i+1; omega
   ·show i+1<=(a.Parts.length:Int); omega
 ·obtain ⟨ag,aj,ah,yJ⟩:=lb;have lF:=ag.lo;have yN:=ag.gT;refine Tot.aB (Ξ:=λp=>-1<=p/\p<(aZ.1.aA.aW.length:Int)) ?_ λgN I_=>?_
  ·refine Tot.count (λs=>s.2) aZ.2.1.length (λs=>0<=s.2/\s.2<=aZ.2.1.length/\-1<=s.1/\s.1<(aZ.1.aA.aW.length:Int)) ⟨by show (0:Int)<=0; omega,by show (0:Int)<=_; omega,by show (-1:Int)<=-1; omega,by show (-1:Int)<_; omega⟩ (by show (aZ.2.1.length:Int) - 0<_; omega) λs ax=>?_;obtain ⟨aH,h1,af,aJ⟩:=ax;have hw:aR (s.2+1)=s.2+1:=by rw [cD]; omega
   rw [hw];refine Tot.bD (λaN=>?_) (λ_=>.al ⟨af,aJ⟩);refine Tot.aB (Ξ:=λp=>-1<=p/\p<(aZ.1.aA.aW.length:Int)) ?_ λp av=>.al ⟨⟨?_,?_,av.1,av.2⟩,?_,?_⟩
   ·refine .aB (Tot.gM (Φ:=λy=>idx aZ.2.1 s.2=some y/\y∈aZ.2.1) aH aN λy h1 af=>⟨h1,af⟩) λy ai=>?_;refine .aB (Ξ:=λp=>-1<=p/\p<(aZ.1.aA.aW.length:Int)) ?_ λp av=>.al av;refine Tot.bD (λaN=>?_) (λ_=>.al ⟨af,aJ⟩);rw [ai.1];refine Tot.sm (.al ?_);rcases aj y ai.2 with h | h
    ·omega
    ·omega
   ·show (0:Int)<=s.2+1; omega
   ·show s.2+1<=(aZ.2.1.length:Int); omega
   ·show s.2<s.2+1; omega
   ·show s.2+1<=(aZ.2.1.length:Int); omega
  ·refine Tot.aB (Ξ:=λaa=>Grow aZ.1 aa.1 1/\-1<=aa.2/\aa.2<(aa.1.aA.aW.length:Int)) ?_ λaa yO=>?_
   ·have nG:Grow aZ.1 aZ.1 1:=⟨ag.gf,Nat.le_refl _,Nat.le_succ _,Nat.le_succ _,rfl,rfl,rfl,rfl,λ_ h=>h⟩;refine Tot.bB (λ_=>?_) (λ_=>.al ⟨nG,I_⟩);refine Tot.aB (Ξ:=λc=>c=true->a.Prec.Lit=true\/∀ y∈aZ.1.bX,y≠a.Prec.Name) ?_ λc J=>?_
    ·refine Tot.bB (λh=>.al λ_=>.inl h) (λ_=>?_);refine .aB (t90 aZ.1 a.Prec.Name (by rw [ag.e6]; simp only [kN]; omega)) λk hk=>.al λaN=>?_;have aN:=of_decide_eq_true aN;rcases hk with ⟨_,h⟩ | h
     ·exact .inr h
     ·omega
    ·refine Tot.aB (Ξ:=λaa=>Grow aZ.1 aa.1 1/\-1<=aa.2/\aa.2<(aa.1.aA.aW.length:Int)) ?_ λaa ag=>.al ag;have bE:=ag.hi;refine Tot.bB (λh=>?_) (λ_=>?_)
     ·refine .aB (ZH aZ.1 a.Prec ag.gf ag.lo (by omega) (by rw [ag.e6]; omega) dp.prec (J h)) λr aj=>.al ⟨aj.1,?_,aj.2.2⟩;have:=aj.2.1; show -1<=r.1; omega
     ·refine .aB (t88 aZ.1 _ _) λbm hT=>.al ⟨hT.1.grow ag.gf 1,by show (-1:Int)<=-1; omega,?_⟩;show (-1:Int)<(bm.aA.aW.length:Int); omega
   ·have hT:=ag.grow yO.1;have yW:=hT.zG;refine .aB (Ξ:=λ_=>True) (Tot.ap (by simp [lim]; omega) trivial) λ_ _=>.aB (Ξ:=λ_=>True) (Tot.ap (by simp [lim]; omega) trivial) λ_ _=>.al ⟨⟨hT.gf,hT.lo,?_,?_,hT.e6,⟨hT.gT.1,?_⟩,?_,?_,hT.lvl,hT.jn⟩,by simp⟩
    ·have:=hT.hi; show aa.1.aA.aW.length<=_; omega
    ·have:=hT.ty; show aa.1.cx.length<=_; omega
    ·have:=hT.gT.2; show aa.1.bU<=_; omega
    ·show (aa.1.aA.a7++[_]).length<=_; simp; omega
    ·intro p av;rcases List.mem_append.1 av with av | av
     ·exact hT.gN p av
     ·rw [List.mem_singleton.1 av];have ac7:=hT.gT;refine ⟨?_,λz aS=>?_,yO.2,λz aS=>(aj z (by simpa using aS)).mono yO.1.lo (by show (L:Int)+aZ.1.bU<=L+aa.1.bU; rw [yO.1.gT]; omega),yJ⟩
      ·show 0<=aR (1+aX)/\aR (1+aX)<=(L:Int)+aa.1.bU;rw [cD]; omega
      ·exact (aj z aS).mono yO.1.lo (by show (L:Int)+aZ.1.bU<=L+aa.1.bU; rw [yO.1.gT]; omega)
theorem KJ (l:List Int):(strOfNums l).size=l.length:=strOfNums_size ..
theorem t13 (n:Int) (aH:0<=n) (h1:n<=1000000000000):Tot (kf n) λs=>(s.size:Int)<=n+2:=by
 unfold kf;have hu:IntKind.u64.wrap n=n:=by rw [IntKind.wrap_u64]; omega
 refine Tot.aB (Ξ:=λaa=>aa=n) (Tot.bD (λh=>absurd h (by omega)) (λ_=>.al hu)) λaa ag=>?_;subst ag;refine Tot.aB (Ξ:=λs=>(s.size:Int)<=aa+1) ?_ λs ax=>Tot.bD (λh=>absurd h (by omega)) (λ_=>.al (by omega));refine Tot.loop (λs=>0<=s.1/\s.1+s.2.size<=aa+1/\(s.2.size=0->s.1<=aa)) (λs=>s.1.toNat+(if s.2.size=0 then 1 else 0)) ⟨aH,by show aa+((0:Nat):Int)<=_; omega,λ_=>Int.le_refl _⟩ (by show aa.toNat+(if (0:Nat)=0 then 1 else 0)<1000000000000000000; simp; omega) λs ax=>?_
 obtain ⟨m,t⟩:=s;obtain ⟨g0,g1,g2⟩:=ax;simp only at g0 g1 g2 ⊢;refine Tot.aB (Ξ:=λc=>c=true->0<m\/t.size=0) ?_ λc J=>Tot.bB (λig=>?_) (λ_=>.al ?_)
 ·refine Tot.bD (λh=>.al λ_=>.inl h) (λ_=>.al λh=>.inr ?_);have:=of_decide_eq_true h;rw [this]; rfl
 ·have J:=J ig;refine .aB (Ξ:=λx=>x=m.tmod 10) (Tot.o3 (by decide) rfl) λx j=>?_;refine .aB (Ξ:=λy=>y.size=t.size+1) (Tot.cat ?_ ?_) λy ai=>.aB (Ξ:=λz=>z=m / 10) (Tot.o1 (by decide) ?_) λz aS=>.al ?_
  ·rw [KJ]; simp; omega
  ·rw [ByteArray.size_append,KJ]; simp; omega
  ·rw [Int.tdiv_eq_ediv_of_nonneg g0,IntKind.wrap_u64]; omega
  ·subst aS;refine ⟨⟨?_,?_,?_⟩,?_⟩
   ·show 0<=m / 10; omega
   ·show m / 10+(y.size:Int)<=_; rw [ai]; omega
   ·intro h; have h:y.size=0:=h; omega
   ·show (m / 10).toNat+(if y.size=0 then 1 else 0)<m.toNat+(if t.size=0 then 1 else 0);rw [if_neg (by omega)]
    split <;> omega
 ·show (t.size:Int)<=aa+1; omega
structure fV (g:bx):Prop where
 j2:3<=g.aW.length/\g.aW.length<=40
 c_:1<=g.bA.length/\g.bA.length<=24
 lK:1<=g.a7.length/\g.a7.length<=60
 gN:∀ p∈g.a7,Am g.aW.length (g.bA.length - 1) p
 aF:∀ p∈g.a7,p.eI.length<=8
 jn:∀ t∈g.aW,0<=t.Level
structure h9 (m:fh) (T L:Nat):Prop where
 gf:m.cg.length=m.aA.aW.length
 lo:3<=m.aA.aW.length
 hi:m.aA.aW.length<=3+T
 ty:m.cx.length<=T
 e6:m.bX.length<=L
 gN:m.aA.a7=[]
 gT:m.bU=0
 lvl:0<=m.ca
 jn:∀ t∈m.aA.aW,0<=t.Level
theorem h9.mono {m:fh}{T L T' L':Nat}(h:h9 m T L) (dn:T<=T') (ji:L<=L'):h9 m T' L' :=
 ⟨h.gf,h.lo,by have:=h.hi; omega,by have:=h.ty; omega,by have:=h.e6; omega,h.gN,h.gT,h.lvl,h.jn⟩
theorem h9.grow {m bm:fh}{T L k:Nat}(h:h9 m T L) (g:Grow m bm k):h9 bm (T+k) L :=
 ⟨g.gf,by have:=h.lo; have:=g.lo; omega,by have:=h.hi; have:=g.hi; omega,by have:=h.ty; have:=g.ty; omega,by rw [g.e6]; exact h.e6,g.gN.trans h.gN,g.gT.trans h.gT,by rw [g.lvl]; exact h.lvl,g.jn h.lvl h.jn⟩
theorem h9.same {m bm:fh}{T L:Nat}(h:h9 m T L) (g:qV m bm):h9 bm T L:=by
 have:=h.grow (g.grow h.gf 0);exact this
theorem Tf (s:ByteArray) (m n:Int) (h:0<=m/\m<=n/\n<=s.size):(q2 s m n).size<=(n - m).toNat:=by
 grind [q2,ByteArray.size_extract]
theorem t15 (s:ByteArray) (n:Int) (aH:0<=n):Tot (sG s n) λt=>(t.size:Int)<=n:=by
 unfold sG;refine Tot.bD (λh=>?_) (λh=>.al (by omega))
 grind [Tot.cut,Tf]
theorem t16 (x:Sym):Tot (xm x) λy=>y.Name.size<=eV:=by
 unfold xm;refine .aB (t15 _ 25 (by decide)) λt ak=>.al ?_
 grind
theorem Tot.make {β:Type}{f:List β × Int->Option ((List β × Int) ⊕ List β)}(n:Int) (P:β->Prop) (az:0<=n/\n<=1000000)
  (ax:∀ (l:List β) (i:Int),0<=i->i<=n->(l.length:Int)=i->(∀ y∈l,P y)->Tot (f (l,i)) (h8 (λcG=>i<n/\cG.2=i+1/\∃ y,cG.1=l++[y]/\P y) (λr=>r=l))) :
  Tot (b0 f ([],0)) λl=>(l.length:Int)<=n/\∀ y∈l,P y:=by
 refine Tot.count (λs=>s.2) n (λs=>0<=s.2/\s.2<=n/\(s.1.length:Int)=s.2/\∀ y∈s.1,P y) ⟨Int.le_refl 0,az.1,rfl,by simp⟩ (by show n - 0<_; omega) λs bb=>?_;obtain ⟨l,i⟩:=s;obtain ⟨aH,h1,af,aJ⟩:=bb;refine (ax l i aH h1 af aJ).use λx j=>?_
 grind
theorem t6 (s:Source):Tot (CQ s) qW:=by
 unfold CQ;refine .aB (t15 s.b_ 40 (by decide)) λaX h1=>.aB (t15 s.ch 40 (by decide)) λx2 af=>?_;refine .aB (Tot.make 8 Gz (by decide) λl i aH yN ah cV=>?_) λb4 bo=>?_
 ·refine .aB (Ξ:=λc=>c=true->i<s.Decls.length/\i<8) (Tot.bD (λh=>.al λaf=>⟨h,of_decide_eq_true af⟩) (λ_=>.al λh=>by cases h)) λc J=>Tot.bB (λig=>?_) (λ_=>.al rfl);obtain ⟨hi,IL⟩:=J ig;have mr:i.toNat<s.Decls.length:=by omega
  have Bs:idx s.Decls i=some s.Decls[i.toNat]:=by simp [idx,aH,mr]
  rw [Bs];generalize s.Decls[i.toNat]=d;have hw:aR (i+1)=i+1:=by rw [cD]; omega
  refine Tot.sm (Tot.sm (.aB (t15 d.Tag 25 (by decide)) λdt uF=>Tot.sm ?_));refine .aB (Tot.make 6 (λx=>x.Name.size<=eV) (by decide) λvh k g0 T3 En T1=>?_) λdx r9=>?_
  ·refine .aB (Ξ:=λc=>c=true->k<d.er.length/\k<6) (Tot.sm (Tot.bD (λh=>.al λaf=>⟨h,of_decide_eq_true af⟩) (λ_=>.al λh=>by cases h))) λc J=>Tot.bB (λig=>?_) (λ_=>.al rfl);obtain ⟨hk,IT⟩:=J ig;refine Tot.sm (.aB (Tot.gM (Φ:=λ_=>True) g0 hk λ_ _ _=>trivial) λfU _=>.aB (t16 fU) λgB Ua=>.aB (Ξ:=λ_=>True) (Tot.ap (by simp [lim]; omega) trivial) λ_ _=>.al ⟨IT,?_,_,rfl,Ua⟩)
   grind [cD]
  ·refine .aB (Ξ:=λ_=>True) (Tot.ap (by simp [lim]; omega) trivial) λ_ _=>.al ⟨IL,hw,_,rfl,⟨?_,?_,r9.2⟩⟩
   ·grind
   grind
 ·refine .aB (Tot.make 6 LB (by decide) λl i aH yN ah cV=>?_) λkk q8=>.al ⟨?_,?_,bo.2,?_,q8.2⟩
  ·refine .aB (Ξ:=λc=>c=true->i<s.dB.length/\i<6) (Tot.bD (λh=>.al λaf=>⟨h,of_decide_eq_true af⟩) (λ_=>.al λh=>by cases h)) λc J=>Tot.bB (λig=>?_) (λ_=>.al rfl);obtain ⟨hi,IL⟩:=J ig;have mr:i.toNat<s.dB.length:=by omega
   have Bs:idx s.dB i=some s.dB[i.toNat]:=by simp [idx,aH,mr]
   rw [Bs];generalize s.dB[i.toNat]=d;have hw:aR (i+1)=i+1:=by rw [cD]; omega
   refine Tot.sm (.aB (t15 d.Left 25 (by decide)) λeO HL=>Tot.sm ?_);refine .aB (Tot.make 5 vJ (by decide) λvh k g0 T3 En T1=>?_) λgu Ud=>?_
   ·refine .aB (Ξ:=λc=>c=true->k<d.eA.length/\k<5) (Tot.sm (Tot.bD (λh=>.al λaf=>⟨h,of_decide_eq_true af⟩) (λ_=>.al λh=>by cases h))) λc J=>Tot.bB (λig=>?_) (λ_=>.al rfl);obtain ⟨hk,IT⟩:=J ig;have V3:k.toNat<d.eA.length:=by omega
    have V2:idx d.eA k=some d.eA[k.toNat]:=by simp [idx,g0,V3]
    simp only [Option.bind_some,V2];generalize d.eA[k.toNat]=a;have rn:aR (k+1)=k+1:=by rw [cD]; omega
    refine .aB (t16 a.Prec) λo9 Uf=>?_;refine .aB (Tot.make 6 (λp=>p.Sym.Name.size<=eV/\p.Code.size<=1000) (by decide) λgz aa e0 acv el acu=>?_) λk1 Uh=>?_
    ·refine .aB (Ξ:=λc=>c=true->aa<a.Parts.length/\aa<6) (Tot.bD (λh=>.al λaf=>⟨h,of_decide_eq_true af⟩) (λ_=>.al λh=>by cases h)) λc J=>Tot.bB (λig=>?_) (λ_=>.al rfl);obtain ⟨ag,yP⟩:=J ig;refine .aB (Tot.gM (Φ:=λ_=>True) e0 ag λ_ _ _=>trivial) λnT _=>.aB (t16 nT.Sym) λK6 HN=>.aB (t15 nT.Code 60 (by decide)) λqN Ng=>.aB (Ξ:=λ_=>True) (Tot.ap (by simp [lim]; omega) trivial) λ_ _=>.al ⟨yP,?_,_,rfl,HN,?_⟩
     ·grind [cD]
     grind
    ·refine .aB (Ξ:=λ_=>True) (Tot.ap (by simp [lim]; omega) trivial) λ_ _=>.al ⟨IT,rn,_,rfl,⟨?_,Uh.2,Uf⟩⟩
     grind
   ·refine .aB (Ξ:=λ_=>True) (Tot.ap (by simp [lim]; omega) trivial) λ_ _=>.al ⟨IL,hw,_,rfl,⟨?_,?_,Ud.2⟩⟩
    ·grind
    grind
  all_goals grind
theorem t12 (a n:Int) (h:0<n) (az:n<=9223372036854775807):Tot (vp a n) λr=>0<=r/\r<n:=by
 unfold vp;have h1:-n<a.tmod n:=by
  by_cases aQ:0<=a
  ·have:=Int.tmod_nonneg n aQ; omega
  ·have af:(-a).tmod n<n:=Int.tmod_lt_of_pos _ h;rw [Int.neg_tmod] at af;omega
 have af:a.tmod n<n:=Int.tmod_lt_of_pos a h;refine .aB (Ξ:=λx=>x=a.tmod n) (Tot.rem (by omega) rfl) λx j=>?_;subst j;refine Tot.aB (Ξ:=λr=>0<=r/\r<n) (Tot.bD (λaJ=>.al ?_) (λaJ=>.al (by omega))) λr aj=>.al aj;rw [cD]; omega
theorem t20 (k:Int) (h:0<=k):Tot (vq k) λx=>x.Name.size=1/\x.Lit=true/\x.bT=0:=by
 unfold vq;refine .aB (Ξ:=λx=>x.size=4) (.al rfl) λaX h1=>.aB (Ξ:=λr=>r=k.tmod 4) (Tot.rem (by decide) rfl) λx2 af=>.aB (Ξ:=λr=>r=k.tmod 4) (Tot.rem (by decide) rfl) λaZ aJ=>?_;subst af aJ;have e:k.tmod 4=k % 4:=Int.tmod_eq_emod_of_nonneg h;rw [e];have hw:aR (k % 4+1)=k % 4+1:=by rw [cD]; omega
 rw [hw];refine .aB (Ξ:=λx=>x.size=1) (Tot.cut (by rw [h1]; omega) ?_) λb4 bo=>.al ⟨bo,rfl,rfl⟩
 grind [Tg]
theorem t18 (k:Int):Tot (zk k) λx=>x.size=1:=by
 unfold zk;exact .al (by rw [KJ]; rfl)
theorem t19 (k n:Int) (h:0<n) (az:n<=100):Tot (CE k n) λx=>x.Name.size<=5:=by
 unfold CE;refine .aB (t12 k 14 (by decide) (by decide)) λaX h1=>Tot.bD (λcu=>?_) (λcu=>Tot.bB (λ_=>.al ?_) (λ_=>?_))
 ·refine .aB (Ξ:=λ_=>True) (Tot.rem (by omega) trivial) λaZ _=>.aB (t18 aZ) λb4 bo=>.al ?_
  grind
 ·show (5:Nat)<=5;omega
 ·refine .aB (t20 _ ?_) λx j=>.al (by omega)
  grind [cD]
structure Af (n:Nat) (d:Decl):Prop where
 tag:d.Tag.size=0
 n:d.er.length<=n
 syms:∀ x∈d.er,x.Name.size<=eV
theorem t17 (l:List Int):Tot (zj l) λr=>r.length<=4/\∀ d∈r,Af 10 d:=by
 unfold zj;refine Tot.aB (Ξ:=λr=>r.length<=4/\∀ d∈r,Af 10 d) ?_ λr aj=>.al aj;refine Tot.count (λs=>s.2) 4 (λs=>0<=s.2/\s.2<=4/\s.1.length<=s.2.toNat/\∀ d∈s.1,Af (1+s.2.toNat) d) ⟨Int.le_refl 0,by decide,Nat.le_refl 0,λd aO=>absurd aO (by simp)⟩ (by decide) λs ax=>?_;obtain ⟨r,i⟩:=s;obtain ⟨aH,bo,ah,aO⟩:=ax;simp only at aH bo ah aO ⊢;have hw:aR (i+1)=i+1:=by rw [cD]; omega
 rw [hw];refine .aB (Ξ:=λc=>c=true->i<l.length/\i<4) (Tot.bD (λh=>.al λaf=>⟨h,of_decide_eq_true af⟩) (λ_=>.al λh=>by cases h)) λc J=>Tot.bB (λig=>?_) (λ_=>.al ⟨by omega,λd jz=>⟨(aO d jz).tag,by have:=(aO d jz).n; omega,(aO d jz).syms⟩⟩);obtain ⟨hi,ac5⟩:=J ig;refine Tot.aB (Ξ:=λaa=>aa.length<=i.toNat+1/\∀ d∈aa,Af (1+(i.toNat+1)) d) ?_ λaa ag=>.al ⟨⟨?_,?_,?_,?_⟩,?_,?_⟩
 ·refine .aB (Tot.gM (Φ:=λ_=>True) aH hi λ_ _ _=>trivial) λcf _=>.aB (t12 cf 8 (by decide) (by decide)) λcR wo=>.aB (Ξ:=λ_=>True) (Tot.rem (by decide) trivial) λbR _=>?_;have pD:∀ d∈r,Af (1+(i.toNat+1)) d:=λd jz=>⟨(aO d jz).tag,by have:=(aO d jz).n; omega,(aO d jz).syms⟩;refine Tot.bB (λ_=>.al ⟨by omega,pD⟩) (λ_=>?_);refine .aB (Ξ:=λc=>c=true->0<(r.length:Int)) (Tot.bB (λ_=>.al λh=>of_decide_eq_true h) (λ_=>.al λh=>by cases h)) λc J=>Tot.bB (λwC=>?_) (λ_=>?_)
  ·have pK:=J wC;have WS:aR ((r.length:Int) - 1)=(r.length:Int) - 1:=by rw [cD]; omega
   rw [WS];refine .aB (Tot.gM (Φ:=λy=>y∈r) (by omega) (by omega) λ_ _ h=>h) λd jz=>.aB (t20 i aH) λx j=>.aB (Ξ:=λ_=>True) (Tot.ap (by have:=(aO d jz).n; simp [lim]; omega) trivial) λ_ _=>.al ⟨by simp; omega,λMG yK=>?_⟩;rcases O3 yK with h | rfl
   ·grind
   ·refine ⟨(aO d jz).tag,?_,λy ai=>?_⟩
    ·have:=(aO d jz).n
     grind
    ·rcases List.mem_append.1 ai with ai | ai
     ·exact (aO d jz).syms y ai
     grind
  ·refine .aB (Ξ:=λ_=>True) (Tot.rem (by decide) trivial) λeu _=>.aB (t20 i aH) λx j=>.aB (Ξ:=λ_=>True) (Tot.ap (by simp [lim]; omega) trivial) λ_ _=>.al ⟨by simp; omega,λMG yK=>?_⟩;rcases List.mem_append.1 yK with h | h
   ·grind
   ·rw [List.mem_singleton.1 h];refine ⟨rfl,by show 1<=_; omega,λy ai=>?_⟩
    grind
 all_goals grind
structure lW (n:Nat) (r:eZ):Prop where
 left:r.Left.size<=eV
 n:r.eA.length<=n
 alts:∀ a∈r.eA,vJ a
theorem lW.mono {n m:Nat}{r:eZ}(h:lW n r) (hm:n<=m):lW m r:=⟨h.left,Nat.le_trans h.n hm,h.alts⟩
theorem lW.add {n:Nat}{r:eZ}{a:Alt}(h:lW n r) (aQ:vJ a):lW (n+1) (⟨r.Left,r.eA++[a],r.At⟩:eZ):=by
 refine ⟨h.left,by have:=h.n; show (r.eA++[a]).length<=_; simp; omega,λb au=>?_⟩;rcases List.mem_append.1 au with au | au
 ·exact h.alts b au
 grind
theorem LP {l:List eZ}{i n:Nat}{r:eZ}(h:∀ x∈l,lW n x) (aj:lW n r):∀ x∈l.set i r,lW n x:=by grind
theorem t7 (x:qO):Tot (zw x) qW:=by
 unfold zw;refine .aB (t12 x.bA 4 (by decide) (by decide)) λaX h1=>.aB (t17 x.qa) λx2 af=>?_;have tD:aR (1+aX)=1+aX:=by rw [cD]; omega
 rw [tD];refine .aB (Ξ:=λl=>l=List.replicate (1+aX).toNat false) (Tot.mk (by simp [lim]; omega) rfl) λaZ aJ=>?_;have acA:aZ.length=(1+aX).toNat:=by rw [aJ]; simp
 refine Tot.aB (Ξ:=λl=>(l.length:Int)=1+aX/\∀ r∈l,lW 0 r) ?_ λcd cu=>?_
 ·refine Tot.count (λs=>s.2) (1+aX) (λs=>0<=s.2/\s.2<=1+aX/\(s.1.length:Int)=s.2/\∀ r∈s.1,lW 0 r) ⟨Int.le_refl 0,by show 0<=1+aX; omega,rfl,λd aO=>absurd aO (by simp)⟩ (by show 1+aX - 0<_; omega) λs ax=>?_;obtain ⟨l,i⟩:=s;obtain ⟨g0,g1,ah,cV⟩:=ax;simp only at g0 g1 ah cV ⊢;have hw:aR (i+1)=i+1:=by rw [cD]; omega
  rw [hw];refine Tot.bD (λaN=>?_) (λ_=>.al ⟨by omega,cV⟩);refine .aB (t18 i) λcf pz=>.aB (Ξ:=λ_=>True) (Tot.ap (by simp [lim]; omega) trivial) λ_ _=>.al ⟨⟨?_,?_,?_,λr aj=>?_⟩,?_,?_⟩
  ·grind
  ·grind
  ·grind
  ·rcases List.mem_append.1 aj with aj | aj
   ·grind
   ·rw [List.mem_singleton.1 aj];exact ⟨by show cf.size<=_; rw [pz]; decide,Nat.le_refl 0,λa aQ=>absurd aQ (by simp)⟩
  ·grind
  grind
 refine Tot.aB (Ξ:=λr=>(r.1.length:Int)=1+aX/\(r.2.length:Int)=1+aX/\∀ y∈r.1,lW 9 y) ?_ λdt uF=>?_
 ·refine Tot.count (λs=>s.2.2) 9 (λs=>0<=s.2.2/\s.2.2<=9/\(s.1.length:Int)=1+aX/\(s.2.1.length:Int)=1+aX/\∀ y∈s.1,lW s.2.2.toNat y) ⟨Int.le_refl 0,by show (0:Int)<=9; decide,cu.1,by show (aZ.length:Int)=_; omega,cu.2⟩ (by show (9:Int) - 0<_; decide) λs ax=>?_;obtain ⟨l,au,i⟩:=s;obtain ⟨g0,g1,ah,IK,cV⟩:=ax;simp only at g0 g1 ah IK cV ⊢;have hw:aR (i+1)=i+1:=by rw [cD]; omega
  rw [hw];refine .aB (Ξ:=λc=>c=true->i<x.dB.length/\i<9) (Tot.bD (λh=>.al λaf=>⟨h,of_decide_eq_true af⟩) (λ_=>.al λh=>by cases h)) λc J=>Tot.bB (λig=>?_) (λ_=>.al ⟨ah,IK,λy ai=>(cV y ai).mono (by omega)⟩);obtain ⟨hi,ac6⟩:=J ig;have mr:i.toNat<x.dB.length:=by omega
  have Bs:idx x.dB i=some x.dB[i.toNat]:=by simp [idx,g0,mr]
  rw [Bs];generalize x.dB[i.toNat]=d;have Nv:∀ y∈l,lW (i.toNat+1) y:=λy ai=>(cV y ai).mono (by omega);refine Tot.aB (Ξ:=λaa=>(aa.1.length:Int)=1+aX/\(aa.2.length:Int)=1+aX/\∀ y∈aa.1,lW (i.toNat+1) y) ?_ λaa ag=>.al ⟨⟨?_,?_,ag.1,ag.2.1,?_⟩,?_,?_⟩
  ·refine Tot.sm (Tot.bD (λ_=>.al ⟨ah,IK,Nv⟩) (λcU=>Tot.sm ?_));refine .aB (Tot.gM (Φ:=λ_=>True) (by decide) (by omega) λ_ _ _=>trivial) λhf _=>.aB (t12 hf (1+aX) (by omega) (by omega)) λfU Nc=>?_;have nA:∀ c:ByteArray,c.size<=1000->((⟨(⟨⟨#[]⟩,false,0,0⟩:Sym),c,0⟩:Part).Sym.Name.size<=eV/\(⟨(⟨⟨#[]⟩,false,0,0⟩:Sym),c,0⟩:Part).Code.size<=1000):=λc J=>⟨by show 0<=_; exact Nat.zero_le _,J⟩;refine Tot.aB (Ξ:=λr=>r.1.length<=10/\∀ p∈r.1,p.Sym.Name.size<=eV/\p.Code.size<=1000) ?_ λfa Ub=>?_
   ·refine Tot.count (λs=>s.2.2) 5 (λs=>1<=s.2.2/\s.2.2<=5/\(s.1.length:Int)<=2 * (s.2.2 - 1)/\∀ p∈s.1,p.Sym.Name.size<=eV/\p.Code.size<=1000) ⟨Int.le_refl 1,by decide,by decide,λp av=>absurd av (by simp)⟩ (by decide) λs ax=>?_;obtain ⟨ps,pl,k⟩:=s;obtain ⟨k0,rD,XD,JR⟩:=ax;simp only at k0 rD XD JR ⊢;have rn:aR (k+1)=k+1:=by rw [cD]; omega
    rw [rn];refine .aB (Ξ:=λc=>c=true->k<d.length/\k<5) (Tot.sm (Tot.bD (λh=>.al λaf=>⟨h,of_decide_eq_true af⟩) (λ_=>.al λh=>by cases h))) λc J=>Tot.bB (λig=>?_) (λ_=>.al ⟨by show ps.length<=10; omega,JR⟩);obtain ⟨hk,ac9⟩:=J ig;refine Tot.aB (Ξ:=λaa=>(aa.1.length:Int)<=2 * k/\∀ p∈aa.1,p.Sym.Name.size<=eV/\p.Code.size<=1000) ?_ λaa ag=>.al ⟨⟨?_,?_,?_,ag.2⟩,?_,?_⟩
    ·refine Tot.sm (.aB (Tot.gM (Φ:=λ_=>True) (by omega) hk λ_ _ _=>trivial) λlr _=>.aB (t19 lr (1+aX) (by omega) (by omega)) λeO HL=>?_);refine .aB (Ξ:=λ_=>True) (Tot.bB (λ_=>Tot.bB (λ_=>.al trivial) (λ_=>.al trivial)) (λ_=>.al trivial)) λ_ _=>.aB (Ξ:=λ_=>True) (Tot.ap (by simp [lim]; omega) trivial) λ_ _=>?_;have ba:∀ p∈ps++[(⟨eO,⟨#[]⟩,0⟩:Part)],p.Sym.Name.size<=eV/\p.Code.size<=1000:=λp av=>by
      rcases List.mem_append.1 av with h | h
      ·exact JR p h
      ·rw [List.mem_singleton.1 h]; exact ⟨by show eO.Name.size<=1000; omega,Nat.zero_le _⟩
     refine .aB (Ξ:=λ_=>True) ?_ λaaC _=>?_
     ·refine Tot.bD (λh=>Tot.bB (λ_=>.aB (Tot.gM (Φ:=λ_=>True) g0 h λ_ _ _=>trivial) λ_ _=>.aB (Ξ:=λ_=>True) (Tot.rem (by decide) trivial) λ_ _=>.al trivial) (λ_=>.al trivial)) (λ_=>.al trivial)
     ·refine Tot.aB (Ξ:=λl=>(l.length:Int)<=2 * k/\∀ p∈l,p.Sym.Name.size<=eV/\p.Code.size<=1000) ?_ λaa ag=>.al ag;refine Tot.bB (λ_=>?_) (λ_=>.al ⟨by simp; omega,ba⟩);refine .aB (Ξ:=λ_=>True) (Tot.ap (by simp [lim]; omega) trivial) λ_ _=>.al ⟨by simp; omega,λp av=>?_⟩;rcases List.mem_append.1 av with av | av
      ·grind
      ·rw [List.mem_singleton.1 av];exact nA _ (by decide)
    all_goals grind
   ·refine .aB (Ξ:=λ_=>True) (Tot.bD (λh=>.aB (Tot.gM (Φ:=λ_=>True) g0 h λ_ _ _=>trivial) λ_ _=>.aB (Ξ:=λ_=>True) (Tot.rem (by decide) trivial) λ_ _=>.al trivial) (λ_=>.al trivial)) λaaB _=>?_;refine Tot.aB (Ξ:=λl=>l.length<=20/\∀ p∈l,p.Sym.Name.size<=eV/\p.Code.size<=1000) ?_ λoj Ui=>?_
    ·refine Tot.bB (λ_=>?_) (λ_=>.al ⟨by omega,Ub.2⟩);refine .aB (Ξ:=λ_=>True) (Tot.ap (by simp [lim]; omega) trivial) λ_ _=>.al ⟨by simp; omega,λp av=>?_⟩;rcases List.mem_append.1 av with av | av
     ·grind
     ·rw [List.mem_singleton.1 av];exact nA _ (by decide)
    ·refine Tot.aB (Ξ:=λl=>(l.length:Int)=1+aX) ?_ λMo Uk=>?_
     ·refine .aB (Tot.gM (Φ:=λ_=>True) Nc.1 (by omega) λ_ _ _=>trivial) λ_ _=>Tot.bB (λ_=>.al (by simp; omega)) (λ_=>.al (by simp; omega))
     ·refine .aB (Tot.gM (Φ:=λy=>y∈l) Nc.1 (by omega) λ_ _ h=>h) λk2 Ul=>?_;have qt:=cV k2 Ul;refine .aB (Ξ:=λ_=>True) (Tot.ap (by have:=qt.n; simp [lim]; omega) trivial) λ_ _=>.al ⟨by show ((l.set _ _).length:Int)=_; simp; omega,Uk,LP Nv (qt.add ⟨by show oj.length<=_; omega,Ui.2,Nat.zero_le _⟩)⟩
  all_goals grind
 refine Tot.aB (Ξ:=λl=>(l.length:Int)=1+aX/\∀ y∈l,lW 20 y) ?_ λqN Ng=>.al ⟨Nat.zero_le _,?_,λd aO=>?_,?_,λr aj=>?_⟩
 ·refine Tot.count (λs=>s.2) (1+aX) (λs=>0<=s.2/\s.2<=1+aX/\(s.1.length:Int)=1+aX/\∀ y∈s.1,lW (9+s.2.toNat) y) ⟨Int.le_refl 0,by show 0<=1+aX; omega,uF.1,uF.2.2⟩ (by show 1+aX - 0<_; omega) λs ax=>?_;obtain ⟨l,i⟩:=s;obtain ⟨g0,g1,ah,cV⟩:=ax;simp only at g0 g1 ah cV ⊢;have hw:aR (i+1)=i+1:=by rw [cD]; omega
  rw [hw];refine Tot.bD (λaN=>?_) (λ_=>.al ⟨ah,λy ai=>(cV y ai).mono (by omega)⟩);refine Tot.aB (Ξ:=λl=>(l.length:Int)=1+aX/\∀ y∈l,lW (9+i.toNat+1) y) ?_ λaa ag=>.al ⟨⟨?_,?_,ag.1,?_⟩,?_,?_⟩
  ·refine .aB (Ξ:=λ_=>True) ?_ λaaD _=>?_
   ·refine .aB (Tot.gM (Φ:=λ_=>True) g0 (by omega) λ_ _ _=>trivial) λvG _=>Tot.bB (λ_=>.al trivial) (λ_=>.aB (Tot.gM (Φ:=λ_=>True) g0 (by omega) λ_ _ _=>trivial) λ_ _=>Tot.bB (λ_=>.al trivial) (λ_=>.al trivial))
   ·refine Tot.aB (Ξ:=λl=>(l.length:Int)=1+aX/\∀ y∈l,lW (9+i.toNat+1) y) ?_ λaa ag=>.al ag;refine Tot.bB (λ_=>?_) (λ_=>.al ⟨ah,λy ai=>(cV y ai).mono (by omega)⟩);refine .aB (Tot.gM (Φ:=λy=>y∈l) g0 (by omega) λ_ _ h=>h) λiq Er=>.aB (t20 i g0) λir acG=>?_;have j:=cV iq Er;refine .aB (Ξ:=λ_=>True) (Tot.ap (by have:=j.n; simp [lim]; omega) trivial) λ_ _=>.al ⟨by simp; omega,LP (λy ai=>(cV y ai).mono (by omega)) (j.add ⟨by show 1<=_; omega,λp av=>?_,Nat.zero_le _⟩)⟩;have av:p∈[(⟨ir,⟨#[]⟩,0⟩:Part)]:=av;rw [List.mem_singleton.1 av];exact ⟨by show ir.Name.size<=1000; omega,Nat.zero_le _⟩
  all_goals grind
 ·grind
 ·have:=af.2 d aO;exact ⟨by rw [this.tag]; exact Nat.zero_le _,by have:=this.n; omega,this.syms⟩
 ·grind
 ·have:=Ng.2 r aj;exact ⟨this.left,by have:=this.n; omega,this.alts⟩
end Go.Proofs
namespace Go.Own
open Go Go.Sort
set_option linter.unusedSectionVars false
variable [cw]
variable {α:Type} [DecidableEq α]
structure Ord (lt:α->α->Bool):Prop where
 swo:SWO lt
 i':∀ x y,lt x y=false->lt y x=false->x=y
def fo (lt:α->α->Bool) (l:List α):Prop:=l.Pairwise λa b=>lt a b=true
omit [DecidableEq α] in
theorem fo.nd {lt:α->α->Bool}(h:Ord lt) {l:List α}(ah:fo lt l):l.Nodup:=ah.imp λ{a b} uJ e=>by
 subst e;rw [h.swo.irrefl] at uJ; cases uJ
omit [DecidableEq α] in
theorem fo.uniq {lt:α->α->Bool}(h:Ord lt) {l m:List α}(ah:fo lt l) (hm:fo lt m) (he:∀ x,x∈l↔x∈m):l=m :=
 List.Perm.eq_of_pairwise (le:=λa b=>lt a b=true) (λa b _ _ h1 af=>by have:=h.swo.trans _ _ _ h1 af; rw [h.swo.irrefl] at this; cases this) ah hm ((List.perm_ext_iff_of_nodup (ah.nd h) (hm.nd h)).2 he)
omit [DecidableEq α] in
theorem za {l m:List α}(aO:l.Nodup) (hm:∀ x∈l,x∈m):l.length<=m.length:=by
 classical
 induction l generalizing m with
 | nil=>exact Nat.zero_le _
 | cons x l aK =>
  have j:=hm x (by simp);have pD:=List.nodup_cons.1 aO;have:=aK (m:=m.erase x) pD.2 λy ai=>(List.mem_erase_of_ne (λe=>pD.1 (by rw [<- e]; exact ai))).2 (hm y (by simp [ai]));have ah:=List.length_erase_of_mem j;have av:=List.length_pos_of_mem j;simp only [List.length_cons];omega
theorem Zp {lt:α->α->Bool}(h:Ord lt) {ho:α->α->Option Int}{l:List α}(J:∀ a∈l,∀ b∈l,∃ v,ho a b=some v/\(v<0↔lt a b=true)) (az:l.length<4611686018427387904):vD ho l=some (jZ (nL ho) l)/\∀ a∈l,∀ b∈l,nL ho a b=lt a b:=by
 have aN:∀ a∈l,∀ b∈l,nL ho a b=lt a b:=by
  intro a aQ b au;obtain ⟨v,hv,h⟩:=J a aQ b au;unfold nL;simp only [hv,Option.getD_some];cases hk:lt a b with
  | true=>exact decide_eq_true (h.2 hk)
  | false=>exact decide_eq_false λbE=>by rw [h.1 bE] at hk; cases hk
 refine ⟨?_,aN⟩;unfold vD;rw [if_pos];simp only [Bool.and_eq_true,decide_eq_true_eq,List.all_eq_true];refine ⟨⟨λa aQ b au=>?_,?_⟩,az⟩
 ·obtain ⟨v,hv,_⟩:=J a aQ b au;rw [hv]; rfl
 ·unfold Cw;simp only [List.all_eq_true,Bool.and_eq_true,Bool.or_eq_true,Bool.not_eq_true',decide_eq_true_eq];intro a aQ;refine ⟨by rw [aN a aQ a aQ]; exact h.swo.irrefl a,λb au=>⟨?_,λc J=>⟨?_,?_⟩⟩⟩
  ·rw [aN a aQ b au,aN b au a aQ];cases h1:lt a b with
   | true=>exact .inl (.inl rfl)
   | false =>
    cases af:lt b a with
    | true=>exact .inl (.inr rfl)
    | false=>exact .inr (h.i' _ _ h1 af)
  ·rw [aN a aQ b au,aN b au c J,aN a aQ c J];cases h1:lt a b with
   | false=>exact .inl rfl
   | true =>
    cases af:lt b c with
    | false=>exact .inl rfl
    | true=>exact .inr (h.swo.trans _ _ _ h1 af)
  ·rw [aN a aQ b au,aN b au c J,aN a aQ c J];cases h1:lt a b with
   | true=>exact .inl (.inl rfl)
   | false =>
    cases af:lt b c with
    | true=>exact .inl (.inr rfl)
    | false=>exact .inr (h.swo.ntrans _ _ _ h1 af)
omit [DecidableEq α] in
theorem Oz {lt lt':α->α->Bool}(x:α):∀ l:List α,(∀ y∈l,lt y x=lt' y x)->ins lt x l=ins lt' x l
 | [],_=>rfl
 | y::l,h=>by
  simp only [ins,h y (by simp)];rw [Oz x l λz aS=>h z (by simp [aS])]
omit [DecidableEq α] in
theorem OF {lt lt':α->α->Bool}:∀ l:List α,(∀ a∈l,∀ b∈l,lt a b=lt' a b)->jZ lt l=jZ lt' l
 | [],_=>rfl
 | x::l,h=>by
  simp only [jZ];rw [OF l λa aQ b au=>h a (by simp [aQ]) b (by simp [au])];exact Oz x _ λy ai=>h y (by simp [(y5 lt' l).mem_iff.1 ai]) x (by simp)
theorem Zo {lt:α->α->Bool}(h:Ord lt) {ho:α->α->Option Int}{l:List α}(J:∀ a∈l,∀ b∈l,∃ v,ho a b=some v/\(v<0↔lt a b=true)) (az:l.length<4611686018427387904):vD ho l=some (jZ lt l):=by
 obtain ⟨h1,af⟩:=Zp h J az;rw [h1,OF l af]
theorem MH {lt:α->α->Bool}(h:Ord lt):∀ (l:List α) (p:Option α),l.Pairwise (λa b=>(!lt b a)=true)->(∀ a,p=some a->∀ x∈l,lt x a=false)->fo lt (oL p l)/\∀ x,x∈oL p l↔(x∈l/\p≠some x)
 | [],p,_,_=>⟨List.Pairwise.nil,λx=>by simp [oL]⟩
 | a::l,p,ax,av=>by
  obtain ⟨h1,af⟩:=List.pairwise_cons.1 ax;have aK:=MH h l (some a) af λb au x j=>by
   cases au;simpa using h1 x j
  unfold oL;by_cases e:p=some a
  ·rw [if_pos e];refine ⟨aK.1,λx=>?_⟩;rw [aK.2 x,e];constructor
   ·exact λj=>⟨by simp [j.1],j.2⟩
   ·rintro ⟨j,az⟩;refine ⟨?_,az⟩;rcases List.mem_cons.1 j with rfl | j
    ·exact absurd rfl az
    ·exact j
  ·rw [if_neg e];refine ⟨List.pairwise_cons.2 ⟨λx j=>?_,aK.1⟩,λx=>?_⟩
   ·obtain ⟨jD,gZ⟩:=(aK.2 x).1 j;cases U_:lt a x with
    | true=>rfl
    | false =>
     have:=h.i' a x U_ (by simpa using h1 x jD);exact absurd (by rw [this]) gZ
   ·rw [List.mem_cons,aK.2 x,List.mem_cons];constructor
    ·rintro (rfl | ⟨j,az⟩)
     ·exact ⟨.inl rfl,e⟩
     ·refine ⟨.inr j,λbE=>?_⟩;have aJ:lt a x=false:=av x bE a (by simp);have bo:lt x a=false:=by simpa using h1 x j
      exact az (by rw [h.i' a x aJ bo])
    ·rintro ⟨j,az⟩;by_cases Jr:x=a
     ·exact .inl Jr
     ·exact .inr ⟨j.resolve_left Jr,λbE=>Jr (Option.some.inj bE).symm⟩
theorem Tm {lt:α->α->Bool}(h:Ord lt) (l:List α):fo lt (dedup (jZ lt l))/\∀ x,x∈dedup (jZ lt l)↔x∈l:=by
 obtain ⟨h1,af⟩:=MH h (jZ lt l) none (JA h.swo l) λa aQ=>by cases aQ
 refine ⟨h1,λx=>?_⟩;unfold dedup;rw [af x,(y5 lt l).mem_iff];simp
end Go.Own
namespace Go.Proofs
open Go Go.Own Go.Sort
set_option maxRecDepth 100000
set_option linter.unusedVariables false
def fT (a b:Item):Bool:=decide (a.Prod<b.Prod\/(a.Prod=b.Prod/\a.cP<b.cP))
theorem Fc {a b:Item}:fT a b=true↔(a.Prod<b.Prod\/(a.Prod=b.Prod/\a.cP<b.cP)):=by simp [fT]
theorem Ci {a b:Item}:fT a b=false↔¬ (a.Prod<b.Prod\/(a.Prod=b.Prod/\a.cP<b.cP)):=by simp [fT]
theorem rH:Ord fT where
 swo:=⟨λx=>by rw [Ci]; omega,λx y z h1 af=>by rw [Fc] at *; omega,λx y z h1 af=>by rw [Ci] at *; omega⟩
 i' x y h1 af:=by
  rw [Ci] at h1 af;obtain ⟨aX,x2⟩:=x;obtain ⟨bS,y2⟩:=y;simp only at h1 af;have:aX=bS:=by omega
  have:x2=y2:=by omega
  subst_vars; rfl
def gL (g:bx) (x:Item):Prop:=∃ q,idx g.a7 x.Prod=some q/\0<=x.cP/\x.cP<=q.eI.length
def eL (g:bx) (x:Item):Int:=match idx g.a7 x.Prod with
 | some q=>(idx q.eI x.cP).getD (-1)
 | none=>-1
theorem mA {α:Type}{l:List α}{i:Int}{y:α}(h:idx l i=some y):0<=i/\i<l.length/\y∈l:=by
 unfold idx at h
 split at h
 ·rename_i aH;obtain ⟨h1,af⟩:=List.getElem?_eq_some_iff.1 h;exact ⟨aH,by omega,List.mem_of_getElem? h⟩
 ·cases h
theorem vb {α:Type}{l:List α}{i:Int}(h:i<0\/(l.length:Int)<=i):idx l i=none:=by
 unfold idx;split
 ·exact List.getElem?_eq_none (by omega)
 ·rfl
theorem kx {α:Type}{l:List α}{i:Int}(aH:0<=i) (h1:i<l.length):∃ y,idx l i=some y/\y∈l:=by
 have aN:i.toNat<l.length:=by omega
 exact ⟨l[i.toNat],by simp [idx,aH,aN],List.getElem_mem aN⟩
theorem ep {α:Type}{l:List α}{k:Nat}(h:k<l.length):idx l (k:Int)=some l[k]:=by simp [idx,h]
theorem Hr (g:bx) (x:Item):∃ c,xr g x=some c/\(c=true↔gL g x):=by
 unfold xr;by_cases aH:0<=x.Prod
 ·by_cases h1:x.Prod<g.a7.length
  ·obtain ⟨q,ba,_⟩:=kx aH h1;by_cases af:0<=x.cP
   ·refine ⟨decide (x.cP<=(q.eI.length:Int)),by simp [aH,h1,af,ba],?_⟩;rw [decide_eq_true_eq];exact ⟨λh=>⟨q,ba,af,h⟩,λ⟨gn,wM,_,h⟩=>by rw [ba] at wM; cases wM; exact h⟩
   ·exact ⟨false,by simp [aH,h1,af],λh=>(by cases h),λ⟨_,_,h,_⟩=>absurd h af⟩
  ·exact ⟨false,by simp [aH,h1],λh=>(by cases h),λ⟨_,h,_⟩=>absurd (mA h).2.1 h1⟩
 ·exact ⟨false,by simp [aH],λh=>(by cases h),λ⟨_,h,_⟩=>absurd (mA h).1 aH⟩
theorem Hq (g:bx) (x:Item):xp g x=some (eL g x):=by
 unfold xp eL;obtain ⟨c,J,hi⟩:=Hr g x;rw [J];simp only [Option.bind_some];cases c with
 | false =>
  have az:¬ gL g x:=λh=>by have:=hi.2 h; cases this
  simp only [Bool.not_false,cond_true,Option.bind_some];cases ba:idx g.a7 x.Prod with
  | none=>rfl
  | some q =>
   have:idx q.eI x.cP=none:=vb (by
    by_cases aH:0<=x.cP
    ·right;by_cases h1:x.cP<=q.eI.length
     ·exact absurd ⟨q,ba,aH,h1⟩ az
     ·omega
    ·left; omega)
   simp [this]
 | true =>
  obtain ⟨q,ba,aH,h1⟩:=hi.1 rfl;simp only [Bool.not_true,cond_false,ba,Option.bind_some];by_cases he:x.cP=q.eI.length
  ·rw [vb (.inr (by omega))];simp [he]
  ·obtain ⟨s,ax,_⟩:=kx (l:=q.eI) (i:=x.cP) aH (by omega);simp [he,ax]
theorem Ft {g:bx}(aI:fV g) {x:Item}(h:0<=eL g x):gL g x/\oF g.aW.length (g.bA.length - 1) (eL g x)/\∃ q,idx g.a7 x.Prod=some q/\idx q.eI x.cP=some (eL g x):=by
 cases ba:idx g.a7 x.Prod with
 | none =>
  have:eL g x=-1:=by unfold eL; rw [ba]
  rw [this] at h; exact absurd h (by decide)
 | some q =>
  cases ax:idx q.eI x.cP with
  | none =>
   have:eL g x=-1:=by unfold eL; rw [ba]; simp [ax]
   rw [this] at h; exact absurd h (by decide)
  | some s =>
   have e:eL g x=s:=by unfold eL; rw [ba]; simp [ax]
   rw [e];obtain ⟨aH,h1,hm⟩:=mA ax;exact ⟨⟨q,ba,aH,by omega⟩,(aI.gN q (mA ba).2.2).right s hm,q,rfl,ax⟩
inductive j5 (g:bx) (l:List Item):Item->Prop
 | base {x:Item}(h:x∈l) (hi:gL g x):j5 g l x
 | step {x:Item}{q:Prod}{p:Nat}(h:j5 g l x) (av:g.a7[p]?=some q) (az:eL g x=1000+q.Left) (aH:1000<=eL g x):j5 g l ⟨p,0⟩
theorem OE {g:bx}{p:Nat}{q:Prod}(av:g.a7[p]?=some q):gL g ⟨p,0⟩:=⟨q,by simp [idx,av],Int.le_refl _,by show (0:Int)<=_; omega⟩
theorem j5.gL {g:bx}{l:List Item}{x:Item}(h:j5 g l x):gL g x:=by
 cases h with
 | base _ hi=>exact hi
 | step _ av _ _=>exact OE av
theorem Pd {g:bx}(aI:fV g) (x:Item):-1<=eL g x/\eL g x<=1023:=by
 by_cases h:0<=eL g x
 ·obtain ⟨_,ax,_⟩:=Ft aI h;have:=aI.c_;have:=aI.j2;rcases ax with ax | ax <;> omega
 ·refine ⟨?_,by omega⟩;revert h;unfold eL;cases ba:idx g.a7 x.Prod with
  | none=>intro _; exact Int.le_refl _
  | some q =>
   cases ax:idx q.eI x.cP with
   | none=>intro _; simp [ax]
   | some s =>
    intro h;have hm:=(aI.gN q (mA ba).2.2).right s (mA ax).2.2;simp only [ax,Option.getD_some] at h ⊢;rcases hm with hm | hm <;> omega
def gI (m:List Bool):Nat:=(m.filter λb=>b).length
theorem ux:∀ (m:List Bool) (i:Nat),i<m.length->m.getD i false=false->gI (m.set i true)=gI m+1
 | [],i,h,_=>by simp at h
 | b::m,0,_,h=>by
  have:b=false:=by simpa using h
  subst this;simp [gI]
 | b::m,i+1,h,aH=>by
  have:=ux m i (by simpa using h) (by simpa using aH);unfold gI at this ⊢;simp only [List.set_cons_succ,List.filter_cons];cases b <;> simp [this]
theorem Hj (m:List Bool):gI m<=m.length:=List.length_filter_le _ _
theorem p6 {α:Type}{r:List α}{k:Nat}(h:k<r.length):r.take (k+1)=r.take k++[r[k]]:=by
 simp_all
theorem xP (k:Nat) (h:k<=1000000000000):aR ((k:Int)+1)=((k+1:Nat):Int):=by
 grind [cD]
def allI (g:bx):List Item:=(List.range g.a7.length).flatMap λp=>(List.range 9).map λd=>(⟨(p:Nat),(d:Nat)⟩:Item)
theorem RA (g:bx):(allI g).length=g.a7.length * 9:=by
 have:∀ l:List Nat,(l.map λ_=>9).sum=l.length * 9:=λl=>by
  induction l with
  | nil=>rfl
  | cons a l aK=>simp only [List.map_cons,List.sum_cons,aK,List.length_cons]; omega
 simp [allI,List.length_flatMap,this]
theorem XO {g:bx}(aI:fV g) {x:Item}(h:gL g x):x∈allI g:=by
 obtain ⟨q,ba,aH,h1⟩:=h;obtain ⟨af,aJ,bo⟩:=mA ba;have:=aI.aF q bo;refine List.mem_flatMap.2 ⟨x.Prod.toNat,by simp; omega,List.mem_map.2 ⟨x.cP.toNat,by simp; omega,?_⟩⟩;obtain ⟨a,b⟩:=x;simp only at aH af ⊢;congr 1 <;> omega
theorem r3 {g:bx}(aI:fV g) {l:List Item}(ah:fo fT l) (hi:∀ x∈l,gL g x):l.length<=540:=by
 have:=za (ah.nd rH) λx j=>XO aI (hi x j);rw [RA] at this;have:=aI.lK;omega
theorem RQ {l:List Item}(ah:fo fT l) {i aa:Nat}(hi:i<l.length) (ag:aa<l.length) (h:i<aa):fT l[i] l[aa]=true:=List.pairwise_iff_getElem.1 ah i aa hi ag h
theorem He (l:List Item) (x:Item) (ah:fo fT l) (az:l.length<=100000):Tot (xq l x) λr=>fo fT r/\(∀ y,y∈r↔y∈l\/y=x):=by
 unfold xq;refine .aB (Ξ:=λz:Int=>∃ k:Nat,z=(k:Int)/\k<=l.length/\(∀ (i:Nat) (h:i<l.length),k<=i->fT x l[i]=true)/\∀ (h:0<k),fT x (l[k - 1]?.getD default)=false) ?_ λz aS=>?_
 ·refine Tot.count (λs=>-s) 1 (λs=>∃ k:Nat,s=(k:Int)/\k<=l.length/\∀ (i:Nat) (h:i<l.length),k<=i->fT x l[i]=true) ⟨l.length,rfl,Nat.le_refl _,λi h hk=>by omega⟩ (by show 1 - -(l.length:Int)<_; omega) λs ax=>?_;obtain ⟨k,rfl,hk,wP⟩:=ax;refine .aB (Ξ:=λc:Bool=>(c=true->0<k/\fT x (l[k - 1]?.getD default)=true)/\(c=false->∀ (h:0<k),fT x (l[k - 1]?.getD default)=false)) ?_ λc J=>Tot.bB (λh=>?_) (λh=>.al ⟨k,rfl,hk,wP,J.2 h⟩)
  ·refine Tot.bD (λh=>?_) (λh=>.al ⟨λaL=>(by cases aL),λ_ aL=>by omega⟩);have eM:k - 1<l.length:=by omega
   have hw:aR ((k:Int) - 1)=((k - 1:Nat):Int):=by rw [cD]; omega
   rw [hw,ep eM,List.getElem?_eq_getElem eM];simp only [Option.bind_some,Option.getD_some];generalize l[k - 1]=y;refine Tot.bD (λh1=>.al ⟨λ_=>⟨by omega,Fc.2 (.inl h1)⟩,λaL=>(by cases aL)⟩) (λh1=>Tot.bD (λaf=>.al ⟨λaJ=>⟨by omega,Fc.2 (.inr ⟨af.symm,of_decide_eq_true aJ⟩)⟩,λaJ _=>?_⟩) (λaf=>.al ⟨λaL=>(by cases aL),λ_ _=>?_⟩))
   ·have:=of_decide_eq_false aJ;rw [Ci]; omega
   ·rw [Ci]; omega
  ·obtain ⟨aH,h1⟩:=J.1 h;refine .al ⟨⟨k - 1,by rw [cD]; omega,by omega,λi hi IV=>?_⟩,by show -(k:Int) < -aR _; rw [cD]; omega,by show -aR _<=1; rw [cD]; omega⟩;by_cases e:i=k - 1
   ·subst e;rw [List.getElem?_eq_getElem hi] at h1;exact h1
   ·exact wP i hi (by omega)
 ·obtain ⟨k,rfl,hk,wP,lF⟩:=aS;refine .aB (Ξ:=λc:Bool=>(c=true↔(0<k/\l[k - 1]?.getD default=x))) ?_ λc J=>Tot.bB (λh=>?_) (λh=>?_)
  ·refine Tot.bD (λh=>?_) (λh=>.al ⟨λaL=>(by cases aL),λaL=>by omega⟩);have eM:k - 1<l.length:=by omega
   have hw:aR ((k:Int) - 1)=((k - 1:Nat):Int):=by rw [cD]; omega
   rw [hw,ep eM,List.getElem?_eq_getElem eM];simp only [Option.bind_some,Option.getD_some];generalize l[k - 1]=y;refine .al ?_;obtain ⟨bS,y2⟩:=y;obtain ⟨aX,x2⟩:=x;simp only [Bool.and_true,Bool.and_eq_true,decide_eq_true_eq,Item.mk.injEq];exact ⟨λaL=>⟨by omega,aL⟩,λaL=>aL.2⟩
  ·obtain ⟨aH,h1⟩:=J.1 h;have eM:k - 1<l.length:=by omega
   rw [List.getElem?_eq_getElem eM] at h1;have j:x∈l:=by rw [<- h1]; exact List.getElem_mem eM
   exact .al ⟨ah,λy=>⟨.inl,λh=>h.elim id λe=>e ▸ j⟩⟩
  ·have cU:∀ (i:Nat) (hi:i<l.length),i<k->fT l[i] x=true:=by
    intro i hi rh;have eM:k - 1<l.length:=by omega
    have lF:=lF (by omega);have az:l[k - 1]?.getD default≠x:=λe=>by rw [J.2 ⟨by omega,e⟩] at h; cases h
    rw [List.getElem?_eq_getElem eM] at lF az;simp only [Option.getD_some] at lF az;have fk:fT l[k - 1] x=true:=by
     cases bE:fT l[k - 1] x with
     | true=>rfl
     | false=>exact absurd (rH.i' _ _ bE lF) az
    by_cases e:i=k - 1
    ·subst e; exact fk
    ·exact rH.swo.trans _ _ _ (RQ ah hi eM (by omega)) fk
   refine .aB (Ξ:=λz=>z=l.take k) (Tot.sub ⟨by omega,by omega,by omega⟩ (by simp)) λz aS=>?_;subst aS;refine .aB (Ξ:=λ_=>True) (Tot.ap (by simp [lim]; omega) trivial) λ_ _=>.aB (Ξ:=λ_=>True) (Tot.ap (by simp [lim]; omega) trivial) λ_ _=>?_;refine .aB (Ξ:=λz=>z=l.drop k) (Tot.sub ⟨by omega,by omega,by omega⟩ ?_) λz aS=>?_
   ·rw [List.take_of_length_le]
    ·congr 1
    ·rw [List.length_drop]; omega
   subst aS;refine .aB (Ξ:=λ_=>True) (Tot.ap (by simp [lim]; omega) trivial) λ_ _=>.al ?_;rw [List.nil_append];constructor
   ·have h1:∀ a∈l.take k,fT a x=true:=by
     intro a aQ;obtain ⟨i,hi,rfl⟩:=List.mem_iff_getElem.1 aQ;rw [List.length_take] at hi;rw [List.getElem_take];exact cU i (by omega) (by omega)
    have af:∀ a∈l.drop k,fT x a=true:=by
     intro a aQ;obtain ⟨i,hi,rfl⟩:=List.mem_iff_getElem.1 aQ;rw [List.length_drop] at hi;rw [List.getElem_drop];exact wP (k+i) (by omega) (by omega)
    unfold fo;rw [List.append_assoc,List.pairwise_append];refine ⟨List.Pairwise.sublist (List.take_sublist k l) ah,?_,λa aQ b au=>?_⟩
    ·rw [List.singleton_append,List.pairwise_cons];exact ⟨af,List.Pairwise.sublist (List.drop_sublist k l) ah⟩
    ·rcases List.mem_append.1 au with au | au
     ·rw [List.mem_singleton.1 au]; exact h1 a aQ
     ·exact rH.swo.trans _ _ _ (h1 a aQ) (af b au)
   ·intro y;rw [List.append_assoc,List.mem_append,List.mem_append,List.mem_singleton];have hm:y∈l↔y∈l.take k\/y∈l.drop k:=by
     rw [<- List.mem_append,List.take_append_drop]
    rw [hm];constructor
    ·rintro (h | h | h)
     ·exact .inl (.inl h)
     ·exact .inr h
     ·exact .inl (.inr h)
    ·rintro ((h | h) | h)
     ·exact .inl h
     ·exact .inr (.inr h)
     ·exact .inr (.inl h)
theorem AF (g:bx) (aI:fV g) (l:List Item) (ah:l.length<=1000000):Tot (CP g l) λr=>fo fT r/\∀ x,x∈r↔x∈l/\gL g x:=by
 unfold CP;refine .aB (Ξ:=λr=>fo fT r/\∀ x,x∈r↔x∈l/\gL g x) ?_ λr aj=>.al aj;refine Tot.count (λs=>s.2) l.length (λs=>∃ k:Nat,k<=l.length/\s.2=(k:Int)/\fo fT s.1/\∀ x,x∈s.1↔x∈l.take k/\gL g x) ⟨0,Nat.zero_le _,rfl,List.Pairwise.nil,λx=>by simp⟩ (by show (l.length:Int) - 0<_; omega) λs ax=>?_;obtain ⟨out,kc⟩:=s;obtain ⟨k,hk,rfl,aQ,hm⟩:=ax;simp only at aQ hm ⊢;rw [xP k (by omega)];refine Tot.bD (λaN=>?_) (λdY=>.al ?_)
 ·have aN:k<l.length:=by omega
  rw [ep aN];refine .aB (Ξ:=λo:List Item=>fo fT o/\∀ x,x∈o↔x∈l.take (k+1)/\gL g x) ?_ λo aM=>.al ⟨⟨k+1,by omega,rfl,aM⟩,by show (k:Int)<((k+1:Nat):Int); omega,by show ((k+1:Nat):Int)<=_; omega⟩;obtain ⟨c,J,hi⟩:=Hr g l[k];rw [p6 aN];refine Tot.sm ?_;rw [J];refine Tot.sm (.aB (Ξ:=λo:List Item=>fo fT o/\∀ x,x∈o↔x∈l.take k++[l[k]]/\gL g x) (Tot.bB (λh=>?_) (λh=>.al ⟨aQ,λx=>?_⟩)) λo aM=>.al aM)
  ·have I8:=r3 aI aQ λx j=>((hm x).1 j).2;refine Tot.sm (.aB (He out _ aQ (by omega)) λo aM=>.al ⟨aM.1,λx=>?_⟩);rw [aM.2 x,List.mem_append,List.mem_singleton,hm x];constructor
   ·rintro (⟨h1,af⟩ | rfl)
    ·exact ⟨.inl h1,af⟩
    ·exact ⟨.inr rfl,hi.1 h⟩
   ·rintro ⟨h1 | rfl,af⟩
    ·exact .inl ⟨h1,af⟩
    ·exact .inr rfl
  ·rw [List.mem_append,List.mem_singleton,hm x];constructor
   ·rintro ⟨h1,af⟩;exact ⟨.inl h1,af⟩
   ·rintro ⟨h1 | rfl,af⟩
    ·exact ⟨h1,af⟩
    ·rw [hi.2 af] at h; cases h
 ·have:k=l.length:=by omega
  subst this;rw [List.take_length] at hm;exact ⟨aQ,hm⟩
def vM (g:bx) (out:List Item) (x:Item):Prop:=1000<=eL g x->∀ (p:Nat) (q:Prod),g.a7[p]?=some q->q.Left=eL g x - 1000->(⟨p,0⟩:Item)∈out
theorem D5 (g:bx) (aI:fV g) (l:List Item) (ah:l.length<=1000000):Tot (sH g l) λr=>fo fT r/\∀ x,x∈r↔j5 g l x:=by
 have yW:=aI.lK;unfold sH;refine .aB (AF g aI l ah) λaX h1=>.aB (Ξ:=λr=>fo fT r/\∀ x,x∈r↔j5 g l x) ?_ λr aj=>.al aj;obtain ⟨nD,EH⟩:=h1;refine Tot.loop (λs=>fo fT s.1/\(∀ x∈s.1,j5 g l x)/\(∀ x∈l,gL g x->x∈s.1)/\(s.2=(s.1.length:Int)->∀ x∈s.1,vM g s.1 x)) (λs=>2 * (1000 - s.1.length)+(if s.2=(s.1.length:Int) then 0 else 1)) ⟨nD,λx j=>.base ((EH x).1 j).1 ((EH x).1 j).2,λx j hi=>(EH x).2 ⟨j,hi⟩,λh=>by have h:(-1:Int)=_:=h; omega⟩ (by
  show 2 * (1000 - aX.length)+(if (-1:Int)=_ then 0 else 1)<1000000000000000000
  split <;> omega) λs ax=>?_
 obtain ⟨out,n⟩:=s;obtain ⟨aQ,fz,qk,h3⟩:=ax;simp only at aQ fz qk h3 ⊢;have I8:=r3 aI aQ λx j=>(fz x j).gL;refine Tot.pq (λcU=>?_) (λhe=>.al ⟨aQ,λx=>⟨fz x,λj=>?_⟩⟩)
 ·refine .aB (Ξ:=λaa:List Item × Int=>aa.2=(out.length:Int)/\fo fT aa.1/\(∀ x∈aa.1,j5 g l x)/\(∀ x∈out,x∈aa.1)/\(aa.1.length=out.length->∀ x∈aa.1,vM g aa.1 x)) ?_ λaa ag=>?_
  ·refine .aB (Ξ:=λr:List Item=>fo fT r/\(∀ x∈r,j5 g l x)/\(∀ x∈out,x∈r)/\(r.length=out.length->∀ x∈r,vM g r x)) ?_ λr aj=>.al ⟨rfl,aj⟩;refine .aB (Ξ:=λr:List Item=>fo fT r/\(∀ x∈r,j5 g l x)/\(∀ x∈out,x∈r)/\(r.length=out.length->∀ x∈r,vM g r x)) ?_ λr aj=>.al aj;refine Tot.count (λs=>s.2) out.length (λs=>∃ k:Nat,k<=out.length/\s.2=(k:Int)/\s.1=out/\∀ (aa:Nat) (h:aa<out.length),aa<k->vM g out out[aa]) ⟨0,Nat.zero_le _,rfl,rfl,λaa _ ag=>absurd ag (Nat.not_lt_zero _)⟩ (by show (out.length:Int) - 0<_; omega) λs ax=>?_;obtain ⟨cur,kc⟩:=s;obtain ⟨k,hk,rfl,rfl,yL⟩:=ax;simp only;rw [xP k (by omega)];refine Tot.bD (λaN=>?_) (λdY=>.al ⟨aQ,fz,λ_ h=>h,λ_ x j=>?_⟩)
   ·have aN:k<cur.length:=by omega
    rw [ep aN];have u9:=fz _ (List.getElem_mem aN);have Js:∀ P:Item->Prop,P cur[k]->∀ (aa:Nat) (h:aa<cur.length),aa=k->P cur[aa]:=λP cV aa h e=>by subst e; exact cV
    generalize j:cur[k]=x at *;have Wc:=Pd aI x;have hw:aR (eL g x - 1000)=eL g x - 1000:=by rw [cD]; omega
    simp only [Option.bind_some,Hq g x,hw];refine (.aB (Ξ:=λr:List Item=>fo fT r/\(∀ x∈r,j5 g l x)/\(∀ x∈cur,x∈r)/\vM g r x) ?_ λr aj=>?_)
    ·refine Tot.count (λs=>s.2) g.a7.length (λs=>∃ i:Nat,i<=g.a7.length/\s.2=(i:Int)/\fo fT s.1/\(∀ x∈s.1,j5 g l x)/\(∀ x∈cur,x∈s.1)/\∀ (p:Nat) (q:Prod),p<i->g.a7[p]?=some q->q.Left=eL g x - 1000->(⟨p,0⟩:Item)∈s.1) ⟨0,Nat.zero_le _,rfl,aQ,fz,λ_ h=>h,λp q av=>absurd av (Nat.not_lt_zero _)⟩ (by show (g.a7.length:Int) - 0<_; omega) λs ax=>?_;obtain ⟨o,wX⟩:=s;obtain ⟨i,hi,rfl,rj,BB,EM,uT⟩:=ax;simp only at rj BB EM uT ⊢;rw [xP i (by omega)];refine .aB (Ξ:=λc:Bool=>(c=true->i<g.a7.length/\1000<=eL g x)/\(c=false->g.a7.length<=i\/eL g x<1000)) (Tot.bD (λh=>.al ⟨λaL=>⟨by omega,of_decide_eq_true aL⟩,λaL=>.inr (by have:=of_decide_eq_false aL; omega)⟩) (λh=>.al ⟨λaL=>(by cases aL),λ_=>.inl (by omega)⟩)) λc J=>Tot.bB (λh=>?_) (λh=>.al ⟨rj,BB,EM,λaH p q av=>?_⟩)
     ·obtain ⟨wE,aH⟩:=J.1 h;have BD:g.a7[i]?=some g.a7[i]:=List.getElem?_eq_getElem wE;rw [ep wE];refine .aB (Ξ:=λo:List Item=>fo fT o/\(∀ x∈o,j5 g l x)/\(∀ x∈cur,x∈o)/\∀ (p:Nat) (q:Prod),p<i+1->g.a7[p]?=some q->q.Left=eL g x - 1000->(⟨p,0⟩:Item)∈o) ?_ λo aM=>.al ⟨⟨i+1,by omega,rfl,aM⟩,by show (i:Int)<((i+1:Nat):Int); omega,by show ((i+1:Nat):Int)<=_; omega⟩;refine Tot.sm (.aB (Ξ:=λo:List Item=>fo fT o/\(∀ x∈o,j5 g l x)/\(∀ x∈cur,x∈o)/\∀ (p:Nat) (q:Prod),p<i+1->g.a7[p]?=some q->q.Left=eL g x - 1000->(⟨p,0⟩:Item)∈o) (Tot.bD (λh=>?_) (λh=>.al ⟨rj,BB,EM,λp q av oa ba=>?_⟩)) λo aM=>.al aM)
      ·have V6:=r3 aI rj λx j=>(BB x j).gL;refine .aB (He o ⟨(i:Nat),0⟩ rj (by omega)) λr aj=>.al ⟨aj.1,λy ai=>?_,λy ai=>(aj.2 y).2 (.inl (EM y ai)),λp q av oa ba=>?_⟩
       ·rcases (aj.2 y).1 ai with ai | rfl
        ·exact BB y ai
        ·exact .step u9 BD (by omega) aH
       ·by_cases bO:p=i
        ·subst bO; exact (aj.2 _).2 (.inr rfl)
        ·exact (aj.2 _).2 (.inl (uT p q (by omega) oa ba))
      ·by_cases bO:p=i
       ·subst bO;rw [BD] at oa; cases oa;exact absurd ba h
       ·exact uT p q (by omega) oa ba
     ·rcases J.2 h with h1 | h1
      ·exact uT p q (by have:=(List.getElem?_eq_some_iff.1 av).1; omega) av
      ·omega
    ·obtain ⟨N6,Wp,lH,Wr⟩:=aj;have hle:cur.length<=r.length:=za (aQ.nd rH) lH;refine Tot.pq (λI6=>.al ⟨N6,Wp,lH,λe=>absurd (by omega) I6⟩) (λheq=>?_);have uU:r.length=cur.length:=by omega
     have Ws:r=cur:=by
      have pJ:∀ y,y∈cur↔y∈r:=by
       intro y;refine ⟨lH y,λai=>Classical.byContradiction λaz=>?_⟩;have:=za (l:=y::cur) (m:=r) (List.nodup_cons.2 ⟨az,aQ.nd rH⟩) λz aS=>by
        rcases List.mem_cons.1 aS with rfl | aS
        ·exact ai
        ·exact lH z aS
       simp at this;omega
      exact (fo.uniq rH aQ N6 pJ).symm
     subst Ws;refine .al ⟨⟨k+1,by omega,rfl,rfl,λaa ag fY=>?_⟩,by show (k:Int)<((k+1:Nat):Int); omega,by show ((k+1:Nat):Int)<=_; omega⟩;by_cases bO:aa=k
     ·exact Js (vM g r) Wr aa ag bO
     ·exact yL aa ag (by omega)
   ·obtain ⟨aa,ag,rfl⟩:=List.mem_iff_getElem.1 j;exact yL aa ag (by omega)
  ·obtain ⟨h1,af,aJ,bo,cu⟩:=ag;have hle:out.length<=aa.1.length:=za (aQ.nd rH) bo;have eW:=r3 aI af λx j=>(aJ x j).gL;refine .al ⟨⟨af,aJ,λx j hi=>bo x (qk x j hi),λe=>cu (by show aa.1.length=_; have e:aa.2=(aa.1.length:Int):=e; omega)⟩,?_⟩;show 2 * (1000 - aa.1.length)+(if aa.2=(aa.1.length:Int) then 0 else 1)<2 * (1000 - out.length)+(if n=(out.length:Int) then 0 else 1)
   rw [if_neg cU];split
   ·omega
   ·have:aa.1.length≠out.length:=λe=>by omega
    omega
 ·have J:=h3 he
  induction j with
  | base h hi=>exact qk _ h hi
  | @step x q p h av az aH aK=>exact J x aK aH p q av (by omega)
def DM (g:bx) (l:List Item) (a:Int) (y:Item):Prop:=∃ x,j5 g l x/\eL g x=a/\0<=a/\y=⟨x.Prod,x.cP+1⟩
theorem OD {g:bx}(aI:fV g) {x:Item}(h:0<=eL g x):gL g ⟨x.Prod,x.cP+1⟩:=by
 obtain ⟨_,_,q,ba,ax⟩:=Ft aI h;obtain ⟨aH,h1,_⟩:=mA ax;exact ⟨q,ba,by show 0<=x.cP+1; omega,by show x.cP+1<=_; omega⟩
theorem Xy {g:bx}(aI:fV g) {x:Item}(h:gL g x):0<=x.cP/\x.cP<=8:=by
 obtain ⟨q,ba,aH,h1⟩:=h;have:=aI.aF q (mA ba).2.2;omega
theorem DM.gL {g:bx}(aI:fV g) {l:List Item}{a:Int}{y:Item}(h:DM g l a y):gL g y:=by
 obtain ⟨x,_,h1,af,rfl⟩:=h;exact OD aI (by omega)
theorem Sn (g:bx) (aI:fV g) (l:List Item) (a:Int) (ah:l.length<=1000000):Tot (CT g l a) λr=>fo fT r/\∀ y,y∈r↔DM g l a y:=by
 unfold CT;refine .aB (D5 g aI l ah) λc J=>.aB (Ξ:=λr=>fo fT r/\∀ y,y∈r↔DM g l a y) ?_ λr aj=>.al aj;have h3:=r3 aI J.1 λx j=>((J.2 x).1 j).gL;refine Tot.count (λs=>s.2) c.length (λs=>∃ k:Nat,k<=c.length/\s.2=(k:Int)/\fo fT s.1/\∀ y,y∈s.1↔∃ x∈c.take k,eL g x=a/\0<=a/\y=⟨x.Prod,x.cP+1⟩) ⟨0,Nat.zero_le _,rfl,List.Pairwise.nil,λy=>by simp⟩ (by show (c.length:Int) - 0<_; omega) λs ax=>?_;obtain ⟨o,kc⟩:=s;obtain ⟨k,hk,rfl,rj,wJ⟩:=ax;simp only at rj wJ ⊢;rw [xP k (by omega)];refine Tot.bD (λaN=>?_) (λdY=>.al ⟨rj,λy=>?_⟩)
 ·have aN:k<c.length:=by omega
  have Xc:=((J.2 _).1 (List.getElem_mem aN)).gL;have hK:c.take (k+1)=c.take k++[c[k]]:=p6 aN;rw [ep aN];generalize c[k]=x at *;have aO:=Xy aI Xc;have hw:aR (x.cP+1)=x.cP+1:=by rw [cD]; omega
  refine .aB (Ξ:=λo:List Item=>fo fT o/\∀ y,y∈o↔∃ x∈c.take (k+1),eL g x=a/\0<=a/\y=⟨x.Prod,x.cP+1⟩) ?_ λo aM=>.al ⟨⟨k+1,by omega,rfl,aM⟩,by show (k:Int)<((k+1:Nat):Int); omega,by show ((k+1:Nat):Int)<=_; omega⟩;have pJ:∀ y,(∃ z∈c.take (k+1),eL g z=a/\0<=a/\y=(⟨z.Prod,z.cP+1⟩:Item))↔(y∈o\/(eL g x=a/\0<=a/\y=⟨x.Prod,x.cP+1⟩)):=by
   intro y;rw [wJ y,hK];constructor
   ·rintro ⟨z,aS,h⟩;rcases List.mem_append.1 aS with aS | aS
    ·exact .inl ⟨z,aS,h⟩
    ·rw [List.mem_singleton.1 aS] at h; exact .inr h
   ·rintro (⟨z,aS,h⟩ | h)
    ·exact ⟨z,by simp [aS],h⟩
    ·exact ⟨x,by simp,h⟩
  simp only [Option.bind_some,Hq g x,hw];refine (.aB (Ξ:=λb:Bool=>b=decide (0<=eL g x/\eL g x=a)) (Tot.bD (λh=>.al (by simp [h])) (λh=>.al (by simp [h]))) λb au=>?_);subst au;refine .aB (Ξ:=λo:List Item=>fo fT o/\∀ y,y∈o↔∃ x∈c.take (k+1),eL g x=a/\0<=a/\y=⟨x.Prod,x.cP+1⟩) (Tot.bD (λh=>?_) (λh=>.al ⟨rj,λy=>?_⟩)) λo aM=>.al aM
  ·have I8:=r3 aI rj λy ai=>by
    obtain ⟨z,_,h1,af,rfl⟩:=(wJ y).1 ai;exact OD aI (by omega)
   refine (.aB (He o _ rj (by omega)) λr aj=>.al ⟨aj.1,λy=>?_⟩);rw [aj.2 y,pJ y];constructor
   ·rintro (h1 | h1)
    ·exact .inl h1
    ·exact .inr ⟨h.2,by omega,h1⟩
   ·rintro (h1 | h1)
    ·exact .inl h1
    ·exact .inr h1.2.2
  ·rw [pJ y];exact ⟨.inl,λaL=>aL.elim id λaL=>absurd ⟨by omega,aL.1⟩ h⟩
 ·have:k=c.length:=by omega
  subst this;rw [List.take_length] at wJ;rw [wJ y];constructor
  ·rintro ⟨x,j,h⟩;exact ⟨x,(J.2 x).1 j,h⟩
  ·rintro ⟨x,j,h⟩;exact ⟨x,(J.2 x).2 j,h⟩
theorem Hs (g:bx) (x:Item):∃ c,xt g x=some c/\(c=true↔gL g x):=by
 unfold xt;by_cases aH:0<=x.Prod
 ·by_cases h1:x.Prod<g.a7.length
  ·obtain ⟨q,ba,_⟩:=kx aH h1;by_cases af:0<=x.cP
   ·refine ⟨decide (x.cP<=(q.eI.length:Int)),by simp [aH,h1,af,ba],?_⟩;rw [decide_eq_true_eq];exact ⟨λh=>⟨q,ba,af,h⟩,λ⟨gn,wM,_,h⟩=>by rw [ba] at wM; cases wM; exact h⟩
   ·exact ⟨false,by simp [aH,h1,af],λh=>(by cases h),λ⟨_,_,h,_⟩=>absurd h af⟩
  ·exact ⟨false,by simp [aH,h1],λh=>(by cases h),λ⟨_,h,_⟩=>absurd (mA h).2.1 h1⟩
 ·exact ⟨false,by simp [aH],λh=>(by cases h),λ⟨_,h,_⟩=>absurd (mA h).1 aH⟩
theorem Tv (g:bx) (x:Item):CZ g x=some (eL g x):=by
 unfold CZ eL;obtain ⟨c,J,hi⟩:=Hs g x;rw [J];simp only [Option.bind_some];cases c with
 | false =>
  have az:¬ gL g x:=λh=>by have:=hi.2 h; cases this
  simp only [Bool.not_false,cond_true,Option.bind_some];cases ba:idx g.a7 x.Prod with
  | none=>rfl
  | some q =>
   have:idx q.eI x.cP=none:=vb (by
    by_cases aH:0<=x.cP
    ·right;by_cases h1:x.cP<=q.eI.length
     ·exact absurd ⟨q,ba,aH,h1⟩ az
     ·omega
    ·left; omega)
   simp [this]
 | true =>
  obtain ⟨q,ba,aH,h1⟩:=hi.1 rfl;simp only [Bool.not_true,cond_false,ba,Option.bind_some];by_cases he:x.cP=q.eI.length
  ·rw [vb (.inr (by omega))];simp [he]
  ·obtain ⟨s,ax,_⟩:=kx (l:=q.eI) (i:=x.cP) aH (by omega);simp [he,ax]
theorem St (a b:Item):∃ v,C0 a b=some v/\(v<0↔fT a b=true):=by
 have Nj:∀ x,zh x=some false:=λx=>by simp [zh]
 have nB:∀ a b:Int,zg a b=some (if a<b then -1 else if b<a then 1 else 0):=by
  intro a b;unfold zg;rw [Nj,Nj];by_cases h1:a<b
  ·simp [h1]
  ·by_cases af:b<a <;> simp [h1,af]
 have Ut:∀ a b:Int,Cy [a,b]=some (if a=0 then b else a):=by
  intro a b;unfold Cy;have gy:∀ (f:Int->Option (Int ⊕ (Unit ⊕ Int))),f 0=(if a=0 then some (.inl 1) else some (.inr (.inr a)))->f 1=(if b=0 then some (.inl 2) else some (.inr (.inr b)))->f 2=some (.inr (.inl ()))->b0 f 0=some (if a=0 then (if b=0 then .inl () else .inr b) else .inr a):=by
   intro f x y z;show iter f (999999999999999997+1+1+1) _=_;by_cases aQ:a=0
   ·by_cases au:b=0 <;> simp only [iter,x,y,z,aQ,au,if_true,if_false]
   ·simp only [iter,x,aQ,if_false]
  rw [gy _ ?_ ?_ ?_]
  ·by_cases aQ:a=0
   ·by_cases au:b=0 <;> simp [aQ,au]
   ·simp [aQ]
  ·show (bif decide ((0:Int)<2) then _ else _)=_;have e:idx [a,b] 0=some a:=rfl;simp only [e,Option.bind_some];by_cases aQ:a=0 <;> simp [aQ];rfl
  ·show (bif decide ((1:Int)<2) then _ else _)=_;have e:idx [a,b] 1=some b:=rfl;simp only [e,Option.bind_some];by_cases au:b=0 <;> simp [au];rfl
  ·rfl
 unfold C0;simp only [nB,Option.bind_some,Ut];refine ⟨_,rfl,?_⟩;rw [Fc];by_cases h1:a.Prod<b.Prod
 ·simp [h1]
 ·by_cases af:b.Prod<a.Prod
  ·simp [h1,af]; omega
  ·have:a.Prod=b.Prod:=by omega
   by_cases aJ:a.cP<b.cP
   ·simp [this,aJ]
   ·by_cases bo:b.cP<a.cP <;> simp [this,aJ,bo]
theorem Sm (g:bx) (aI:fV g) (l:List Item) (ah:l.length<=1000000):Tot (xn g l) λr=>fo fT r/\∀ x,x∈r↔j5 g l x:=by
 have yW:=aI.lK;have kQ:=aI.c_;unfold xn;refine .aB (Ξ:=λout=>out.length<=l.length/\∀ x,x∈out↔x∈l/\gL g x) ?_ λx2 af=>?_
 ·refine Tot.count (λs=>s.2) l.length (λs=>∃ k:Nat,k<=l.length/\s.2=(k:Int)/\s.1.length<=k/\∀ x,x∈s.1↔x∈l.take k/\gL g x) ⟨0,Nat.zero_le _,rfl,Nat.le_refl 0,λx=>by simp⟩ (by show (l.length:Int) - 0<_; omega) λs ax=>?_;obtain ⟨out,kc⟩:=s;obtain ⟨k,hk,rfl,hlen,hm⟩:=ax;simp only at hlen hm ⊢;rw [xP k (by omega)];refine Tot.bD (λaN=>?_) (λdY=>.al ?_)
  ·have aN:k<l.length:=by omega
   rw [ep aN];refine .aB (Ξ:=λo:List Item=>o.length<=k+1/\∀ x,x∈o↔x∈l.take (k+1)/\gL g x) ?_ λo aM=>.al ⟨⟨k+1,by omega,rfl,aM⟩,by show (k:Int)<((k+1:Nat):Int); omega,by show ((k+1:Nat):Int)<=_; omega⟩;obtain ⟨c,J,hi⟩:=Hs g l[k];rw [p6 aN];refine Tot.sm ?_;rw [J];refine Tot.sm (.aB (Ξ:=λo:List Item=>o.length<=k+1/\∀ x,x∈o↔x∈l.take k++[l[k]]/\gL g x) (Tot.bB (λh=>?_) (λh=>.al ⟨by omega,λx=>?_⟩)) λo aM=>.al aM)
   ·refine .aB (Ξ:=λ_=>True) (Tot.ap (by simp [lim]; omega) trivial) λ_ _=>.al ⟨by simp; omega,λx=>?_⟩;rw [List.mem_append,List.mem_append,List.mem_singleton,hm x];constructor
    ·rintro (⟨h1,af⟩ | rfl)
     ·exact ⟨.inl h1,af⟩
     ·exact ⟨.inr rfl,hi.1 h⟩
    ·rintro ⟨h1 | rfl,af⟩
     ·exact .inl ⟨h1,af⟩
     ·exact .inr rfl
   ·rw [List.mem_append,List.mem_singleton,hm x];constructor
    ·rintro ⟨h1,af⟩;exact ⟨.inl h1,af⟩
    ·rintro ⟨h1 | rfl,af⟩
     ·exact ⟨h1,af⟩
     ·rw [hi.2 af] at h; cases h
  ·have:k=l.length:=by omega
   subst this;rw [List.take_length] at hm;exact ⟨hlen,hm⟩
 obtain ⟨pG,I1⟩:=af;refine .aB (Ξ:=λm=>m=List.replicate g.bA.length false) (Tot.mk (by simp [lim]; omega) (by simp)) λdt uF=>?_;subst uF
 -- the worklist
 refine .aB (Ξ:=λout:List Item=>out.length<=2000000/\∀ x,x∈out↔j5 g l x) ?_ λout m_=>?_
 ·refine Tot.loop (λs=>∃ k:Nat,k<=s.1.length/\s.2.2=(k:Int)/\s.2.1.length=g.bA.length/\s.1.length<=l.length+60 * gI s.2.1/\(∀ x∈s.1,j5 g l x)/\(∀ x∈l,gL g x->x∈s.1)/\(∀ aa x,aa<k->s.1[aa]?=some x->1000<=eL g x->s.2.1.getD (eL g x - 1000).toNat false=true)/\∀ (p:Nat) (q:Prod),g.a7[p]?=some q->s.2.1.getD q.Left.toNat false=true->(⟨p,0⟩:Item)∈s.1)
   (λs=>l.length+2000 - s.2.2.toNat) ⟨0,Nat.zero_le _,rfl,List.length_replicate ..,by show x2.length<=_; omega,λx j=>.base ((I1 x).1 j).1 ((I1 x).1 j).2,λx j hi=>(I1 x).2 ⟨j,hi⟩,λaa x ag=>absurd ag (Nat.not_lt_zero _),λp q av h=>?_⟩ (by show l.length+2000 - _<1000000000000000000; omega) λs ax=>?_
  ·rw [List.getD_eq_getElem?_getD,List.getElem?_replicate] at h
   split at h <;> simp at h
  obtain ⟨out,met,kc⟩:=s;obtain ⟨k,hk,hS,sl,hlen,fz,qk,yL,EI⟩:=ax;simp only at hk hS sl hlen fz qk yL EI ⊢;subst hS;have h3:=Hj met;rw [xP k (by omega)];refine Tot.bD (λaN=>?_) (λdY=>.al ⟨by omega,λx=>⟨fz x,λj=>?_⟩⟩)
  ·have aN:k<out.length:=by omega
   rw [ep aN];have u9:=fz _ (List.getElem_mem aN);generalize j:out[k]=x at *;have pS:out[k]?=some x:=by rw [List.getElem?_eq_getElem aN,j]
   have Wc:=Pd aI x;have hw:aR (eL g x - 1000)=eL g x - 1000:=by rw [cD]; omega
   -- what a round comes to
   refine .aB (Ξ:=λaa:List Item × List Bool=>∃ e,aa.1=out++e/\aa.2.length=g.bA.length/\aa.1.length<=l.length+60 * gI aa.2/\(∀ x∈e,j5 g l x)/\(∀ i,met.getD i false=true->aa.2.getD i false=true)/\(1000<=eL g x->aa.2.getD (eL g x - 1000).toNat false=true)/\∀ (p:Nat) (q:Prod),g.a7[p]?=some q->aa.2.getD q.Left.toNat false=true->(⟨p,0⟩:Item)∈aa.1) ?_ λaa ag=>?_
   ·refine Tot.sm ?_;rw [Tv g x];refine Tot.sm ?_;rw [hw];have N2:1000<=eL g x->idx met (eL g x - 1000)=some (met.getD (eL g x - 1000).toNat false):=by
     intro h;obtain ⟨_,ax,_⟩:=Ft aI (x:=x) (by omega);have ak:=aI.j2;have:(eL g x - 1000).toNat<met.length:=by rcases ax with ax | ax <;> omega
     unfold idx;rw [if_pos (by omega),List.getD_eq_getElem?_getD,List.getElem?_eq_getElem this]; rfl
    refine .aB (Ξ:=λc:Bool=>(c=true->eL g x<1000\/met.getD (eL g x - 1000).toNat false=true)/\(c=false->1000<=eL g x/\met.getD (eL g x - 1000).toNat false=false)) (Tot.bD (λh=>.al ⟨λ_=>.inl (by omega),λh=>(by cases h)⟩) (λh=>?_)) λc J=>Tot.bB (λh=>.al ⟨[],by simp,sl,hlen,λx j=>by simp at j,λ_ h=>h,λh1=>(J.1 h).resolve_left (by omega),EI⟩) (λh=>?_)
    ·rw [N2 (by omega)];exact Tot.sm (.al ⟨λh=>.inr h,λaL=>⟨by omega,aL⟩⟩)
    obtain ⟨aH,aU⟩:=J.2 h;rw [N2 aH];have pH:(eL g x - 1000).toNat<met.length:=by
     obtain ⟨_,ax,_⟩:=Ft aI (x:=x) (by omega);have ak:=aI.j2;rcases ax with ax | ax <;> omega
    refine Tot.sm (.aB (Ξ:=λo:List Item=>∃ e,o=out++e/\e.length<=g.a7.length/\(∀ x∈e,j5 g l x)/\∀ (p:Nat) (q:Prod),g.a7[p]?=some q->q.Left=eL g x - 1000->(⟨p,0⟩:Item)∈e) ?_ λo aM=>?_)
    ·refine Tot.count (λs=>s.2) g.a7.length (λs=>∃ k:Nat,k<=g.a7.length/\s.2=(k:Int)/\∃ e,s.1=out++e/\e.length<=k/\(∀ x∈e,j5 g l x)/\∀ (p:Nat) (q:Prod),p<k->g.a7[p]?=some q->q.Left=eL g x - 1000->(⟨p,0⟩:Item)∈e) ⟨0,Nat.zero_le _,rfl,[],by simp,Nat.le_refl 0,λx j=>by simp at j,λp q av=>absurd av (Nat.not_lt_zero _)⟩ (by show (g.a7.length:Int) - 0<_; omega) λs ax=>?_;obtain ⟨o,wX⟩:=s;obtain ⟨i,hi,rfl,e,rfl,VN,Bm,Bn⟩:=ax;simp only;rw [xP i (by omega)];refine Tot.bD (λwE=>?_) (λdY=>.al ⟨e,rfl,by omega,Bm,λp q av=>Bn p q ?_ av⟩)
     ·have wE:i<g.a7.length:=by omega
      have BD:g.a7[i]?=some g.a7[i]:=List.getElem?_eq_getElem wE;rw [ep wE];refine .aB (Ξ:=λo:List Item=>∃ e,o=out++e/\e.length<=i+1/\(∀ x∈e,j5 g l x)/\∀ (p:Nat) (q:Prod),p<i+1->g.a7[p]?=some q->q.Left=eL g x - 1000->(⟨p,0⟩:Item)∈e) ?_ λo aM=>.al ⟨⟨i+1,by omega,rfl,aM⟩,by show (i:Int)<((i+1:Nat):Int); omega,by show ((i+1:Nat):Int)<=_; omega⟩;refine Tot.sm (.aB (Ξ:=λo:List Item=>∃ e,o=out++e/\e.length<=i+1/\(∀ x∈e,j5 g l x)/\∀ (p:Nat) (q:Prod),p<i+1->g.a7[p]?=some q->q.Left=eL g x - 1000->(⟨p,0⟩:Item)∈e) (Tot.bD (λh=>?_) (λh=>.al ⟨e,rfl,by omega,Bm,λp q av oa ba=>?_⟩)) λo aM=>.al aM)
      ·refine .aB (Ξ:=λ_=>True) (Tot.ap (by simp [lim]; omega) trivial) λ_ _=>.al ⟨e++[⟨i,0⟩],by simp,by simp; omega,λy ai=>?_,λp q av oa ba=>?_⟩
       ·rcases List.mem_append.1 ai with ai | ai
        ·exact Bm y ai
        ·rw [List.mem_singleton.1 ai];exact .step u9 BD (by omega) aH
       ·by_cases bO:p=i
        ·subst bO; simp
        ·have:=Bn p q (by omega) oa ba;simp [this]
      ·by_cases bO:p=i
       ·subst bO;rw [BD] at oa; cases oa;exact absurd ba h
       ·exact Bn p q (by omega) oa ba
     ·have:=(List.getElem?_eq_some_iff.1 av).1;omega
    ·obtain ⟨e,rfl,VN,Bm,Bn⟩:=aM;have gl:=ux met (eL g x - 1000).toNat pH aU;have IJ:∀ i,(met.set (eL g x - 1000).toNat true).getD i false=true↔(i=(eL g x - 1000).toNat\/met.getD i false=true):=by
      intro i;rw [List.getD_eq_getElem?_getD,List.getElem?_set];by_cases bO:(eL g x - 1000).toNat=i
      ·subst bO; simp [pH]
      ·simp [bO,Ne.symm bO,List.getD_eq_getElem?_getD]
     refine .al ⟨e,rfl,by show (met.set _ _).length=_; rw [List.length_set]; exact sl,by show (out++e).length<=_+60 * gI (met.set _ _); rw [gl,List.length_append]; omega,Bm,λi hi=>(IJ i).2 (.inr hi),λ_=>(IJ _).2 (.inl rfl),λp q oa ba=>?_⟩;rcases (IJ _).1 ba with h1 | h1
     ·have Ja:=(aI.gN q (List.mem_of_getElem? oa)).left;exact List.mem_append_right _ (Bn p q oa (by omega))
     ·exact List.mem_append_left _ (EI p q oa h1)
   ·obtain ⟨e,he,h1,af,aJ,bo,cu,dC⟩:=ag;refine .al ⟨⟨k+1,by show _<=aa.1.length; rw [he,List.length_append]; omega,rfl,h1,af,λy ai=>?_,λy ai hi=>by show y∈aa.1; rw [he]; exact List.mem_append_left _ (qk y ai hi),λi y hi ai aH=>?_,dC⟩,?_⟩
    ·have ai:y∈out++e:=he ▸ ai;rcases List.mem_append.1 ai with ai | ai
     ·exact fz y ai
     ·exact aJ y ai
    ·have EW:(out++e)[i]?=some y:=he ▸ ai;clear ai;by_cases bO:i=k
     ·rw [bO,List.getElem?_append_left aN,pS] at EW;cases EW;exact cu aH
     ·rw [List.getElem?_append_left (by omega)] at EW;exact bo _ (yL i y (by omega) EW aH)
    ·show l.length+2000 - ((k+1:Nat):Int).toNat<l.length+2000 - ((k:Nat):Int).toNat;have:=Hj met;omega
  ·have dc:k=out.length:=by omega
   induction j with
   | base h hi=>exact qk _ h hi
   | @step x q p h av az aH aK =>
    obtain ⟨aa,ag,e⟩:=List.mem_iff_getElem.1 aK;have:=yL aa x (by omega) (by rw [List.getElem?_eq_getElem ag,e]) aH;have b7:(1000+q.Left - 1000).toNat=q.Left.toNat:=by omega
    rw [az,b7] at this;exact EI p q av this
 obtain ⟨I8,wJ⟩:=m_;rw [Zo rH (λa _ b _=>St a b) (by omega)];refine Tot.sm ?_;have wL:=(y5 fT out).length_eq;have:yw (jZ fT out)=some (dedup (jZ fT out)):=by unfold yw; rw [if_pos (by omega)]
 rw [this];refine Tot.sm (.al ?_);obtain ⟨h1,af⟩:=Tm rH out;exact ⟨h1,λx=>(af x).trans (wJ x)⟩
theorem Y5 (g:bx) (aI:fV g) (l:List Item) (ah:l.length<=1000000):∃ r,xn g l=some r/\sH g l=some r/\r.length<=540/\∀ x∈r,gL g x:=by
 obtain ⟨r,aj,h1,af⟩:=Sm g aI l ah;obtain ⟨dk,ee,kr,HJ⟩:=D5 g aI l ah;have:r=dk:=h1.uniq rH kr λx=>(af x).trans (HJ x).symm;subst this;exact ⟨r,aj,ee,r3 aI h1 λx j=>((af x).1 j).gL,λx j=>((af x).1 j).gL⟩
open Go Go.Own
theorem h9.XR {m:fh}{T L:Nat}(h:h9 m T L):kK m (3+T) m.bX.length 0 0 :=
 ⟨h.gf,h.lo,h.hi,by have:=h.ty; omega,rfl,by rw [h.gT]; decide,by rw [h.gN]; exact Nat.le_refl 0,by rw [h.gN]; exact λp av=>absurd av (by simp),h.lvl,h.jn⟩
theorem t63 (s:Source) (au:qW s):Tot (vu s) λr=>r.2.1=0->fV r.1:=by
 unfold vu;refine .aB (t86 s au) λc J=>Tot.bB (λ_=>.al λh=>absurd h (by decide)) (λig=>?_);have ok:LF s:=J (by simpa using ig);refine .aB (Tot.mk (by decide) (rfl:List.replicate (3:Int).toNat false=List.replicate (3:Int).toNat false)) λaZ lb=>?_;have VH:=au.yx;have BG:=au.aF
 -- declarations
 refine Tot.aB (Ξ:=λr=>h9 r.1 (1001 * 1000) 0) ?_ λcd cu=>?_
 ·refine Tot.count (λz=>z.2.2) s.Decls.length (λz=>0<=z.2.2/\z.2.2<=s.Decls.length/\h9 z.1 (1001 * z.2.2.toNat) 0/\z.1.ca<=z.2.2) ⟨Int.le_refl 0,by show (0:Int)<=_; omega,⟨by show aZ.length=3; rw [<- lb]; rfl,Nat.le_refl 3,Nat.le_refl 3,Nat.le_refl 0,Nat.le_refl 0,rfl,rfl,Int.le_refl 0,by show ∀ t∈[_,_,_],0<=Tok.Level t; simp⟩,Int.le_refl 0⟩ (by show (s.Decls.length:Int) - 0<_; omega) λz aS=>?_;obtain ⟨m,st,i⟩:=z;obtain ⟨aH,h1,hm,mZ⟩:=aS;simp only at aH h1 hm mZ ⊢;have hw:aR (i+1)=i+1:=by rw [cD]; omega
  rw [hw];have yS:=hm.lvl;refine Tot.bD (λaN=>?_) (λ_=>.al (hm.mono (by omega) (Nat.le_refl _)));refine .aB (Tot.gM (Φ:=λy=>y∈s.Decls) aH aN λy _ ai=>ai) λd aO=>?_;have r':=au.decls d aO;have Bk:=r'.n;refine .aB (Ξ:=λ_=>True) (Tot.bB (λ_=>.al trivial) (λ_=>.al trivial)) λaaA _=>.aB (Ξ:=λaa=>0<=aa/\aa<=i+1) (Tot.bB (λ_=>.al (by rw [cD]; omega)) (λ_=>.al (by omega))) λjF uF=>?_;refine Tot.aB (Ξ:=λr=>h9 r.1 (1001 * i.toNat+1000) 0/\r.1.ca<=i+1) ?_ λdx r9=>.al ⟨⟨?_,?_,?_,?_⟩,?_,?_⟩
  ·refine Tot.count (λz=>z.2.2) d.er.length (λz=>0<=z.2.2/\z.2.2<=d.er.length/\h9 z.1 (1001 * i.toNat+z.2.2.toNat) 0/\z.1.ca<=i+1) ⟨Int.le_refl 0,by show (0:Int)<=_; omega,⟨hm.gf,hm.lo,hm.hi,hm.ty,hm.e6,hm.gN,hm.gT,uF.1,hm.jn⟩,uF.2⟩ (by show (d.er.length:Int) - 0<_; omega) λz aS=>?_;obtain ⟨m,st,k⟩:=z;obtain ⟨g0,g1,hm,mZ⟩:=aS;simp only at g0 g1 hm mZ ⊢;have rn:aR (k+1)=k+1:=by rw [cD]; omega
   rw [rn];refine Tot.bD (λwF=>?_) (λ_=>.al ⟨hm.mono (by omega) (Nat.le_refl _),mZ⟩);have E3:Tot (idx d.er k) λy=>y∈d.er:=Tot.gM g0 wF λy _ ai=>ai;refine Tot.aB (Ξ:=λaa=>h9 aa.1 (1001 * i.toNat+k.toNat+1) 0/\aa.1.ca<=i+1) ?_ λaa ag=>.al ⟨⟨?_,?_,?_,ag.2⟩,?_,?_⟩
   ·refine Tot.bB (λ_=>?_) (λ_=>?_)
    ·refine .aB E3 λx j=>.aB (t87 m d x hm.gf (by have:=hm.hi; omega) (by have:=hm.ty; omega) (ok.decls d aO x j)) λbm aI=>.al ⟨hm.grow aI,by show bm.ca<=_; rw [aI.lvl]; exact mZ⟩
    ·refine Tot.aB (Ξ:=λaa=>h9 aa (1001 * i.toNat+k.toNat+1) 0/\aa.ca<=i+1) ?_ λaa ag=>.aB E3 λ_ _=>.al ag;refine Tot.bB (λ_=>?_) (λ_=>.al ⟨hm.mono (by omega) (Nat.le_refl _),mZ⟩);exact .aB E3 λ_ _=>.aB E3 λ_ _=>.aB (t88 m _ _) λbm hT=>.al ⟨(hm.same hT.1).mono (by omega) (Nat.le_refl _),by rw [hT.1.jn]; exact mZ⟩
   ·show 0<=k+1; omega
   ·show k+1<=(d.er.length:Int); omega
   ·show h9 aa.1 (1001 * i.toNat+(k+1).toNat) 0;exact ag.1.mono (by omega) (Nat.le_refl _)
   ·show k<k+1; omega
   ·show k+1<=(d.er.length:Int); omega
  ·show 0<=i+1; omega
  ·show i+1<=(s.Decls.length:Int); omega
  ·show h9 dx.1 (1001 * (i+1).toNat) 0;exact r9.1.mono (by omega) (Nat.le_refl _)
  ·exact r9.2
  ·show i<i+1; omega
  ·show i+1<=(s.Decls.length:Int); omega
 -- what stands on the left
 refine Tot.aB (Ξ:=λr=>h9 r (1001 * 1000) 1000) ?_ λcz HK=>?_
 ·refine Tot.count (λz=>z.2) s.dB.length (λz=>0<=z.2/\z.2<=s.dB.length/\h9 z.1 (1001 * 1000) z.2.toNat) ⟨Int.le_refl 0,by show (0:Int)<=_; omega,cu⟩ (by show (s.dB.length:Int) - 0<_; omega) λz aS=>?_;obtain ⟨m,i⟩:=z;obtain ⟨aH,h1,hm⟩:=aS;simp only at aH h1 hm ⊢;have hw:aR (i+1)=i+1:=by rw [cD]; omega
  rw [hw];refine Tot.bD (λaN=>?_) (λ_=>.al (hm.mono (Nat.le_refl _) (by omega)));have uO:=hm.hi;have uP:=hm.e6;refine Tot.aB (Ξ:=λaa=>h9 aa (1001 * 1000) (i.toNat+1)) ?_ λaa ag=>.al ⟨⟨?_,?_,?_⟩,?_,?_⟩
  ·refine .aB (Tot.gM (Φ:=λ_=>True) aH aN λy _ ai=>trivial) λr aj=>.aB (t89 m _ (by simp only [kN]; omega)) λt _=>?_;refine Tot.aB (Ξ:=λaa=>h9 aa (1001 * 1000) i.toNat) ?_ λij oO=>?_
   ·exact Tot.bB (λ_=>.aB (t88 m _ _) λbm hT=>.al (hm.same hT.1)) (λ_=>.al hm)
   ·have adb:=oO.e6;refine .aB (t90 ij _ (by simp only [kN]; omega)) λk _=>?_;refine Tot.aB (Ξ:=λl=>l.length<=i.toNat+1) ?_ λl ah=>.al ⟨oO.gf,oO.lo,oO.hi,oO.ty,ah,oO.gN,oO.gT,oO.lvl,oO.jn⟩;refine Tot.bB (λ_=>?_) (λ_=>.al (by omega));exact .aB (Ξ:=λ_=>True) (Tot.ap (by simp [lim]; omega) trivial) λ_ _=>.al (by simp; omega)
  ·show 0<=i+1; omega
  ·show i+1<=(s.dB.length:Int); omega
  ·show h9 aa (1001 * 1000) (i+1).toNat;exact ag.mono (Nat.le_refl _) (by omega)
  ·show i<i+1; omega
  ·show i+1<=(s.dB.length:Int); omega
 -- types and starts
 refine Tot.aB (Ξ:=λr=>h9 r (1001 * 1000) 1000) ?_ λgb tj=>?_
 ·refine Tot.count (λz=>z.2) s.Decls.length (λz=>0<=z.2/\z.2<=s.Decls.length/\h9 z.1 (1001 * 1000) 1000) ⟨Int.le_refl 0,by show (0:Int)<=_; omega,HK⟩ (by show (s.Decls.length:Int) - 0<_; omega) λz aS=>?_;obtain ⟨m,i⟩:=z;obtain ⟨aH,h1,hm⟩:=aS;simp only at aH h1 hm ⊢;have hw:aR (i+1)=i+1:=by rw [cD]; omega
  rw [hw];refine Tot.bD (λaN=>?_) (λ_=>.al hm);refine Tot.aB (Ξ:=λr=>h9 r (1001 * 1000) 1000) ?_ λmc Ug=>.al ⟨⟨?_,?_,Ug⟩,?_,?_⟩
  ·have mr:i.toNat<s.Decls.length:=by omega
   have hi:idx s.Decls i=some s.Decls[i.toNat]:=by simp [idx,aH,mr]
   rw [hi];generalize aO:s.Decls[i.toNat]=d;have jz:d∈s.Decls:=by rw [<- aO]; exact List.getElem_mem mr
   have Bk:=(au.decls d jz).n;refine Tot.count (λz=>z.2) d.er.length (λz=>0<=z.2/\z.2<=d.er.length/\h9 z.1 (1001 * 1000) 1000) ⟨Int.le_refl 0,by show (0:Int)<=_; omega,hm⟩ (by show (d.er.length:Int) - 0<_; omega) λz aS=>?_;obtain ⟨m,k⟩:=z;obtain ⟨g0,g1,hm⟩:=aS;simp only at g0 g1 hm ⊢;have rn:aR (k+1)=k+1:=by rw [cD]; omega
   rw [rn];refine Tot.sm (Tot.bD (λwF=>?_) (λ_=>.al hm));have uP:=hm.e6;refine Tot.aB (Ξ:=λaa=>h9 aa (1001 * 1000) 1000) ?_ λaa ag=>.al ⟨⟨?_,?_,ag⟩,?_,?_⟩
   ·refine Tot.sm (.aB (Tot.gM (Φ:=λ_=>True) g0 wF λ_ _ _=>trivial) λx _=>?_);refine .aB (Ξ:=λ_=>True) (Tot.sm (Tot.bB (λ_=>.aB (t90 m _ (by simp only [kN]; omega)) λ_ _=>.al trivial) (λ_=>.al trivial))) λc _=>?_;refine Tot.aB (Ξ:=λaa=>h9 aa (1001 * 1000) 1000) ?_ λaa ag=>.al ag;exact Tot.bB (λ_=>.aB (t88 m _ _) λbm hT=>.al (hm.same hT.1)) (λ_=>.al hm)
   ·show 0<=k+1; omega
   ·show k+1<=(d.er.length:Int); omega
   ·show k<k+1; omega
   ·show k+1<=(d.er.length:Int); omega
  ·show 0<=i+1; omega
  ·show i+1<=(s.Decls.length:Int); omega
  ·show i<i+1; omega
  ·show i+1<=(s.Decls.length:Int); omega
 -- the start
 have pK:=ok.pos;refine Tot.aB (Ξ:=λ_=>True) (Tot.bB (λ_=>.aB (Ξ:=λ_=>True) (Tot.gM (by decide) (by omega) λ_ _ _=>trivial) λ_ _=>.al trivial) (λ_=>.al trivial)) λw4 _=>?_;have adf:=tj.e6;refine .aB (t90 gb w4 (by simp only [kN]; omega)) λme mS=>?_;have Un:-1<=me/\me<gb.bX.length:=by rcases mS with h | h <;> omega
 -- the alternatives
 have ji:gb.bX.length<=1000:=tj.e6;generalize UM:gb.bX.length=L at ji Un;refine Tot.aB (Ξ:=λr=>kK r (3+1001 * 1000+1001 * 1000000) L (1001 * 1000000) (1+1001 * 1000000)/\1<=r.aA.a7.length) ?_ λbl Uo=>?_
 ·have tz:=tj.XR;rw [UM] at tz;refine Tot.count (λz=>z.2) s.dB.length (λz=>0<=z.2/\z.2<=s.dB.length/\kK z.1 (3+1001 * 1000+1001 * (1000 * z.2.toNat)) L (1001 * (1000 * z.2.toNat)) (1+1001 * (1000 * z.2.toNat))/\1<=z.1.aA.a7.length) ⟨Int.le_refl 0,by show (0:Int)<=_; omega,⟨tz.gf,tz.lo,tz.hi,tz.ty,tz.e6,tz.gT,Nat.le_refl 1,λp av=>?_,tz.lvl,tz.jn⟩,Nat.le_refl 1⟩ (by show (s.dB.length:Int) - 0<_; omega) λz aS=>?_
  ·rw [List.mem_singleton.1 av];have ac4:=tj.gT;have lF:=tj.lo;refine ⟨⟨Int.le_refl 0,by show (0:Int)<=L+gb.bU; omega⟩,λy ai=>?_,⟨by show (-1:Int)<=-1; omega,by show (-1:Int)<_; omega⟩,λy ai=>absurd ai (by simp),Nat.zero_le _⟩;have ai:y∈[aR (1001+me)]:=ai;rw [List.mem_singleton.1 ai];have:aR (1001+me)=1001+me:=by rw [cD]; omega
   rw [this];exact .inr (by show 1000<=1001+me/\1001+me<=1000+((L:Int)+gb.bU); omega)
  ·obtain ⟨m,i⟩:=z;obtain ⟨aH,h1,hm,sn⟩:=aS;simp only at aH h1 hm sn ⊢;have hw:aR (i+1)=i+1:=by rw [cD]; omega
   rw [hw];refine Tot.bD (λaN=>?_) (λ_=>.al ⟨hm.mono (by omega) (by omega) (by omega),sn⟩);refine Tot.aB (Ξ:=λr=>kK r (3+1001 * 1000+1001 * (1000 * (i.toNat+1))) L (1001 * (1000 * (i.toNat+1))) (1+1001 * (1000 * (i.toNat+1)))/\1<=r.aA.a7.length) ?_ λiq Er=>.al ⟨⟨?_,?_,?_,Er.2⟩,?_,?_⟩
   ·have mr:i.toNat<s.dB.length:=by omega
    have hi:idx s.dB i=some s.dB[i.toNat]:=by simp [idx,aH,mr]
    rw [hi];generalize aO:s.dB[i.toNat]=d;have jz:d∈s.dB:=by rw [<- aO]; exact List.getElem_mem mr
    have Bk:=(au.rules d jz).n;refine Tot.count (λz=>z.2) d.eA.length (λz=>0<=z.2/\z.2<=d.eA.length/\kK z.1 (3+1001 * 1000+1001 * (1000 * i.toNat+z.2.toNat)) L (1001 * (1000 * i.toNat+z.2.toNat)) (1+1001 * (1000 * i.toNat+z.2.toNat))/\1<=z.1.aA.a7.length) ⟨Int.le_refl 0,by show (0:Int)<=_; omega,hm,sn⟩ (by show (d.eA.length:Int) - 0<_; omega) λz aS=>?_;obtain ⟨m,k⟩:=z;obtain ⟨g0,g1,hm,sn⟩:=aS;simp only at g0 g1 hm sn ⊢;have rn:aR (k+1)=k+1:=by rw [cD]; omega
    rw [rn];refine Tot.sm (Tot.bD (λwF=>?_) (λ_=>.al ⟨hm.mono (by omega) (by omega) (by omega),sn⟩));refine Tot.sm (Tot.sm (.aB (Tot.gM (Φ:=λy=>y∈d.eA) g0 wF λ_ _ h=>h) λa aQ=>?_));refine .aB (t91 m d.Left a hm (by omega) (by omega) (by omega) (by omega) ((au.rules d jz).alts a aQ) (ok.rules d jz a aQ)) λbm hT=>.al ⟨⟨?_,?_,?_,hT.2⟩,?_,?_⟩
    ·show 0<=k+1; omega
    ·show k+1<=(d.eA.length:Int); omega
    ·show kK bm (3+1001 * 1000+1001 * (1000 * i.toNat+(k+1).toNat)) L (1001 * (1000 * i.toNat+(k+1).toNat)) (1+1001 * (1000 * i.toNat+(k+1).toNat));exact hT.1.mono (by omega) (by omega) (by omega)
    ·show k<k+1; omega
    ·show k+1<=(d.eA.length:Int); omega
   ·show 0<=i+1; omega
   ·show i+1<=(s.dB.length:Int); omega
   ·show kK iq (3+1001 * 1000+1001 * (1000 * (i+1).toNat)) L (1001 * (1000 * (i+1).toNat)) (1+1001 * (1000 * (i+1).toNat));exact Er.1.mono (by omega) (by omega) (by omega)
   ·show i<i+1; omega
   ·show i+1<=(s.dB.length:Int); omega
 obtain ⟨nB,Up⟩:=Uo;refine Tot.pq (λh=>.al λaL=>absurd aL h) (λhe=>?_);have acD:=nB.e6;have acB:=nB.hi;have acF:=nB.ty;have acC:=nB.gT;have acE:=nB.zG
 -- nonterminals
 refine Tot.aB (Ξ:=λl=>l.length=1+L) ?_ λrW HO=>?_
 ·refine Tot.count (λz=>z.2) bl.bX.length (λz=>0<=z.2/\z.2<=bl.bX.length/\z.1.length=1+z.2.toNat) ⟨Int.le_refl 0,by show (0:Int)<=_; omega,rfl⟩ (by show (bl.bX.length:Int) - 0<_; omega) λz aS=>?_;obtain ⟨l,i⟩:=z;obtain ⟨aH,h1,ah⟩:=aS;simp only at aH h1 ah ⊢;have hw:aR (i+1)=i+1:=by rw [cD]; omega
  rw [hw];refine Tot.bD (λaN=>?_) (λ_=>.al (by show l.length=1+L; omega));refine .aB (Tot.gM (Φ:=λ_=>True) aH aN λ_ _ _=>trivial) λoB _=>.aB (t92 _ _ (by show bl.cx.length<=_; simp only [kN]; omega)) λua Uq=>?_;have acH:ua=-1\/(0<=ua/\ua<bl.cx.length):=Uq;refine .aB (Ξ:=λ_=>True) (Tot.bD (λh=>.aB (Ξ:=λ_=>True) (Tot.gM h (by omega) λ_ _ _=>trivial) λ_ _=>.al trivial) (λ_=>.al trivial)) λtH _=>?_;refine .aB (Ξ:=λ_=>True) (Tot.ap (by simp [lim]; omega) trivial) λ_ _=>.al ⟨⟨?_,?_,?_⟩,?_,?_⟩
  ·show 0<=i+1; omega
  ·show i+1<=(bl.bX.length:Int); omega
  ·show (l++[_]).length=1+(i+1).toNat;simp; omega
  ·show i<i+1; omega
  ·show i+1<=(bl.bX.length:Int); omega
 refine Tot.aB (Ξ:=λl=>(l.length:Int)=1+L+bl.bU) ?_ λj4 Nh=>?_
 ·refine Tot.count (λz=>z.2) (bl.bU+1) (λz=>1<=z.2/\z.2<=bl.bU+1/\(z.1.length:Int)=1+L+(z.2 - 1)) ⟨Int.le_refl 1,by show (1:Int)<=_; omega,by show (rW.length:Int)=1+L+(1 - 1); omega⟩ (by show bl.bU+1 - 1<_; omega) λz aS=>?_;obtain ⟨l,i⟩:=z;obtain ⟨aH,h1,ah⟩:=aS;simp only at aH h1 ah ⊢;have hw:aR (i+1)=i+1:=by rw [cD]; omega
  rw [hw];refine Tot.bD (λaN=>?_) (λ_=>.al (by show (l.length:Int)=1+L+bl.bU; omega));refine .aB (t13 i (by omega) (by omega)) λGm acI=>.aB (Ξ:=λ_=>True) (Tot.cat (by show 1+Gm.size<=_; omega) trivial) λvI _=>?_;refine .aB (Ξ:=λ_=>True) (Tot.ap (by simp [lim]; omega) trivial) λ_ _=>.al ⟨⟨?_,?_,?_⟩,?_,?_⟩
  ·show 1<=i+1; omega
  ·show i+1<=bl.bU+1; omega
  ·show ((l++[_]).length:Int)=1+L+(i+1 - 1);simp; omega
  ·show i<i+1; omega
  ·show i+1<=bl.bU+1; omega
 -- numbers
 have rf:=nB.gf;refine Tot.aB (Ξ:=λl=>l.length=bl.aA.aW.length/\∀ t∈l,0<=t.Level) ?_ λlQ Ur=>?_
 ·refine Tot.count (λz=>z.2.2) bl.aA.aW.length (λz=>3<=z.2.2/\z.2.2<=bl.aA.aW.length/\z.1.length=bl.aA.aW.length/\∀ t∈z.1,0<=t.Level) ⟨Int.le_refl 3,by have:=nB.lo; show (3:Int)<=_; omega,rfl,nB.jn⟩ (by show (bl.aA.aW.length:Int) - 3<_; omega) λz aS=>?_;obtain ⟨l,n,i⟩:=z;obtain ⟨aH,h1,ah,hv⟩:=aS;simp only at aH h1 ah hv ⊢;have hw:aR (i+1)=i+1:=by rw [cD]; omega
  rw [hw];refine Tot.bD (λaN=>?_) (λ_=>.al ⟨ah,hv⟩);refine Tot.aB (Ξ:=λaa=>aa.1.length=bl.aA.aW.length/\∀ t∈aa.1,0<=t.Level) ?_ λaa ag=>.al ⟨⟨?_,?_,ag⟩,?_,?_⟩
  ·refine .aB (Tot.gM (Φ:=λ_=>True) (by omega) (by rw [rf]; omega) λ_ _ _=>trivial) λ_ _=>?_;refine Tot.aB (Ξ:=λaa=>aa.1.length=bl.aA.aW.length/\∀ t∈aa.1,0<=t.Level) ?_ λaa ag=>.al ag;refine Tot.bB (λ_=>?_) (λ_=>.al ⟨ah,hv⟩);refine .aB (Tot.gM (Φ:=λy=>y∈l) (by omega) aN λ_ _ h=>h) λy ai=>.al ⟨by show (l.set _ _).length=_; simp [ah],λt ak=>?_⟩;rcases O3 ak with ak | rfl
   ·exact hv t ak
   ·exact (hv y ai:0<=y.Level)
  ·show 3<=i+1; omega
  ·show i+1<=(bl.aA.aW.length:Int); omega
  ·show i<i+1; omega
  ·show i+1<=(bl.aA.aW.length:Int); omega
 -- limits
 obtain ⟨Ni,Us⟩:=Ur;refine Tot.aB (Ξ:=λc=>c=false->lQ.length<=40/\j4.length<=24/\bl.aA.a7.length<=60) ?_ λAH HH=>?_
 ·refine Tot.bD (λ_=>.al λh=>by cases h) (λh1=>Tot.bD (λ_=>.al λh=>by cases h) (λaf=>.al λh=>?_));have aJ:=of_decide_eq_false h;omega
 refine Tot.aB (Ξ:=λc=>c=false->AH=false/\∀ p∈bl.aA.a7,p.eI.length<=8) ?_ λz_ HI=>?_
 ·refine Tot.count (λz=>z.2) bl.aA.a7.length (λz=>0<=z.2/\z.2<=bl.aA.a7.length/\(z.1=false->AH=false/\∀ (aa:Nat) (p:Prod),(aa:Int)<z.2->bl.aA.a7[aa]?=some p->p.eI.length<=8)) ⟨Int.le_refl 0,by show (0:Int)<=_; omega,λh=>⟨h,λaa p ag=>by have ag:(aa:Int)<0:=ag; omega⟩⟩ (by show (bl.aA.a7.length:Int) - 0<_; omega) λz aS=>?_;obtain ⟨c,i⟩:=z;obtain ⟨aH,h1,ah⟩:=aS;simp only at aH h1 ah ⊢;have hw:aR (i+1)=i+1:=by rw [cD]; omega
  rw [hw];refine Tot.bD (λaN=>?_) (λdY=>.al λh=>⟨(ah h).1,λp av=>?_⟩)
  ·refine Tot.aB (Ξ:=λta=>ta=false->c=false/\∀ p,bl.aA.a7[i.toNat]?=some p->p.eI.length<=8) ?_ λta dX=>.al ⟨⟨?_,?_,λh=>?_⟩,?_,?_⟩
   ·refine Tot.bB (λ_=>.al λh=>by cases h) (λBh=>.aB (Tot.gM (Φ:=λy=>idx bl.aA.a7 i=some y) aH aN λ_ h _=>h) λy ai=>.al λh=>⟨Bh,λp av=>?_⟩);have af:=(qu ai).2.2;rw [av] at af; cases af;have:=of_decide_eq_false h;omega
   ·show 0<=i+1; omega
   ·show i+1<=(bl.aA.a7.length:Int); omega
   ·obtain ⟨aw,a2⟩:=dX h;obtain ⟨gH,hs⟩:=ah aw;refine ⟨gH,λaa p ag av=>?_⟩;have ag:(aa:Int)<i+1:=ag;by_cases VY:(aa:Int)<i
    ·exact hs aa p VY av
    ·have:aa=i.toNat:=by omega
     subst this;exact a2 p av
   ·show i<i+1; omega
   ·show i+1<=(bl.aA.a7.length:Int); omega
  ·obtain ⟨aa,ag,rfl⟩:=List.mem_iff_getElem.1 av;exact (ah h).2 aa _ (by omega) (List.getElem?_eq_getElem ag)
 refine Tot.bB (λ_=>.al λh=>absurd h (by decide)) (λJ=>.al λ_=>?_);obtain ⟨aw,a2⟩:=HI J;obtain ⟨gH,hs,k7⟩:=HH aw;have lF:=nB.lo;refine ⟨⟨?_,gH⟩,⟨?_,hs⟩,⟨Up,k7⟩,λp av=>?_,a2,Us⟩
 ·show 3<=lQ.length; omega
 ·show 1<=j4.length; omega
 ·have:=nB.gN p av;exact this.mono (by show _<=lQ.length; omega) (by show (L:Int)+bl.bU<=((j4.length:Nat):Int) - 1; omega)
theorem t38 (s:Source) (au:qW s):Tot (zq s) λr=>r.2=true->fV r.1:=by
 unfold zq;exact .aB (t63 s au) λr aj=>.al λh=>aj (of_decide_eq_true h)
structure jP (x:Sym):Prop where
 lit:x.Lit=true->x.Name.size=1/\0<jv x.Name 0/\jv x.Name 0<=255/\x.bT=0
 num:0<=x.bT/\x.bT<=50000
theorem Kk (x:Sym) (a b:Bool):Par (tM x a b) λr=>r=true->jP x:=by
 unfold tM;refine Par.bB (λah=>?_) (λah=>?_)
 ·refine .aB (Ξ:=λc=>c=false->x.Name.size=1/\x.bT=0) ?_ λc J=>Par.bB (λ_=>.al λh=>by cases h) (λaf=>?_)
  ·refine Par.bB (λ_=>.al λh=>by cases h) (λ_=>Par.pq (λ_=>.al λh=>by cases h) (λh1=>.al λaf=>⟨by omega,?_⟩));simpa using af
  ·obtain ⟨h1,aJ⟩:=J af;refine .aB (Ξ:=λc=>c=jv x.Name 0) (λc J=>?_) λc J=>?_
   ·unfold iP at J
    split at J
    ·exact (Option.some.inj J).symm
    ·cases J
   ·subst J;refine .aB (Ξ:=λr=>r.2=true->0<jv x.Name 0/\jv x.Name 0<=255) ?_ λr aj=>.al λh=>⟨λ_=>⟨h1,(aj h).1,(aj h).2,aJ⟩,by omega⟩;unfold xu;refine Par.bD (λh=>.al λ_=>by omega) (λ_=>Par.bD (λh=>.al λ_=>by omega) (λ_=>Par.bD (λh=>.al λ_=>by omega) (λ_=>?_)));refine .aB (Ξ:=λc=>c=true->jv x.Name 0=92\/jv x.Name 0=39) (Par.bD (λh=>.al λ_=>.inl h) (λ_=>.al λh=>.inr (of_decide_eq_true h))) λc J=>Par.bB (λh=>.al λ_=>by rcases J h with h | h <;> omega) (λ_=>?_);refine .aB (Ξ:=λr:Int × Bool=>r.2=true->0<jv x.Name 0/\jv x.Name 0<=255) (Par.bD (λh=>.al λaL=>?_) (λ_=>.al λh=>by cases h)) λr aj=>.al aj;have:jv x.Name 0<=126:=of_decide_eq_true aL;omega
 ·refine .aB (Ξ:=λc=>c=true->0<=x.bT/\x.bT<=50000) ?_ λc J=>.al λh=>⟨λaL=>(by rw [ah] at aL; cases aL),J h⟩;refine .aB (Ξ:=λ_=>True) (λ_ _=>trivial) λc _=>Par.bB (λ_=>Par.bD (λh=>.al λ_=>by omega) (λ_=>Par.bB (λ_=>Par.bD (λh=>.al λaL=>⟨by omega,of_decide_eq_true aL⟩) (λ_=>.al λh=>by cases h)) (λ_=>.al λh=>by cases h))) (λ_=>.al λh=>by cases h)
theorem Pw (x:Sym):Par (tN x) λr=>r=true->jP x:=by
 unfold tN;refine .aB (Ξ:=λr=>r=true->jP x) ?_ λr aj=>.al aj;refine Par.bB (λ_=>Par.bB (λh=>.al λaL=>?_) (λ_=>.al λh=>by cases h)) (λ_=>.al λh=>by cases h);have h1:x.Lit=false:=by simpa using h
 have af:x.bT=0:=of_decide_eq_true aL;exact ⟨λh=>(by rw [h1] at h; cases h),by omega⟩
theorem Yj (d:Decl) (az:d.er.length<=1000000):Par (xj d) λr=>r=true->∀ x∈d.er,jP x:=by
 unfold xj;refine .aB (Ξ:=λ_=>True) (λ_ _=>trivial) λc _=>Par.bB (λ_=>.al λh=>by cases h) (λ_=>?_);refine .aB (Par.scan d.er (by omega) (λx=>jP x) (λr=>r=false) (λs y aH h1 hi hm=>?_) (λs ax=>by simp [ax])) λx j=>?_
 ·refine Par.bD (λ_=>?_) (λh=>absurd h1 h);rw [hi];have hw:aR (s+1)=s+1:=by rw [cD]; omega
  rw [hw];exact .aB (Ξ:=λz=>z=y) (.al rfl) λz aS=>by
   subst aS;exact .aB (Kk _ _ _) λc J=>Par.bB (λ_=>.al rfl) (λaf=>.al ⟨rfl,J (by simpa using af)⟩)
 ·rcases x with _ | r
  ·exact .al λ_=>j
  ·exact .al λh=>by have:r=false:=j; rw [this] at h; cases h
theorem Yk (a:Alt) (az:a.Parts.length<=1000000):Par (xk a) λr=>r=true->(∀ p∈a.Parts,jP p.Sym)/\jP a.Prec:=by
 unfold xk;refine .aB (Par.scan a.Parts (by omega) (λp=>jP p.Sym) (λr=>r=false) (λs y aH h1 hi hm=>?_) (λs ax=>by simp [ax])) λx j=>?_
 ·refine Par.bD (λ_=>?_) (λh=>absurd h1 h);rw [hi];have hw:aR (s+1)=s+1:=by rw [cD]; omega
  rw [hw];refine .aB (Ξ:=λz=>z=y) (.al rfl) λz aS=>?_;subst aS;refine .aB (Ξ:=λc=>c=false->jP z.Sym) ?_ λc J=>Par.bB (λ_=>.al rfl) (λaf=>.al ⟨rfl,J af⟩);refine Par.bD (λhe=>?_) (λcU=>?_)
  ·refine .aB (Kk _ _ _) λc J=>Par.bB (λ_=>.al λh=>by cases h) (λaf=>?_);have dp:=J (by simpa using af);exact λ_ _ _=>dp
  ·refine Par.pq (λ_=>?_) (λh=>absurd h cU);refine .aB (Pw _) λc J=>Par.bB (λ_=>.al λh=>by cases h) (λaf=>?_);have dp:=J (by simpa using af);exact λ_ _ _=>dp
 ·rcases x with _ | r
  ·have j:∀ p∈a.Parts,jP p.Sym:=j;refine .aB (Ξ:=λc=>c=true->jP a.Prec) ?_ λc J=>.al λh=>⟨j,J h⟩;refine .aB (Pw _) λc J=>Par.bB (λaf=>.al λ_=>J af) (λ_=>.aB (Kk _ _ _) λc J=>.al J)
  ·exact .al λh=>by have:r=false:=j; rw [this] at h; cases h
structure LD (s:Source):Prop where
 decls:∀ d∈s.Decls,∀ x∈d.er,jP x
 rules:∀ r∈s.dB,∀ a∈r.eA,(∀ p∈a.Parts,jP p.Sym)/\jP a.Prec
theorem Ym (s:Source) (au:qW s):Par (xv s) λr=>r=true->LD s:=by
 unfold xv;refine .aB (Ξ:=h8 (λ_=>True) (λr=>r=false)) ?_ λx j=>?_
 ·refine Par.loop (λ_=>True) trivial λaa _=>?_;refine Par.bD (λ_=>.aB (Ξ:=λ_=>True) (λ_ _=>trivial) λ_ _=>Par.bB (λ_=>.al rfl) (λ_=>.al trivial)) (λ_=>.al trivial)
 ·rcases x with _ | r
  ·refine .aB (Par.scan s.Decls (by have:=au.yx; omega) (λd=>∀ x∈d.er,jP x) (λr=>r=false) (λi y aH h1 hi hm=>?_) (λs ax=>by simp [ax])) λx j=>?_
   ·refine Par.bD (λ_=>?_) (λh=>absurd h1 h);rw [hi];have hw:aR (i+1)=i+1:=by have:=au.yx; rw [cD]; omega
    rw [hw];refine .aB (Ξ:=λz=>z=y) (.al rfl) λz aS=>?_;subst aS;exact .aB (Yj z (by have:=(au.decls z hm).n; omega)) λc J=>Par.bB (λ_=>.al rfl) (λaf=>.al ⟨rfl,J (by simpa using af)⟩)
   ·rcases x with _ | r
    ·have aO:∀ d∈s.Decls,∀ x∈d.er,jP x:=j;refine .aB (Par.scan s.dB (by have:=au.aF; omega) (λr=>∀ a∈r.eA,(∀ p∈a.Parts,jP p.Sym)/\jP a.Prec) (λr=>r=false) (λi y aH h1 hi hm=>?_) (λs ax=>by simp [ax])) λx j=>?_
     ·refine Par.bD (λ_=>?_) (λh=>absurd h1 h);rw [hi];have hw:aR (i+1)=i+1:=by have:=au.aF; rw [cD]; omega
      rw [hw];refine .aB (Ξ:=λz=>z=y) (.al rfl) λz aS=>?_;subst aS;have uU:=(au.rules z hm);refine .aB (Ξ:=λ_=>True) (λ_ _=>trivial) λc _=>Par.bB (λ_=>.al rfl) (λ_=>?_);refine .aB (Par.scan z.eA (by have:=uU.n; omega) (λa=>(∀ p∈a.Parts,jP p.Sym)/\jP a.Prec) (λr=>r=false) (λk y aH h1 hi hm=>?_) (λs ax=>by simp [ax])) λx j=>?_
      ·refine Par.bD (λ_=>?_) (λh=>absurd h1 h);rw [hi];have hw:aR (k+1)=k+1:=by have:=uU.n; rw [cD]; omega
       rw [hw];refine .aB (Ξ:=λz=>z=y) (.al rfl) λz aS=>?_;subst aS;exact .aB (Yk z (by have:=(uU.alts z hm).n; omega)) λc J=>Par.bB (λ_=>.al rfl) (λaf=>.al ⟨rfl,J (by simpa using af)⟩)
      ·rcases x with _ | r
       ·exact .al ⟨rfl,j⟩
       ·exact .al j
     ·rcases x with _ | r
      ·exact .al λ_=>⟨aO,j⟩
      ·exact .al λh=>by have:r=false:=j; rw [this] at h; cases h
    ·exact .al λh=>by have:r=false:=j; rw [this] at h; cases h
  ·exact .al λh=>by have:r=false:=j; rw [this] at h; cases h
structure yf (T:List Tok) (G:List Bool):Prop where
 En:G.length=T.length
 lo:3<=T.length
 hi:T.length<=lim
 zc:∀ t∈T,t.Name.size<=eV/\(t.Lit=true->t.Name.size=1)
 le:∀ t∈T,t.bT<=50000
structure s4 (T:List Tok) (G:List Bool):Prop where
 aO:∀ (i:Nat) (t:Tok),i<3->T[i]?=some t->t.bT<=0
 un:∀ (i aa:Nat) (s t:Tok),T[i]?=some s->T[aa]?=some t->0<s.bT->s.bT=t.bT->i=aa
 gf:∀ (i:Nat) (t:Tok),3<=i->T[i]?=some t->(G[i]?=some true->0<t.bT)/\(G[i]?=some false->t.bT=0)
structure e_ (m:fh):Prop where
 a:yf m.aA.aW m.cg
 b:m.cO=0->s4 m.aA.aW m.cg
 e6:∀ y∈m.bX,y.size<=eV
theorem u' {α:Type}{l:List α}{i:Int}{y:α}(h:idx l i=some y):0<=i/\i.toNat<l.length/\l[i.toNat]?=some y:=by
 unfold idx at h
 split at h
 ·rename_i aH;exact ⟨aH,(List.getElem?_eq_some_iff.1 h).1,h⟩
 ·cases h
theorem yf.set {T:List Tok}{G:List Bool}(h:yf T G) {k:Nat}{t t':Tok}(hk:T[k]?=some t) (az:t'.Name=t.Name) (ah:t'.Lit=t.Lit) (hu:t'.bT<=50000) {Lq:List Bool}(cT:Lq.length=G.length):yf (T.set k t') Lq:=by
 have hm:=List.mem_of_getElem? hk;have key:∀ {P:Tok->Prop},(∀ s∈T,P s)->P t'->∀ s∈T.set k t',P s:=λh1 af s ax=>by
  rcases List.mem_or_eq_of_mem_set ax with h | h
  ·exact h1 s h
  ·rw [h]; exact af
 exact ⟨by rw [cT,List.length_set]; exact h.En,by rw [List.length_set]; exact h.lo,by rw [List.length_set]; exact h.hi,key h.zc (by rw [az,ah]; exact h.zc t hm),key h.le hu⟩
theorem rO {α:Type}{l:List α}{k:Nat}{x:α}(hk:k<l.length) (i:Nat):(l.set k x)[i]?=if i=k then some x else l[i]?:=by
 rw [List.getElem?_set];by_cases e:k=i
 ·subst e; simp [hk]
 ·simp [e,Ne.symm e]
theorem s4.FO {T:List Tok}{G:List Bool}(h:s4 T G) {k:Nat}{t t':Tok}(hk:T[k]?=some t) (hu:t'.bT=t.bT):s4 (T.set k t') G:=by
 have aN:=(List.getElem?_eq_some_iff.1 hk).1;have key:∀ (i:Nat) (s:Tok),(T.set k t')[i]?=some s->∃ cG,T[i]?=some cG/\cG.bT=s.bT:=by
  intro i s ax;rw [rO aN] at ax;by_cases e:i=k
  ·rw [if_pos e] at ax;cases ax;exact ⟨t,by rw [e]; exact hk,hu.symm⟩
  ·rw [if_neg e] at ax;exact ⟨s,ax,rfl⟩
 refine ⟨λi s hi ax=>?_,λi aa s s2 ax la aH he=>?_,λi s hi ax=>?_⟩
 ·obtain ⟨cG,h1,af⟩:=key i s ax;rw [<- af]; exact h.aO i cG hi h1
 ·obtain ⟨cG,h1,af⟩:=key i s ax;obtain ⟨Y4,aJ,bo⟩:=key aa s2 la;exact h.un i aa cG Y4 h1 aJ (by omega) (by omega)
 ·obtain ⟨cG,h1,af⟩:=key i s ax;rw [<- af]; exact h.gf i cG hi h1
theorem s4.Za {T:List Tok}{G:List Bool}(h:s4 T G) {k:Nat}{t t':Tok}(hk:T[k]?=some t) (aJ:3<=k) (aI:k<G.length) (aH:0<t'.bT) (az:∀ (i:Nat) (s:Tok),T[i]?=some s->s.bT≠t'.bT):s4 (T.set k t') (G.set k true):=by
 have aN:=(List.getElem?_eq_some_iff.1 hk).1;refine ⟨λi s hi ax=>?_,λi aa s s2 ax la av he=>?_,λi s hi ax=>?_⟩
 ·rw [rO aN,if_neg (by omega)] at ax;exact h.aO i s hi ax
 ·rw [rO aN] at ax la;by_cases bO:i=k
  ·rw [if_pos bO] at ax; cases ax;by_cases b7:aa=k
   ·omega
   ·rw [if_neg b7] at la;exact absurd he.symm (az aa s2 la)
  ·rw [if_neg bO] at ax;by_cases b7:aa=k
   ·rw [if_pos b7] at la; cases la;exact absurd he (az i s ax)
   ·rw [if_neg b7] at la;exact h.un i aa s s2 ax la av he
 ·rw [rO aN] at ax;rw [rO aI];by_cases bO:i=k
  ·rw [if_pos bO] at ax ⊢;cases ax;exact ⟨λ_=>aH,λh=>by cases h⟩
  ·rw [if_neg bO] at ax ⊢;exact h.gf i s hi ax
theorem sE (m:fh) (a:Int) (n:ByteArray):Par (nk m a n) λbm=>qV m bm/\bm.cO≠0:=.of (t88 m a n)
theorem e_.fail {m bm:fh}(h:e_ m) (ax:qV m bm/\bm.cO≠0):e_ bm:=⟨by rw [ax.1.g,ax.1.gf]; exact h.a,λe=>absurd e ax.2,by rw [ax.1.e6]; exact h.e6⟩
theorem Yo (m:fh) (x:Sym) (aJ:3<=m.aA.aW.length) (h:m.aA.aW.length<=lim):Par (tP m x) λr=>r=-1\/(1<=r/\r≠2):=by
 have ah:lim=1000000000000\/lim<=1000000000000000:=by unfold lim; omega
 unfold tP;refine .aB (Ξ:=h8 (λ_=>True) (λr:Int=>1<=r/\r≠2)) ?_ λr aj=>?_
 ·refine Par.loop (λs=>1<=s/\s<=m.aA.aW.length) ⟨by decide,by omega⟩ λs ax=>?_
  ·refine Par.bD (λaN=>?_) (λ_=>.al trivial);refine .aB (Ξ:=λc=>c=true->s≠2) ?_ λc J=>Par.bB (λaL=>.al ⟨ax.1,J aL⟩) (λ_=>.al ⟨by rw [cD]; omega,by rw [cD]; omega⟩);refine .go λy _=>Par.bB (λ_=>.go λz _=>Par.bB (λ_=>.al λaL=>by simpa using aL) (λ_=>.al λh=>by cases h)) (λ_=>.al λh=>by cases h)
 ·rcases r with _ | r
  ·exact .al (.inl rfl)
  ·exact .al (.inr aj)
theorem Pu (m:fh) (n:Int) (aJ:3<=m.aA.aW.length) (h:m.aA.aW.length<=lim):Par (vo m n) λr=>r<0->∀ (i:Nat) (t:Tok),3<=i->m.aA.aW[i]?=some t->t.bT≠n:=by
 have ah:lim=1000000000000\/lim<=1000000000000000:=by unfold lim; omega
 unfold vo;refine .aB (Ξ:=h8 (λ_=>∀ (i:Nat) (t:Tok),3<=i->m.aA.aW[i]?=some t->t.bT≠n) (λr:Int=>0<=r)) ?_ λr aj=>?_
 ·refine Par.loop (λs=>3<=s/\s<=m.aA.aW.length/\∀ (i:Nat) (t:Tok),3<=i->(i:Int)<s->m.aA.aW[i]?=some t->t.bT≠n) ⟨by decide,by omega,λi t h1 af=>by omega⟩ λs ax=>?_;obtain ⟨h1,af,ax⟩:=ax;refine Par.bD (λaN=>?_) (λdY=>.al λi t hi ak=>ax i t hi ?_ ak)
  ·refine .go λy ai=>?_;obtain ⟨_,_,ai⟩:=u' ai;have hw:aR (s+1)=s+1:=by rw [cD]; omega
   rw [hw];refine Par.bD (λe=>.al (show (0:Int)<=s by omega)) (λe=>.al ⟨by omega,by omega,λi t hi pH ak=>?_⟩);by_cases b7:i=s.toNat
   ·subst b7;rw [ai] at ak; cases ak; exact e
   ·exact ax i t hi (by omega) ak
  ·have:=(List.getElem?_eq_some_iff.1 ak).1;omega
 ·rcases r with _ | r
  ·exact .al λ_=>aj
  ·exact .al λh=>by have:(0:Int)<=r:=aj; omega
theorem Df {α:Type}{l:List α}{x:α}(i:Nat) {y:α}(h:(l++[x])[i]?=some y):(i<l.length/\l[i]?=some y)\/(i=l.length/\y=x):=by
 by_cases hi:i<l.length
 ·rw [List.getElem?_append_left hi] at h;exact .inl ⟨hi,h⟩
 ·rw [List.getElem?_append_right (by omega)] at h;by_cases e:i - l.length=0
  ·rw [e] at h;simp at h;exact .inr ⟨by omega,h.symm⟩
  ·have:([x]:List α)[i - l.length]?=none:=by rw [List.getElem?_eq_none]; simp; omega
   rw [this] at h; cases h
theorem Pt (m:fh) (x:Sym) (hm:e_ m) (j:jP x) (ax:x.Name.size<=eV):Par (vn m x) λr=>e_ r.2/\(r.1=1\/3<=r.1):=by
 unfold vn;have ah:lim<=1000000000000000:=by unfold lim; omega
 refine .aB (Yo m x hm.a.lo hm.a.hi) λr aj=>Par.bD (λh=>.al ⟨hm,?_⟩) (λ_=>?_)
 ·show r=1\/3<=r;omega
 refine .aB (Ξ:=λaa:fh × Int=>aa.1.aA=m.aA/\aa.1.cg=m.cg/\aa.1.bX=m.bX/\e_ aa.1/\aa.2<=50000/\(aa.1.cO=0->(x.Lit=true->0<aa.2/\∀ (i:Nat) (t:Tok),m.aA.aW[i]?=some t->t.bT≠aa.2)/\(x.Lit=false->aa.2=0))) ?_ λaa ag=>?_
 ·refine Par.bB (λoR=>?_) (λoR=>.al ⟨rfl,rfl,rfl,hm,by show (0:Int)<=_; decide,λ_=>⟨λh=>(by rw [oR] at h; cases h),λ_=>rfl⟩⟩);obtain ⟨_,h1,af,_⟩:=j.lit oR;refine .aB (Ξ:=λc=>c=jv x.Name 0) (λc J=>?_) λc J=>?_
  ·unfold iP at J
   split at J
   ·exact (Option.some.inj J).symm
   ·cases J
  subst J;have hw:aR (jv x.Name 0)=jv x.Name 0:=by rw [cD]; omega
  rw [hw];refine .aB (Pu m (jv x.Name 0) hm.a.lo hm.a.hi) λo aM=>?_;refine .aB (Ξ:=λaa:fh=>aa.aA=m.aA/\aa.cg=m.cg/\aa.bX=m.bX/\e_ aa/\(aa.cO=0->m.cO=0/\o<0)) (Par.bD (λh=>.aB (sE m x.At x.Name) λbm aL=>.al ⟨aL.1.g,aL.1.gf,aL.1.e6,hm.fail aL,λe=>absurd e aL.2⟩) (λh=>.al ⟨rfl,rfl,rfl,hm,λe=>⟨e,by omega⟩⟩)) λaa ag=>.al ⟨ag.1,ag.2.1,ag.2.2.1,ag.2.2.2.1,by show jv x.Name 0<=_; omega,λe=>⟨λ_=>⟨h1,λi t ak=>?_⟩,λh=>(by rw [oR] at h; cases h)⟩⟩;obtain ⟨bO,b7⟩:=ag.2.2.2.2 e;by_cases aJ:3<=i
  ·exact aM b7 i t aJ ak
  ·have:=(hm.b bO).aO i t (by omega) ak;show t.bT≠jv x.Name 0;omega
 ·obtain ⟨aI,rf,uP,dn,hle,he⟩:=ag;have Ii:aa.1.cO=0->s4 m.aA.aW m.cg:=λe=>by have:=dn.b e; rwa [aI,rf] at this
  refine Par.ap λsk=>Par.ap λ_=>.al ?_;rw [aI] at sk;rw [aI,rf,uP];simp only [List.length_cons,List.length_nil] at sk;have aJ:=hm.a.lo;have NP:=hm.a.En;refine ⟨⟨⟨by simp [NP],by show 3<=(m.aA.aW++[_]).length; simp; omega,by show (m.aA.aW++[_]).length<=_; simp; omega,λt ak=>?_,λt ak=>?_⟩,λe0=>?_,hm.e6⟩,?_⟩
  ·rcases List.mem_append.1 ak with ak | ak
   ·exact hm.a.zc t ak
   ·rw [List.mem_singleton.1 ak];exact ⟨ax,λh=>(j.lit h).1⟩
  ·rcases List.mem_append.1 ak with ak | ak
   ·exact hm.a.le t ak
   ·rw [List.mem_singleton.1 ak]; exact hle
  ·have MK:aa.1.cO=0:=e0;have au:=Ii MK;obtain ⟨IE,Bl⟩:=he MK;refine ⟨λi t hi ak=>?_,λi k s t ax ak aH heq=>?_,λi t hi ak=>?_⟩
   ·rcases Df i ak with ⟨h1,af⟩ | ⟨h1,_⟩
    ·exact au.aO i t hi af
    ·omega
   ·rcases Df i ax with ⟨h1,af⟩ | ⟨h1,af⟩
    ·rcases Df k ak with ⟨bo,cu⟩ | ⟨bo,cu⟩
     ·exact au.un i k s t af cu aH heq
     ·subst cu;have heq:s.bT=aa.2:=heq;cases oR:x.Lit with
      | true=>exact absurd heq ((IE oR).2 i s af)
      | false=>have:=Bl oR; omega
    ·subst af;rcases Df k ak with ⟨bo,cu⟩ | ⟨bo,cu⟩
     ·have heq:aa.2=t.bT:=heq;have aH:0<aa.2:=aH;cases oR:x.Lit with
      | true=>exact absurd heq.symm ((IE oR).2 k t cu)
      | false=>have:=Bl oR; omega
     ·omega
   ·have UG:(m.cg++[x.Lit])[i]?=if i=m.aA.aW.length then some x.Lit else m.cg[i]?:=by
     by_cases e:i=m.aA.aW.length
     ·rw [if_pos e,e,<- NP,List.getElem?_append_right (Nat.le_refl _)]; simp
     ·have:=(List.getElem?_eq_some_iff.1 ak).1;simp at this;rw [if_neg e,List.getElem?_append_left (by omega)]
    show ((m.cg++[x.Lit])[i]?=some true->0<t.bT)/\((m.cg++[x.Lit])[i]?=some false->t.bT=0);rw [UG];rcases Df i ak with ⟨h1,af⟩ | ⟨h1,af⟩
    ·rw [if_neg (by omega)];exact au.gf i t hi af
    ·rw [if_pos h1];subst af;exact ⟨λh=>(IE (Option.some.inj h)).1,λh=>Bl (Option.some.inj h)⟩
  ·right;show 3<=aR (((m.aA.aW++[_]).length:Int) - 1);simp only [List.length_append,List.length_cons,List.length_nil];rw [cD]; omega
end Go.Proofs
