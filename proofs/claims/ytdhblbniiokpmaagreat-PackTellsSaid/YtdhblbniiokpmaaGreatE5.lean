/-
  Parts of the proof that the last text states. No condition of their own.
-/
import Derived.KernelRfl
import Derived.Test.YtdhblbniiokpmaaGreatE4
namespace Go.Proofs
open Go Go.Own Go.Sort
set_option maxRecDepth 100000
set_option linter.unusedVariables false
def od (a b:b3):Bool:=decide (a.At<b.At)||(decide (a.At=b.At)&&decide (a.cc<b.cc))
theorem Ft {a b:b3}:od a b=true↔(a.At<b.At\/(a.At=b.At/\a.cc<b.cc)):=by simp [od]
theorem Kc {a b:b3}:od a b=false↔¬ (a.At<b.At\/(a.At=b.At/\a.cc<b.cc)):=by
 rw [<- Ft]; simp
theorem Kr:Ord od where
 swo:=⟨λx=>by rw [Kc]; omega,λx y z h1 af=>by rw [Ft] at *; omega,λx y z h1 af=>by rw [Kc] at *; omega⟩
 je x y h1 af:=by
  rw [Kc] at h1 af;obtain ⟨a8,x2⟩:=x;obtain ⟨bu,y2⟩:=y;simp only at h1 af;have:a8=bu:=by omega
  have:x2=y2:=by omega
  subst_vars; rfl
theorem Sh {α:Type} [DecidableEq α] {lt:α->α->Bool}(h:Ord lt) {l:List α}(aE:l.Nodup):e3 lt (h7 lt l):=by
 have h1:=Fc h.swo l;have af:(h7 lt l).Nodup:=(sX lt l).nodup_iff.2 aE;refine List.Pairwise.imp (λ{a b} BE=>?_) (h1.and af);cases bY:lt a b with
 | true=>rfl
 | false=>exact absurd (h.je _ _ bY (by simpa using BE.1)) BE.2
def ov (T:List bT) (p:b3):Prop:=∃ (k:Nat) (t:bT),T[k]?=some t/\0<t.bN/\p=⟨t.bN,(k:Int)⟩
theorem ov.val {T:List bT}{p:b3}(h:ov T p):∃ (k:Nat) (t:bT),T[k]?=some t/\p.cc=(k:Int)/\p.At=t.bN/\0<t.bN:=by
 obtain ⟨k,t,h1,af,rfl⟩:=h;exact ⟨k,t,h1,rfl,rfl,af⟩
theorem SM (a b:Int):∃ v,uH a b=some v/\(v<0↔a<b)/\(v=0↔a=b):=by
 have e:∀ a,wc a=some false:=λa=>by simp [wc]
 unfold uH;simp only [e,Option.bind_some,cond_false];by_cases h1:a<b
 ·exact ⟨-1,by simp [h1],by omega,by omega⟩
 ·by_cases af:b<a
  ·exact ⟨1,by simp [h1,af],by omega,by omega⟩
  ·exact ⟨0,by simp [h1,af],by omega,by omega⟩
theorem Mt (g:bO) (aP:tl g) (ai:g.ba.length<=1000):Tot (Af g) λl=>e3 od l/\l.length<=1000/\∀ p,p∈l↔ov g.ba p:=by
 unfold Af;refine .ay (Ξ:=λl:List b3=>(l.length<=1000/\∀ p,p∈l↔ov g.ba p)/\l.Pairwise λa b=>a.cc<b.cc) ?_ λl ai=>?_
 ·refine Tot.upto (λs=>s.2) g.ba.length (λk s=>(s.1.length<=k/\∀ p,p∈s.1↔(ov g.ba p/\p.cc<(k:Int)))/\s.1.Pairwise λa b=>a.cc<b.cc) rfl (by omega) ⟨⟨Nat.le_refl 0,λp=>⟨λh=>(by cases h),λh=>by obtain ⟨k,t,_,e,_⟩:=h.1.val; omega⟩⟩,.nil⟩ λk s hk he bb=>?_;obtain ⟨l,i⟩:=s;obtain ⟨⟨h1,af⟩,cF⟩:=bb;simp only at he h1 af cF ⊢;subst he;rw [eh k (by omega)];refine Tot.bm (λaQ=>?_) (λdG=>.ao ⟨⟨by omega,λp=>(af p).trans ⟨λh=>h.1,λh=>⟨h,?_⟩⟩⟩,cF⟩)
  ·have aQ:k<g.ba.length:=by omega
   rw [dT aQ];have mv:g.ba[k]?=some g.ba[k]:=List.getElem?_eq_getElem aQ;refine .ay (Ξ:=λo:List b3=>(o.length<=k+1/\∀ p,p∈o↔(ov g.ba p/\p.cc<((k+1:Nat):Int)))/\o.Pairwise λa b=>a.cc<b.cc) ?_ λo aY=>.ao ⟨aQ,rfl,aY⟩;simp only [Option.bind_some];refine .ay (Ξ:=λo:List b3=>(o.length<=k+1/\∀ p,p∈o↔(ov g.ba p/\p.cc<((k+1:Nat):Int)))/\o.Pairwise λa b=>a.cc<b.cc) ?_ λo aY=>.ao aY;refine Tot.bm (λar=>.ay (Ξ:=λ_=>True) (Tot.ap (by simp [lim]; omega) trivial) λ_ _=>.ao ⟨⟨by simp; omega,λp=>?_⟩,?_⟩) (λar=>.ao ⟨⟨by omega,λp=>?_⟩,cF⟩)
   ·rw [List.mem_append,List.mem_singleton,af];constructor
    ·rintro (h | rfl)
     ·exact ⟨h.1,by omega⟩
     ·exact ⟨⟨k,_,mv,ar,rfl⟩,by show (k:Int)<((k+1:Nat):Int); omega⟩
    ·rintro ⟨h,hv⟩;obtain ⟨j,t,aI,bD,rfl⟩:=h;simp only at hv;by_cases e:j=k
     ·subst e;rw [mv] at aI; cases aI;exact .inr rfl
     ·exact .inl ⟨⟨j,t,aI,bD,rfl⟩,by show (j:Int)<k; omega⟩
   ·refine List.pairwise_append.2 ⟨cF,List.pairwise_singleton ..,λa aR b au=>?_⟩;rw [List.mem_singleton.1 au];exact ((af a).1 aR).2
   ·rw [af];constructor
    ·rintro ⟨h,hv⟩;exact ⟨h,by omega⟩
    ·rintro ⟨h,hv⟩;obtain ⟨j,t,aI,bD,rfl⟩:=h;simp only at hv;refine ⟨⟨j,t,aI,bD,rfl⟩,?_⟩;show (j:Int)<k;by_cases e:j=k
     ·subst e;rw [mv] at aI; cases aI;exact absurd bD ar
     ·omega
  ·obtain ⟨j,t,aI,_,rfl⟩:=h;have:=(List.getElem?_eq_some_iff.1 aI).1;show (j:Int)<k;omega
 ·obtain ⟨ai,Jg⟩:=ai;have aA:pP (λa b=>C9 a b) l=some (h7 od l):=by
   refine Zj Kr (λa aR b au=>?_) (by omega);obtain ⟨v,hv,h1,af⟩:=SM a.At b.At;refine ⟨v,by unfold C9; rw [hv]; rfl,h1.trans ?_⟩;rw [Ft];constructor
   ·exact .inl
   ·rintro (h | ⟨h,aL⟩)
    ·exact h
    ·exfalso;obtain ⟨i,s,cu,cd,rfl⟩:=(ai.2 a).1 aR;obtain ⟨j,t,fx,lZ,rfl⟩:=(ai.2 b).1 au;simp only at h aL;have:=aP.un i j s t cu fx cd h;omega
  rw [aA];refine .ao ⟨Sh Kr (Jg.imp λ{a b} h e=>by subst e; omega),by rw [(sX od l).length_eq]; exact ai.1,λp=>((sX od l).mem_iff).trans (ai.2 p)⟩
open Go Go.Own
theorem ZY:De=some true:=by kernel_rfl
theorem FT {α:Type}(keep:α->Bool) (val:α->Int) {l:List α}(ai:l.length<=1000):iy (iu keep val l):=by
 refine ⟨λp ar=>?_,?_⟩
 all_goals grind [XL,Yx]
theorem Mq (l:List Row) (ai:l.length<=200) (aj:∀ r∈l,iy r.e5/\r.e5.length<=1000):Tot (uF l) λr=>r.1=l.map (·.Def)/\∀ a n,rk r.2 a n=some (vf (l.map (·.e5)) a n):=by
 unfold uF;refine .ay (Ξ:=λs:List Int × List (List b3)=>s.1=l.map (·.Def)/\s.2=l.map (·.e5)) ?_ λs aA=>?_
 ·refine Tot.upto (λs=>s.2.2) l.length (λk s=>s.1=(l.take k).map (·.Def)/\s.2.1=(l.take k).map (·.e5)) rfl (by omega) ⟨rfl,rfl⟩ λk s hk he bb=>?_;obtain ⟨A,B,i⟩:=s;obtain ⟨h1,af⟩:=bb;simp only at he h1 af ⊢;subst he h1 af;rw [eh k (by omega)];refine Tot.bm (λaQ=>?_) (λdG=>.ao ?_)
  ·have aQ:k<l.length:=by omega
   rw [dT aQ];refine Tot.aV (.ay (Ξ:=λ_=>True) (Tot.ap (by simp [lim]; omega) trivial) λ_ _=>.ay (Ξ:=λ_=>True) (Tot.ap (by simp [lim]; omega) trivial) λ_ _=>.ao ⟨aQ,rfl,?_,?_⟩)
   all_goals grind [kj]
  grind
 ·obtain ⟨h1,af⟩:=aA;rw [af];have cQ:k9 (l.map (·.e5)):=⟨by simp; omega,λr dN=>by
   grind⟩
  have eH:u5 (l.map (·.e5)):=⟨by simp; omega,λr dN=>by
   grind⟩
  refine .ay (Mv _ eH) λc aa=>.ao ⟨h1,λa n=>?_⟩;obtain ⟨gR,o,hO,hr⟩:=aa.2 cQ;exact Ub cQ hO hr (hr.inv cQ (List.pairwise_reverse.2 hO.Av)) gR a n
structure Rw (g:bO) (d:gz) (t:Tables):Prop where
 Ej:t.Def=d.dI.map λr=>kX (red r)
 gd:t.ot=(List.range g.ca.length).map λa=>kX (pos (eW d a))
 ac:∀ a n,rk t.dI a n=some (vf (d.dI.map λr=>(qA r).e5) a n)
 go:∀ a n,rk t.jZ a n=some (vf ((List.range g.ca.length).map λa=>(qB (eW d a)).e5) a n)
 le:t.Left=g.bj.map (·.Left)
 lh:t.p0=g.bj.map λp=>(p.ef.length:Int)
theorem kq (g:bO) (n:Nat) (d:gz) (aS:pY g n d) (hk:tl g):Tot (uC g d) (Rw g d):=by
 have aP:=aS.rU;have aw:=aP.kk;have kb:=aP.dx;have q_:=aP.hE;have kt:=aS.gG;have sJ:=aS.a;have uh:=aS.o;unfold uC;refine .ay (sB g n d aS) λa8 h1=>?_;subst h1;refine .ay (Mq _ (by simp; omega) λr aj=>?_) λx2 af=>.ay (Ms g n d aS) λa7 aI=>?_
 ·obtain ⟨q,bg,rfl⟩:=List.mem_map.1 aj;have ai:=(aS.jK q bg).1;have:=wg (lM (kX (red q))) mN q;exact ⟨FT _ _ (by omega),by show (iu _ _ q).length<=_; omega⟩
 subst aI;refine .ay (Mq _ (by simp; omega) λr aj=>?_) λbx bD=>?_
 ·obtain ⟨a,_,rfl⟩:=List.mem_map.1 aj;have ai:=wY d a;have:=wg (lN (kX (pos (eW d a)))) id (eW d a);exact ⟨FT _ _ (by omega),by show (iu _ _ (eW d a)).length<=_; omega⟩
 refine .ay (Ξ:=λs:List Int × List Int=>s.1=g.bj.map (·.Left)/\s.2=g.bj.map λp=>(p.ef.length:Int)) ?_ λbF dS=>.ay (Mt g hk (by omega)) λeu _=>.ao ?_
 ·refine Tot.upto (λs=>s.2.2) g.bj.length (λk s=>s.1=(g.bj.take k).map (·.Left)/\s.2.1=(g.bj.take k).map λp=>(p.ef.length:Int)) rfl (by omega) ⟨rfl,rfl⟩ λk s xh he bb=>?_;obtain ⟨A,B,i⟩:=s;obtain ⟨h1,af⟩:=bb;simp only at he h1 af ⊢;subst he h1 af;rw [eh k (by omega)];refine Tot.bm (λaQ=>?_) (λdG=>.ao ?_)
  ·have aQ:k<g.bj.length:=by omega
   rw [dT aQ];refine Tot.aV (.ay (Ξ:=λ_=>True) (Tot.ap (by simp [lim]; omega) trivial) λ_ _=>.ay (Ξ:=λ_=>True) (Tot.ap (by simp [lim]; omega) trivial) λ_ _=>.ao ⟨aQ,rfl,?_,?_⟩)
   all_goals grind [kj]
  grind
 ·refine ⟨?_,?_,λa m=>?_,λa m=>?_,dS.1,dS.2⟩
  ·show x2.1=_;rw [af.1,List.map_map];rfl
  ·show bx.1=_;rw [bD.1,List.map_map];rfl
  ·show rk x2.2 a m=_;rw [af.2,List.map_map];rfl
  ·show rk bx.2 a m=_;rw [bD.2,List.map_map];rfl
theorem SF (s:Source) (au:qV s):Tot (uB s) λr=>r.2.2.2=true->(∃ n,pY r.1 n r.2.1)/\tl r.1:=by
 refine (Par.je (SB s au) (Ψ:=λr=>r.2.2.2=true->tl r.1) ?_).use λr aj h=>⟨aj.1 h,aj.2 h⟩;have Yg:Par (x7 s) λr=>r.2=true->tl r.1:=by
  unfold x7;exact .ay (Yh s au) λr aj=>.ao λh=>aj (of_decide_eq_true h)
 have Yf:Par (x5 s) λr=>r.2.2=true->tl r.1:=by
  unfold x5;exact .ay Yg λr aj=>Par.bB (λ_=>.ao λh=>by cases h) (λh=>.ay (Ξ:=λ_=>True) (λ_ _=>trivial) λm _=>.ao λ_=>aj (by simpa using h))
 have Ye:Par (v8 s) λr=>r.2.2.2=true->tl r.1:=by
  unfold v8;exact .ay Yf λr aj=>Par.bB (λ_=>.ao λh=>by cases h) (λh=>.ay (Ξ:=λ_=>True) (λ_ _=>trivial) λqu _=>.ay (Ξ:=λ_=>True) (λ_ _=>trivial) λcs _=>.ao λ_=>aj (by simpa using h))
 unfold uB;exact .ay Ye λr aj=>Par.bB (λ_=>.ao λh=>by cases h) (λh=>.ay (Ξ:=λ_=>True) (λ_ _=>trivial) λ_ _=>.ay (Ξ:=λ_=>True) (λ_ _=>trivial) λ_ _=>.ao λ_=>aj (by simpa using h))
def k5 (rows:List eJ) (o:List Nat) (j:Nat):Prop:=j∉o/\∃ r,rows[j]?=some r/\r≠[]
theorem Fk {rows:List eJ}{j:Nat}{r:eJ}(h:rows[j]?=some r):jb rows (j:Int)=r.length:=by
 simp [jb,idx,h]
structure GY (rows:List eJ) (o:List Nat) (laid:List Bool) (c:e4):Prop where
 O8:dt rows o.reverse c
 nd:o.Nodup
 ne:∀ i∈o,∃ r,rows[i]?=some r/\r≠[]
 XJ:laid.length=rows.length
 ld:∀ j,j<rows.length->(laid.getD j false=true↔j∈o)
 Av:o.Pairwise λ(a b:Nat)=>hM rows (b:Int) (a:Int)=false
 Mh:∀ i∈o,∀ j,k5 rows o j->hM rows (j:Int) (i:Int)=false
 cl:c.b7.length<=1000 * o.length
theorem uy:∀ (l m:List Nat),l.Nodup->(∀ x∈l,x∈m)->l.length<=m.length
 | [],_,_,_=>Nat.zero_le _
 | x::l,m,aS,hm=>by
  have J:=hm x (by simp);have mu:=List.nodup_cons.1 aS;have:=uy l (m.erase x) mu.2 λy av=>(List.mem_erase_of_ne (λe=>mu.1 (by rw [<- e]; exact av))).2 (hm y (by simp [av]));have ai:=List.length_erase_of_mem J;have ar:=List.length_pos_of_mem J;simp only [List.length_cons];omega
theorem GY.ol {rows:List eJ}{o:List Nat}{laid:List Bool}{c:e4}(h:GY rows o laid c):o.length<=rows.length:=by
 have:=uy o (List.range rows.length) h.nd λx J=>by
  obtain ⟨r,aj,_⟩:=h.ne x J;simpa using (List.getElem?_eq_some_iff.1 aj).1
 simpa using this
theorem tF (rows:List eJ) (eH:u5 rows):Tot (v_ rows) λc=>(¬ k9 rows->c=⟨[],[],[]⟩)/\(k9 rows->∃ o,kI rows o/\dt rows o.reverse c):=by
 unfold v_;refine .ay (SN rows eH) λa8 h1=>Tot.bB (λh=>.ao ⟨λ_=>rfl,λcQ=>by rw [h1.2 cQ] at h; cases h⟩) (λh=>?_);have cQ:k9 rows:=h1.1 (by simpa using h);refine Tot.use (Ψ:=λc=>∃ o,kI rows o/\dt rows o.reverse c) ?_ λc aa=>⟨λaE=>absurd cQ aE,λ_=>aa⟩;have aE:=cQ.n;refine .ay (Ξ:=λl=>l=List.replicate rows.length 0) (Tot.mk (by simp [lim]; omega) (by simp)) λa7 aI=>?_;subst aI;refine .ay (Ξ:=λl=>l=List.replicate rows.length false) (Tot.mk (by simp [lim]; omega) (by simp)) λbx bD=>?_;subst bD;refine Tot.ay (Ξ:=hG (λ_=>False) (λc=>∃ o,kI rows o/\dt rows o.reverse c)) ?_ λx J=>by
  rcases x with x | x
  ·exact J.elim
  ·exact .ao J
 refine Tot.loop (λs=>∃ o,GY rows o s.2 s.1) (λs=>(s.2.filter λb=>!b).length) ⟨[],.nil,List.nodup_nil,λ_ h=>absurd h (by simp),by simp,λj ag=>by simp [List.getD_eq_getElem?_getD,ag],.nil,λ_ h=>absurd h (by simp),Nat.le_refl 0⟩ (by
  show ((List.replicate rows.length false).filter λb=>!b).length<1000000000000000000;refine Nat.lt_of_le_of_lt (List.length_filter_le _ _) ?_;rw [List.length_replicate]; omega) λs aA=>?_
 obtain ⟨c,laid⟩:=s;obtain ⟨o,b_⟩:=aA;simp only at b_ ⊢;have uh:=b_.ol;have I6:=b_.XJ
 -- which is next
 refine .ay (Ξ:=λx:Int=>(x=-1/\∀ j,¬ k5 rows o j)\/∃ i:Nat,x=(i:Int)/\k5 rows o i/\∀ j,k5 rows o j->hM rows (j:Int) (i:Int)=false) ?_ λbH H2=>?_
 ·refine Tot.count (λs=>s.2) rows.length (λs=>∃ k:Nat,k<=rows.length/\s.2=(k:Int)/\((s.1=-1/\∀ j,j<k->¬ k5 rows o j)\/∃ i:Nat,s.1=(i:Int)/\i<k/\k5 rows o i/\∀ j,j<k->k5 rows o j->hM rows (j:Int) (i:Int)=false)) ⟨0,Nat.zero_le _,rfl,.inl ⟨rfl,λj ag=>absurd ag (Nat.not_lt_zero _)⟩⟩ (by show (rows.length:Int) - 0<_; omega) λs aA=>?_;obtain ⟨x,ke⟩:=s;obtain ⟨k,hk,rfl,bk⟩:=aA;simp only at bk ⊢;have hw:aM ((k:Int)+1)=((k+1:Nat):Int):=by rw [cK]; omega
  rw [hw];refine Tot.bm (λaQ=>?_) (λdG=>.ao ?_)
  ·have aQ:k<rows.length:=by omega
   have n4:rows[k]?=some rows[k]:=List.getElem?_eq_getElem aQ;have V6:idx laid (k:Int)=some (laid.getD k false):=by
    have:k<laid.length:=by omega
    rw [oQ this,List.getD_eq_getElem?_getD,List.getElem?_eq_getElem this]; rfl
   refine .ay (Ξ:=λy:Int=>(y=-1/\∀ j,j<k+1->¬ k5 rows o j)\/∃ i:Nat,y=(i:Int)/\i<k+1/\k5 rows o i/\∀ j,j<k+1->k5 rows o j->hM rows (j:Int) (i:Int)=false) ?_ λy av=>.ao ⟨⟨k+1,by omega,rfl,av⟩,?_,?_⟩
   ·have skip:¬ k5 rows o k->(x=-1/\∀ j,j<k+1->¬ k5 rows o j)\/∃ i:Nat,x=(i:Int)/\i<k+1/\k5 rows o i/\∀ j,j<k+1->k5 rows o j->hM rows (j:Int) (i:Int)=false:=by
     intro da;rcases bk with ⟨e,h⟩ | ⟨i,e,hi,he,h⟩
     ·refine .inl ⟨e,λj ag=>?_⟩;by_cases fU:j=k
      ·rw [fU]; exact da
      ·exact h j (by omega)
     ·refine .inr ⟨i,e,by omega,he,λj ag vu=>?_⟩;by_cases fU:j=k
      ·rw [fU] at vu; exact absurd vu da
      ·exact h j (by omega) vu
    refine .ay (Ξ:=λc=>(c=true->k5 rows o k/\(x=-1\/∃ i:Nat,x=(i:Int)/\jb rows (i:Int)<jb rows (k:Int)))/\(c=false->¬ k5 rows o k\/∃ i:Nat,x=(i:Int)/\jb rows (k:Int)<=jb rows (i:Int))) ?_ λp8 aa=>.ay (Ξ:=λy:Int=>(y=-1/\∀ j,j<k+1->¬ k5 rows o j)\/∃ i:Nat,y=(i:Int)/\i<k+1/\k5 rows o i/\∀ j,j<k+1->k5 rows o j->hM rows (j:Int) (i:Int)=false) (Tot.bB (λh=>.ao ?_) (λh=>.ao ?_)) λy av=>.ao av
    ·rw [V6];refine Tot.aV (Tot.bB (λai=>?_) (λai=>.ao ⟨λh=>(by cases h),λ_=>.inl λhe=>he.1 ((b_.ld k aQ).1 (by simpa using ai))⟩));have I1:k∉o:=λh=>by rw [(b_.ld k aQ).2 h] at ai; cases ai
     rw [oQ aQ];refine Tot.aV (Tot.bm (λar=>?_) (λar=>.ao ⟨λh=>(by cases h),λ_=>.inl λ⟨_,r,aj,da⟩=>?_⟩))
     ·have ub:k5 rows o k:=⟨I1,_,n4,λe=>by rw [e] at ar; simp at ar⟩;refine Tot.bm (λJ=>.ao ⟨λ_=>⟨ub,.inl ?_⟩,λh=>(by cases h)⟩) (λJ=>?_)
      ·rcases bk with ⟨e,_⟩ | ⟨i,e,_⟩
       ·exact e
       ·omega
      ·rcases bk with ⟨e,_⟩ | ⟨i,e,hi,⟨_,r,aj,_⟩,_⟩
       ·omega
       ·subst e;have n1:i<rows.length:=by omega
        rw [oQ n1];refine Tot.aV (Tot.aV (.ao ⟨λh=>⟨ub,.inr ⟨i,rfl,?_⟩⟩,λh=>.inr ⟨i,rfl,?_⟩⟩))
        ·rw [Fk n4,Fk (List.getElem?_eq_getElem n1)];have:=of_decide_eq_true h;omega
        ·rw [Fk n4,Fk (List.getElem?_eq_getElem n1)];have:=of_decide_eq_false h;omega
     ·rw [n4] at aj; cases aj;have:(rows[k]).length≠0:=λe=>da (List.eq_nil_of_length_eq_zero e);omega
    ·obtain ⟨ub,Iz⟩:=aa.1 h;refine .inr ⟨k,rfl,by omega,ub,λj ag vu=>?_⟩;by_cases fU:j=k
     ·rw [fU]; exact (Ka rows).irrefl _
     ·rcases bk with ⟨e,aL⟩ | ⟨i,e,hi,he,aL⟩
      ·exact absurd vu (aL j (by omega))
      ·rcases Iz with cf | ⟨oP,cf,ai⟩
       ·omega
       ·have:i=oP:=by omega
        subst this;have:=aL j (by omega) vu;rw [CD] at this ⊢;omega
    ·rcases aa.2 h with da | ⟨oP,cf,ai⟩
     ·exact skip da
     ·rcases bk with ⟨e,aL⟩ | ⟨i,e,hi,he,aL⟩
      ·omega
      ·have:i=oP:=by omega
       subst this;refine .inr ⟨i,e,by omega,he,λj ag vu=>?_⟩;by_cases fU:j=k
       ·subst fU;rw [CD]; omega
       ·exact aL j (by omega) vu
   ·show (k:Int)<((k+1:Nat):Int); omega
   ·show ((k+1:Nat):Int)<=_; omega
  ·have fq:k=rows.length:=by omega
   have ub:∀ j,k5 rows o j->j<k:=λj ⟨_,r,aj,_⟩=>by
    have:=(List.getElem?_eq_some_iff.1 aj).1; omega
   rcases bk with ⟨e,h⟩ | ⟨i,e,hi,he,h⟩
   ·exact .inl ⟨e,λj ag=>h j (ub j ag) ag⟩
   ·exact .inr ⟨i,e,he,λj ag=>h j (ub j ag) ag⟩
 rcases H2 with ⟨rfl,Wf⟩ | ⟨i,rfl,ub,Iz⟩
 ·refine Tot.bB (λ_=>.ao ⟨o,⟨λi=>⟨b_.ne i,λ⟨r,aj,da⟩=>Classical.byContradiction λhi=>Wf i ⟨hi,r,aj,da⟩⟩,b_.nd,b_.Av⟩,b_.O8⟩) (λh=>absurd h (by decide))
 ·refine Tot.bm (λh=>by omega) (λ_=>?_);obtain ⟨EK,r,aj,Jj⟩:=ub;have n1:i<rows.length:=(List.getElem?_eq_some_iff.1 aj).1;have IU:i<laid.length:=by omega
  rw [oQ IU];have uj:r∈rows:=List.mem_of_getElem? aj;have kc:=cQ.rows r uj;have kR:=eH.r r uj;have gR:=b_.cl;have hr:=b_.O8;have BX:i∉o.reverse:=by rw [List.mem_reverse]; exact EK
  have hlen:=hr.len;refine Tot.aV (.ay (Qj rows eH i r aj kc c (by omega) (hr.rest i n1 BX) Aj λb au=>SO c.b7 r b kc.lX (by omega) (by omega) (by omega)) λB H'=>?_);obtain ⟨b,rfl,ud,I5,pn⟩:=H';have r4:idx rows (i:Int)=some r:=by simp [idx,aj]
  rw [r4];refine .ay (PT r kc kR i b (by omega) c hlen.1 (by omega) pn _ (λv b4 k hk=>?_) (λv b4 k hk=>?_)) λx J=>?_
  ·have t_:idx (c.c5.set i (b:Int)) (i:Int)=some (b:Int):=by
    have:i<c.c5.length:=by omega
    simp [idx,this]
   have aS:decide ((k:Int)<(r.length:Int))=true:=decide_eq_true (by omega);simp only [Option.bind_some,aS,cond_true,oQ hk,t_]
  ·have aS:decide ((k:Int)<(r.length:Int))=false:=decide_eq_false hk;simp only [Option.bind_some,aS,cond_false]
  ·obtain ⟨UZ,ai⟩:=J;have kv:(laid.set i true).length=rows.length:=by rw [List.length_set]; exact I6
   refine .ao ⟨⟨o++[i],?_,?_,λa aR=>?_,kv,λj ag=>?_,?_,λa aR j ag=>?_,?_⟩,?_⟩
   ·rw [List.reverse_append];exact .cons aj BX hr ⟨ud,I5,rfl,UZ⟩
   ·rw [List.nodup_append];exact ⟨b_.nd,by simp,λa aR b au e=>EK (by rw [<- List.mem_singleton.1 au,<- e]; exact aR)⟩
   ·rcases List.mem_append.1 aR with aR | aR
    ·exact b_.ne a aR
    ·rw [List.mem_singleton.1 aR]; exact ⟨r,aj,Jj⟩
   ·show ((laid.set i true).getD j false=true↔_);rw [List.getD_eq_getElem?_getD,List.getElem?_set,List.mem_append,List.mem_singleton];by_cases e:i=j
    ·subst e;simp [IU]
    ·rw [if_neg e,<- List.getD_eq_getElem?_getD,b_.ld j ag];constructor
     ·exact .inl
     ·rintro (h | h)
      ·exact h
      ·exact absurd h.symm e
   ·rw [List.pairwise_append];exact ⟨b_.Av,List.pairwise_singleton _ _,λa aR b au=>by rw [List.mem_singleton.1 au]; exact b_.Mh a aR i ⟨EK,r,aj,Jj⟩⟩
   ·have sO:k5 rows o j:=⟨λh=>ag.1 (by simp [h]),ag.2⟩;rcases List.mem_append.1 aR with aR | aR
    ·exact b_.Mh a aR j sO
    ·rw [List.mem_singleton.1 aR]; exact Iz j sO
   ·show x.2.length<=1000 * (o++[i]).length;simp; omega
   ·show ((laid.set i true).filter λb=>!b).length<(laid.filter λb=>!b).length;have VQ:laid.getD i false=false:=by
     cases h:laid.getD i false with
     | false=>rfl
     | true=>exact absurd ((b_.ld i n1).1 h) EK
    have key:∀ (l:List Bool) (i:Nat),i<l.length->l.getD i false=false->((l.set i true).filter λb=>!b).length<(l.filter λb=>!b).length:=by
     intro l
     induction l with
     | nil=>intro i hi; simp at hi
     | cons y l aU =>
      intro i hi aT;cases i with
      | zero =>
       have:y=false:=by simpa using aT
       subst this;simp
      | succ i =>
       have:=aU i (by simpa using hi) (by simpa using aT);simp only [List.set_cons_succ];cases y <;> simp <;> omega
    exact key laid i IU VQ
theorem SI (g:bO) (ai:g.ba.length<=1000):Tot (C6 g) λl=>e3 od l/\∀ p,p∈l↔ov g.ba p:=by
 unfold C6;refine .ay (Ξ:=λl:List Int=>e3 hR l/\l.length<=1000/\∀ x,x∈l↔∃ (k:Nat) (t:bT),g.ba[k]?=some t/\0<t.bN/\x=t.bN) ?_ λl ai=>?_
 ·refine Tot.upto (λs=>s.2) g.ba.length (λk s=>e3 hR s.1/\s.1.length<=k/\∀ x,x∈s.1↔∃ (j:Nat) (t:bT),g.ba[j]?=some t/\0<t.bN/\x=t.bN/\j<k) rfl (by omega) ⟨.nil,Nat.le_refl 0,λp=>⟨λh=>(by cases h),λ⟨j,t,h⟩=>by omega⟩⟩ λk s hk he bb=>?_;obtain ⟨l,i⟩:=s;obtain ⟨h1,af,aI⟩:=bb;simp only at he h1 af aI ⊢;subst he;rw [eh k (by omega)];refine Tot.bm (λaQ=>?_) (λdG=>.ao ⟨h1,by omega,λx=>(aI x).trans ⟨λ⟨j,t,a,b,c,_⟩=>⟨j,t,a,b,c⟩,λ⟨j,t,a,b,c⟩=>⟨j,t,a,b,c,?_⟩⟩⟩)
  ·have aQ:k<g.ba.length:=by omega
   rw [dT aQ];have mv:g.ba[k]?=some g.ba[k]:=List.getElem?_eq_getElem aQ;simp only [Option.bind_some];refine .ay (Ξ:=λo:List Int=>e3 hR o/\o.length<=k+1/\∀ x,x∈o↔∃ (j:Nat) (t:bT),g.ba[j]?=some t/\0<t.bN/\x=t.bN/\j<k+1) ?_ λo aY=>.ao ⟨aQ,rfl,aY⟩;refine .ay (Ξ:=λo:List Int=>e3 hR o/\o.length<=k+1/\∀ x,x∈o↔∃ (j:Nat) (t:bT),g.ba[j]?=some t/\0<t.bN/\x=t.bN/\j<k+1) ?_ λo aY=>.ao aY;refine Tot.bm (λar=>.ay (Be l _ h1 (by omega)) λr aj=>.ao ⟨aj.1,by have:=aj.2.1; omega,λx=>?_⟩) (λar=>.ao ⟨h1,by omega,λx=>?_⟩)
   ·grind
   grind
  grind
 ·obtain ⟨aR,aE,hm⟩:=ai;refine .ay (Ξ:=λl:List b3=>e3 od l/\∀ p,p∈l↔ov g.ba p) ?_ λr aj=>.ao aj;refine Tot.upto (λs=>s.2) l.length (λk s=>e3 od s.1/\s.1.length<=1000 * k/\∀ p,p∈s.1↔(ov g.ba p/\p.At∈l.take k)) rfl (by omega) ⟨.nil,Nat.le_refl 0,λp=>⟨λh=>(by cases h),λh=>(by simp at h)⟩⟩ λk s hk he bb=>?_;obtain ⟨out,i⟩:=s;obtain ⟨h1,af,aI⟩:=bb;simp only at he h1 af aI ⊢;subst he;rw [eh k (by omega)];refine Tot.bm (λaQ=>?_) (λdG=>.ao ⟨h1,λp=>(aI p).trans ⟨λh=>h.1,λh=>⟨h,?_⟩⟩⟩)
  ·have aQ:k<l.length:=by omega
   have J:∃ x,x=l[k]:=⟨_,rfl⟩;obtain ⟨x,J⟩:=J;have vH:x∈l:=by rw [J]; exact List.getElem_mem aQ
   obtain ⟨_,_,_,il,_⟩:=(hm x).1 vH;have ga:l.take (k+1)=l.take k++[x]:=by rw [List.take_add_one,List.getElem?_eq_getElem aQ,J]; rfl
   have lJ:∀ y∈l.take k,y<x:=λy av=>by
    obtain ⟨j,ag,rfl⟩:=List.mem_iff_getElem.1 av;rw [List.length_take] at ag;rw [List.getElem_take,J];exact Kd.1 (Hc aR (by omega) aQ (by omega))
   refine .ay (Ξ:=λo:List b3=>e3 od o/\o.length<=1000 * (k+1)/\∀ p,p∈o↔(ov g.ba p/\p.At∈l.take (k+1))) ?_ λo aY=>.ao ⟨aQ,rfl,aY⟩;refine Tot.upto (λs=>s.2) g.ba.length (λj s=>e3 od s.1/\s.1.length<=1000 * k+j/\∀ p,p∈s.1↔(ov g.ba p/\(p.At∈l.take k\/(p.At=x/\p.cc<(j:Int))))) rfl (by omega) ⟨h1,by show out.length<=1000 * k+0; omega,λp=>(aI p).trans ⟨λh=>⟨h.1,.inl h.2⟩,λh=>⟨h.1,h.2.elim id λaL=>?_⟩⟩⟩ λj s ag he bb=>?_
   ·obtain ⟨i,t,_,e,_⟩:=h.1.val;omega
   obtain ⟨o,i⟩:=s;obtain ⟨g1,g2,g3⟩:=bb;simp only at he g1 g2 g3 ⊢;subst he;rw [eh j (by omega)];refine Tot.bm (λr5=>?_) (λdG=>.ao ⟨g1,by omega,λp=>(g3 p).trans ?_⟩)
   ·have r5:j<g.ba.length:=by omega
    rw [dT r5,dT aQ,<- J];have mv:g.ba[j]?=some g.ba[j]:=List.getElem?_eq_getElem r5;simp only [Option.bind_some];refine .ay (Ξ:=λo:List b3=>e3 od o/\o.length<=1000 * k+(j+1)/\∀ p,p∈o↔(ov g.ba p/\(p.At∈l.take k\/(p.At=x/\p.cc<((j+1:Nat):Int))))) ?_ λo aY=>.ao ⟨r5,rfl,aY⟩;refine .ay (Ξ:=λo:List b3=>e3 od o/\o.length<=1000 * k+(j+1)/\∀ p,p∈o↔(ov g.ba p/\(p.At∈l.take k\/(p.At=x/\p.cc<((j+1:Nat):Int))))) ?_ λo aY=>.ao aY;refine Tot.bm (λar=>.ay (Ξ:=λ_=>True) (Tot.ap (by simp [lim]; omega) trivial) λ_ _=>.ao ⟨?_,by simp; omega,λp=>?_⟩) (λar=>.ao ⟨g1,by omega,λp=>(g3 p).trans ?_⟩)
    ·refine List.pairwise_append.2 ⟨g1,List.pairwise_singleton ..,λa aR b au=>?_⟩
     grind [Ft]
    ·rw [List.mem_append,List.mem_singleton,g3];constructor
     ·rintro (⟨h,aL | ⟨aL,ig⟩⟩ | rfl)
      ·grind
      ·grind
      ·exact ⟨⟨j,_,mv,by omega,by rw [ar]⟩,.inr ⟨rfl,by show (j:Int)<((j+1:Nat):Int); omega⟩⟩
     ·rintro ⟨h,aL | ⟨aL,ig⟩⟩
      ·grind
      ·by_cases e:p.cc=(j:Int)
       ·right;obtain ⟨a,b⟩:=p
        grind
       grind
    ·constructor
     ·grind
     ·rintro ⟨h,aL | ⟨aL,ig⟩⟩
      ·grind
      ·refine ⟨h,.inr ⟨aL,?_⟩⟩;obtain ⟨i,t,cu,cd,fx,_⟩:=h.val
       grind
   ·rw [ga,List.mem_append,List.mem_singleton];constructor
    ·grind
    ·rintro ⟨h,aL | aL⟩
     ·grind
     ·obtain ⟨i,t,cu,cd,fx,_⟩:=h.val
      grind
  ·rw [List.take_of_length_le (by omega),hm];obtain ⟨i,t,cu,cd,fx,lZ⟩:=h.val
   grind
theorem Mr (l:List Row) (ai:l.length<=200) (aj:∀ r∈l,iy r.e5/\r.e5.length<=1000):Tot (uF l) λr=>r.1=l.map (·.Def)/\r.2.b7.length<=900000/\∃ o,kI (l.map (·.e5)) o/\dt (l.map (·.e5)) o.reverse r.2:=by
 unfold uF;refine .ay (Ξ:=λs:List Int × List (List b3)=>s.1=l.map (·.Def)/\s.2=l.map (·.e5)) ?_ λs aA=>?_
 ·refine Tot.upto (λs=>s.2.2) l.length (λk s=>s.1=(l.take k).map (·.Def)/\s.2.1=(l.take k).map (·.e5)) rfl (by omega) ⟨rfl,rfl⟩ λk s hk he bb=>?_;obtain ⟨A,B,i⟩:=s;obtain ⟨h1,af⟩:=bb;simp only at he h1 af ⊢;subst he h1 af;rw [eh k (by omega)];refine Tot.bm (λaQ=>?_) (λdG=>.ao ?_)
  ·have aQ:k<l.length:=by omega
   rw [dT aQ];refine Tot.aV (.ay (Ξ:=λ_=>True) (Tot.ap (by simp [lim]; omega) trivial) λ_ _=>.ay (Ξ:=λ_=>True) (Tot.ap (by simp [lim]; omega) trivial) λ_ _=>.ao ⟨aQ,rfl,?_,?_⟩)
   all_goals grind [kj]
  grind
 ·obtain ⟨h1,af⟩:=aA;rw [af];have cQ:k9 (l.map (·.e5)):=⟨by simp; omega,λr dN=>by
   grind⟩
  have eH:u5 (l.map (·.e5)):=⟨by simp; omega,λr dN=>by
   grind⟩
  exact .ay (Mv _ eH) λc aa=>.ao ⟨h1,aa.2 cQ⟩
theorem Mu (l:List Row) (ai:l.length<=200) (aj:∀ r∈l,iy r.e5/\r.e5.length<=1000):Tot ((x4 l).bind λx=>(v_ x.2).bind λc=>some (x.1,c)) λr=>r.1=l.map (·.Def)/\∃ o,kI (l.map (·.e5)) o/\dt (l.map (·.e5)) o.reverse r.2:=by
 unfold x4;refine .ay (Ξ:=λs:List Int × List (List b3)=>s.1=l.map (·.Def)/\s.2=l.map (·.e5)) ?_ λs aA=>?_
 ·refine .ay (Ξ:=λs:List Int × List (List b3)=>s.1=l.map (·.Def)/\s.2=l.map (·.e5)) ?_ λs aA=>.ao aA;refine Tot.upto (λs=>s.2.2) l.length (λk s=>s.1=(l.take k).map (·.Def)/\s.2.1=(l.take k).map (·.e5)) rfl (by omega) ⟨rfl,rfl⟩ λk s hk he bb=>?_;obtain ⟨A,B,i⟩:=s;obtain ⟨h1,af⟩:=bb;simp only at he h1 af ⊢;subst he h1 af;rw [eh k (by omega)];refine Tot.bm (λaQ=>?_) (λdG=>.ao ?_)
  ·have aQ:k<l.length:=by omega
   rw [dT aQ];refine Tot.aV (.ay (Ξ:=λ_=>True) (Tot.ap (by simp [lim]; omega) trivial) λ_ _=>Tot.aV (.ay (Ξ:=λ_=>True) (Tot.ap (by simp [lim]; omega) trivial) λ_ _=>.ao ⟨aQ,rfl,?_,?_⟩))
   all_goals grind [kj]
  grind
 ·obtain ⟨h1,af⟩:=aA;rw [af];have cQ:k9 (l.map (·.e5)):=⟨by simp; omega,λr dN=>by
   grind⟩
  have eH:u5 (l.map (·.e5)):=⟨by simp; omega,λr dN=>by
   grind⟩
  exact .ay (tF _ eH) λc aa=>.ao ⟨h1,aa.2 cQ⟩
structure A9 (g:bO) (d:gz) (t:Tables):Prop where
 Ej:t.Def=(d.dI.map qA).map (·.Def)
 gd:t.ot=((List.range g.ca.length).map λa=>qB (eW d a)).map (·.Def)
 ac:∃ o,kI ((d.dI.map qA).map (·.e5)) o/\dt ((d.dI.map qA).map (·.e5)) o.reverse t.dI
 go:∃ o,kI (((List.range g.ca.length).map λa=>qB (eW d a)).map (·.e5)) o/\dt (((List.range g.ca.length).map λa=>qB (eW d a)).map (·.e5)) o.reverse t.jZ
 le:t.Left=g.bj.map (·.Left)
 lh:t.p0=g.bj.map λp=>(p.ef.length:Int)
 s5:e3 od t.p1/\∀ p,p∈t.p1↔ov g.ba p
theorem O9 {rows:List eJ}{c fj:e4}(h:∃ o,kI rows o/\dt rows o.reverse c) (aL:∃ o,kI rows o/\dt rows o.reverse fj):c=fj:=by
 obtain ⟨o,h1,af⟩:=h;obtain ⟨gb,oF,H6⟩:=aL;rw [h1.uniq oF] at af;exact af.Bj rfl (λi r cW e cf p=>by rw [e] at cf; cases cf; exact Iff.rfl) H6
theorem A9.eq {g:bO}{d:gz}{t t':Tables}(h:A9 g d t) (aL:A9 g d t'):t=t':=by
 obtain ⟨aF,a2,a3,a4,a5,RF,RG⟩:=t;obtain ⟨gP,h3,kL,y6,Hh,Ss,St⟩:=t';have cu:aF=gP:=h.Ej.trans aL.Ej.symm;have cd:a2=h3:=O9 h.ac aL.ac;have fx:a3=kL:=h.gd.trans aL.gd.symm;have lZ:a4=y6:=O9 h.go aL.go;have q2:a5=Hh:=h.le.trans aL.le.symm;have acb:RF=Ss:=h.lh.trans aL.lh.symm;have acd:RG=St:=h.s5.1.uniq Kr aL.s5.1 λp=>(h.s5.2 p).trans (aL.s5.2 p).symm
 grind
theorem P4 {g:bO}{n:Nat}{d:gz}(aS:pY g n d):∀ r∈d.dI.map qA,iy r.e5/\r.e5.length<=1000:=λr aj=>by
 have aw:=aS.rU.kk;obtain ⟨q,bg,rfl⟩:=List.mem_map.1 aj;have ai:=(aS.jK q bg).1;have:=wg (lM (kX (red q))) mN q;exact ⟨FT _ _ (by omega),by show (iu _ _ q).length<=_; omega⟩
theorem P5 {g:bO}{n:Nat}{d:gz}(aS:pY g n d):∀ r∈(List.range g.ca.length).map (λa=>qB (eW d a)),iy r.e5/\r.e5.length<=1000:=λr aj=>by
 have kt:=aS.gG;have uh:=aS.o;obtain ⟨a,_,rfl⟩:=List.mem_map.1 aj;have ai:=wY d a;have:=wg (lN (kX (pos (eW d a)))) id (eW d a);exact ⟨FT _ _ (by omega),by show (iu _ _ (eW d a)).length<=_; omega⟩
theorem SG (g:bO) (n:Nat) (d:gz) (aS:pY g n d) (hk:tl g):Tot (uC g d) λt=>A9 g d t/\t.dI.b7.length<=900000/\t.jZ.b7.length<=900000/\t.p1.length<=1000:=by
 have aP:=aS.rU;have aw:=aP.kk;have kb:=aP.dx;have q_:=aP.hE;have kt:=aS.gG;have sJ:=aS.a;have uh:=aS.o;unfold uC;refine .ay (sB g n d aS) λa8 h1=>?_;subst h1;refine .ay (Mr _ (by simp; omega) (P4 aS)) λx2 af=>.ay (Ms g n d aS) λa7 aI=>?_;subst aI;refine .ay (Mr _ (by simp; omega) (P5 aS)) λbx bD=>?_;refine .ay (Ξ:=λs:List Int × List Int=>s.1=g.bj.map (·.Left)/\s.2=g.bj.map λp=>(p.ef.length:Int)) ?_ λbF dS=>.ay (Mt g hk (by omega)) λeu mj=>.ao ⟨⟨af.1,bD.1,af.2.2,bD.2.2,dS.1,dS.2,mj.1,mj.2.2⟩,af.2.1,bD.2.1,mj.2.1⟩;refine Tot.upto (λs=>s.2.2) g.bj.length (λk s=>s.1=(g.bj.take k).map (·.Left)/\s.2.1=(g.bj.take k).map λp=>(p.ef.length:Int)) rfl (by omega) ⟨rfl,rfl⟩ λk s xh he bb=>?_;obtain ⟨A,B,i⟩:=s;obtain ⟨h1,af⟩:=bb;simp only at he h1 af ⊢;subst he h1 af;rw [eh k (by omega)];refine Tot.bm (λaQ=>?_) (λdG=>.ao ?_)
 ·have aQ:k<g.bj.length:=by omega
  rw [dT aQ];refine Tot.aV (.ay (Ξ:=λ_=>True) (Tot.ap (by simp [lim]; omega) trivial) λ_ _=>.ay (Ξ:=λ_=>True) (Tot.ap (by simp [lim]; omega) trivial) λ_ _=>.ao ⟨aQ,rfl,?_,?_⟩)
  all_goals grind [kj]
 grind
theorem nt (g:bO) (n:Nat) (d:gz) (aS:pY g n d):Tot (z7 g d) (A9 g d):=by
 have aP:=aS.rU;have aw:=aP.kk;have kb:=aP.dx;have q_:=aP.hE;have kt:=aS.gG;have sJ:=aS.a;have uh:=aS.o;unfold z7;refine .ay (tD g n d aS) λa8 h1=>?_;subst h1;obtain ⟨r,aj,af⟩:=Mu _ (by simp; omega) (P4 aS);rw [Option.bind_eq_some_iff] at aj;obtain ⟨y2,w4,aj⟩:=aj;rw [Option.bind_eq_some_iff] at aj;obtain ⟨eb,TV,aj⟩:=aj;cases aj;rw [w4,Option.bind_some,TV];refine Tot.aV (.ay (nu g n d aS) λa7 aI=>?_);subst aI;obtain ⟨r,aj,bD⟩:=Mu _ (by simp; omega) (P5 aS);rw [Option.bind_eq_some_iff] at aj;obtain ⟨cV,TW,aj⟩:=aj;rw [Option.bind_eq_some_iff] at aj;obtain ⟨fI,TX,aj⟩:=aj;cases aj;rw [TW,Option.bind_some,TX];refine Tot.aV (.ay (Ξ:=λs:List Int × List Int=>s.1=g.bj.map (·.Left)/\s.2=g.bj.map λp=>(p.ef.length:Int)) ?_ λbF dS=>.ay (SI g (by omega)) λeu mj=>.ao ⟨af.1,bD.1,af.2,bD.2,dS.1,dS.2,mj.1,mj.2⟩);refine Tot.upto (λs=>s.2.2) g.bj.length (λk s=>s.1=(g.bj.take k).map (·.Left)/\s.2.1=(g.bj.take k).map λp=>(p.ef.length:Int)) rfl (by omega) ⟨rfl,rfl⟩ λk s xh he bb=>?_;obtain ⟨A,B,i⟩:=s;obtain ⟨h1,af⟩:=bb;simp only at he h1 af ⊢;subst he h1 af;rw [eh k (by omega)];refine Tot.bm (λaQ=>?_) (λdG=>.ao ?_)
 ·have aQ:k<g.bj.length:=by omega
  rw [dT aQ];refine Tot.aV (.ay (Ξ:=λ_=>True) (Tot.ap (by simp [lim]; omega) trivial) λ_ _=>Tot.aV (.ay (Ξ:=λ_=>True) (Tot.ap (by simp [lim]; omega) trivial) λ_ _=>.ao ⟨aQ,rfl,?_,?_⟩))
  all_goals grind [kj]
 grind
theorem t21 (a:List Int) (h:a.length<=1000000):nh a a=some true:=by
 suffices aA:Tot (nh a a) λr=>r=true by
  obtain ⟨r,aj,e⟩:=aA
  grind
 unfold nh;refine Tot.oD (λh=>absurd rfl h) (λ_=>?_);refine .ay (Ξ:=hG (λ_=>True) (λ_:Bool=>False)) ?_ λx J=>by
  rcases x with x | x
  ·exact .ao rfl
  grind
 refine Tot.upto (λs=>s) a.length (λ_ _=>True) rfl (by omega) trivial λk i hk he _=>?_;subst he;rw [eh k (by omega)];refine Tot.bm (λaQ=>?_) (λ_=>.ao trivial);have aQ:k<a.length:=by omega
 simp only [dT aQ,Option.bind_some,decide_true,Bool.not_true,cond_false];exact .ao ⟨aQ,rfl,trivial⟩
theorem O_ {rows:List eJ}{c:e4}(h:∃ o,kI rows o/\dt rows o.reverse c):c.cc.length=c.b7.length/\c.c5.length=rows.length:=by
 obtain ⟨o,_,h⟩:=h;exact h.len
theorem t3 (s:Source) (x:rG):C2 s x=some true:=by
 suffices h:Tot (C2 s x) λr=>r=true by
  obtain ⟨r,aj,e⟩:=h
  grind
 unfold C2;rw [ZY];refine Tot.aV (.ay (t9 s) λa7 aI=>.ay (t10 x) λbx bD=>?_);refine Tot.ay (Ξ:=hG (λ_=>True) (λ_=>False)) ?_ λr aj=>by
  rcases r with r | r
  ·exact .ao rfl
  grind
 refine Tot.count (λs=>s) 2 (λs=>0<=s) (Int.le_refl _) (by decide) λi hi=>?_;refine Tot.bm (λaQ=>?_) (λ_=>.ao trivial);have up:(0<=aM (i+1))/\i<aM (i+1)/\aM (i+1)<=2:=by
  grind [cK]
 obtain ⟨y,av,eI⟩:=ZJ a7 bx hi aQ;have au:qV y:=by rcases eI with rfl | rfl <;> assumption
 rw [av];refine Tot.aV (.ay (SF y au) λD aS=>?_);refine .ay (Ξ:=λc=>c=false) (Tot.bB (λh=>?_) (λ_=>.ao rfl)) λc aa=>by
  subst aa;exact .ao ⟨up.1,up.2⟩
 obtain ⟨⟨n,oG⟩,hk⟩:=aS h;generalize D.1=g at *;generalize D.2.1=d at *;have aP:=oG.rU;have aw:=aP.kk;have kb:=aP.dx;have q_:=aP.hE;have kt:=oG.gG;have sJ:=oG.a;refine .ay (SG g n d oG hk) λt b_=>.ay (nt g n d oG) λt' EC=>?_;have e:=b_.1.eq EC;subst e;obtain ⟨b_,ek,c9,bd⟩:=b_;have XE:=O_ b_.ac;have Fi:=O_ b_.go;have gj:t.Def.length<=1000000:=by rw [b_.Ej]; simp; omega
 have fL:t.ot.length<=1000000:=by rw [b_.gd]; simp; omega
 have adm:t.Left.length<=1000000:=by rw [b_.le]; simp; omega
 have adn:t.p0.length<=1000000:=by rw [b_.lh]; simp; omega
 have ado:t.dI.c5.length<=1000000:=by rw [XE.2]; simp; omega
 have adp:t.jZ.c5.length<=1000000:=by rw [Fi.2]; simp; omega
 have TK:∀ c:e4,c.c5.length<=1000000->c.cc.length=c.b7.length->c.b7.length<=900000->Ad c c=some true:=λc h1 af aI=>by
  grind [Ad,t21]
 have MR:CU t t=some true:=by
  grind [CU,t21,t33]
 rw [MR];exact .ao rfl
end Go.Proofs
namespace Go.Own
open Go
section
variable {P:Program}{N:c6}{ops:Array Oper}{bf:List (List Nat)}{g g0:aJ}{K:aJ->Prop}{l:List Oper}{acc:Acc}{d i j t':Nat}{op:Op}{ty:TypeId}{pos:String}{after:Array Edge}{x:ab}{b c:Bool}
theorem gA (au:c=!b) (hk:aC P N ops l (cT g d (.bX [])) K) (h:(ops[j]?).bind (·.dst)=some t':=by rfl) (aP:g t'=some (.lit (.bool c)):=by rfl) (bd:N.ok d=true:=by rfl) (aW:g d=none:=by rfl):aC P N ops (⟨some d,op,ty,pos,after,some (j,b)⟩::l) g K:=.ps h aP au bd aW hk
theorem D5 (hk:aC P N ops l (cT g d (.bX [])) K) (h:(ops[j]?).bind (·.dst)=some t':=by rfl) (aP:g t'=some (.bX []):=by rfl) (bd:N.ok d=true:=by rfl) (aW:g d=none:=by rfl):aC P N ops (⟨some d,op,ty,pos,after,some (j,b)⟩::l) g K:=.pu h aP bd aW hk
theorem bZ (au:c=b) (ar:ck P g op ty x) (hk:aC P N ops l (cT g d x) K) (h:(ops[j]?).bind (·.dst)=some t':=by rfl) (aP:g t'=some (.lit (.bool c)):=by rfl) (bd:N.ok d=true:=by rfl) (aW:g d=none:=by rfl):aC P N ops (⟨some d,op,ty,pos,after,some (j,b)⟩::l) g K:=.v ar bd aW (.jJ h aP au) hk
theorem Rv (hk:aC P N ops l (cT g d (.bX [])) K) (h:(ops[j]?).bind (·.dst)=some t':=by rfl) (aP:g t'=some (.lit (.bool c)):=by rfl) (au:c=!b:=by assumption) (bd:N.ok d=true:=by rfl) (aW:g d=none:=by rfl):aC P N ops (⟨some d,op,ty,pos,after,some (j,b)⟩::l) g K:=.ps h aP au bd aW hk
theorem fh (ar:ck P g op ty x) (hk:aC P N ops l (cT g d x) K) (h:(ops[j]?).bind (·.dst)=some t':=by rfl) (aP:g t'=some (.lit (.bool c)):=by rfl) (au:c=b:=by assumption) (bd:N.ok d=true:=by rfl) (aW:g d=none:=by rfl):aC P N ops (⟨some d,op,ty,pos,after,some (j,b)⟩::l) g K:=.v ar bd aW (.jJ h aP au) hk
theorem ib (bG:Nat) (au:c=!b) (hk:bw P N ops bf g0 i ((bG,d,some (.bX []))::acc) l K) (h:(ops[j]?).bind (·.dst)=some t':=by rfl) (aP:jt bf g0 bG acc t'=some (a_ c):=by rfl) (ag:Nat.beq ops.size (bG+l.length+1)=true:=by rfl) (aW:g0 d=none:=by rfl) (aE:acc.all (λe=>!Nat.beq e.2.1 d)=true:=by rfl) (bd:N.ok d=true:=by rfl):bw P N ops bf g0 i acc (⟨some d,op,ty,pos,after,some (j,b)⟩::l) K:=.ps bG h aP au ag aW aE bd hk
theorem k4 (bG:Nat) (hk:bw P N ops bf g0 i ((bG,d,some (.bX []))::acc) l K) (h:(ops[j]?).bind (·.dst)=some t':=by rfl) (aP:jt bf g0 bG acc t'=some (.bX []):=by rfl) (ag:Nat.beq ops.size (bG+l.length+1)=true:=by rfl) (aW:g0 d=none:=by rfl) (aE:acc.all (λe=>!Nat.beq e.2.1 d)=true:=by rfl) (bd:N.ok d=true:=by rfl):bw P N ops bf g0 i acc (⟨some d,op,ty,pos,after,some (j,b)⟩::l) K:=.pu bG h aP ag aW aE bd hk
theorem iT (bG:Nat) (au:c=b) (ar:ck P (jt bf g0 bG acc) op ty x) (hk:bw P N ops bf g0 i ((bG,d,some x)::acc) l K) (h:(ops[j]?).bind (·.dst)=some t':=by rfl) (aP:jt bf g0 bG acc t'=some (.lit (.bool c)):=by rfl) (ag:Nat.beq ops.size (bG+l.length+1)=true:=by rfl) (aW:g0 d=none:=by rfl) (aE:acc.all (λe=>!Nat.beq e.2.1 d)=true:=by rfl) (bd:N.ok d=true:=by rfl):bw P N ops bf g0 i acc (⟨some d,op,ty,pos,after,some (j,b)⟩::l) K:=.v bG ar ag aW aE bd (.jJ h aP au) hk
end
section
variable {P:Program}{N:c6}{ops:Array Oper}{g:aJ}{K:aJ->Prop}{l:List Oper}{A B:Code}{G G1:List (Nat × ab)}{Φ:Exit->aJ->Prop}{t id:Nat}{b:Bool}{α:Type}{X Y o:α}
theorem W.b4 (h:(bif b then X else Y)=o) (aa:get G t=some (a_ b)) (dK:b=true->X=o->W P N A (get G) Φ) (aO:b=false->Y=o->W P N B (get G) Φ):W P N (.cond (.tmp t) A B) (get G) Φ:=W.fG aa (λe=>dK e (S9 e h)) (λe=>aO e (S8 e h))
def pick (g:aJ):List Nat->Option (List (Nat × ab))
 | []=>some []
 | k::ks=>match g k with
  | some x=>match pick g ks with
   | some l=>some ((k,x)::l)
   | none=>none
  | none=>none
class ix (l:List (Nat × ab)):Prop where p:∀ e∈l,cS e.2
instance:ix []:=⟨λ_ h=>by cases h⟩
instance {k:Nat}{x:ab}{l:List (Nat × ab)} [h:ch x] [ai:ix l]:ix ((k,x)::l):=⟨λe he=>by
 rcases List.mem_cons.1 he with rfl | he
 ·exact h.bo
 ·exact ai.p e he⟩
theorem uJ {c:Bool}{g g2:aJ}:∀ {ks:List Nat}{G1:List (Nat × ab)},pick g ks=some G1->(∀ e∈G1,cS e.2)->Trim c g g2 G1
 | [],_,h,_=>by cases h; exact .nil
 | k::ks,G1,h,aE=>by
  unfold pick at h
  split at h
  ·rename_i x J
   split at h
   ·rename_i l ai;cases h;have:ch x:=⟨aE (k,x) (by simp)⟩;exact .n J (uJ ai λe he=>aE e (by simp [he]))
   ·cases h
  ·cases h
structure yO (ks:List Nat) (G1:List (Nat × ab)) (g':aJ):Prop where p:j4 g' (get G1)
theorem bL {ks:List Nat}(h:pick g ks=some G1) [aE:ix G1]:aC P N ops [] g (yO ks G1):=.nil ⟨(uJ (c:=true) (g2:=get G1) h aE.p).eY⟩
theorem O4 {l:List Oper}{ks:List Nat}(h:aC P N l.toArray l g (yO ks G1)):aC P N l.toArray l g λg'=>j4 g' (get G1):=λi hi=>by
 obtain ⟨g',h1,af⟩:=h i hi;exact ⟨g',h1,af.p⟩
theorem aC.bW (ks:List Nat) (h:pick g ks=some G1) [aE:ix G1] (hk:aC P N ops l (get G1) K):aC P N ops l g K:=.Ds (uJ h aE.p) hk
theorem W.bW {l:List Oper}(ks:List Nat) (h:aC P N l.toArray l (get G) (yO ks G1)) (hk:aB .normal Φ G1):W P N (.region id l.toArray false) (get G) Φ:=W.rx G1 (O4 h) hk
theorem W.rs {l:List Oper}(G1:List (Nat × ab)) (h:aC P N l.toArray l (get G) λg'=>j4 g' (get G1)) (hk:W P N B (get G1) Φ):W P N (.seq (.region id l.toArray false) B) (get G) Φ:=W.bK (W.rx G1 h (aB.bE hk))
theorem W.cM {l:List Oper}(ks:List Nat) (h:aC P N l.toArray l (get G) (yO ks G1)) (hk:W P N B (get G1) Φ):W P N (.seq (.region id l.toArray false) B) (get G) Φ:=W.rs G1 (O4 h) hk
end
end Go.Own
namespace Go.Own
open Go
class fO (P:Program) (t:TypeId):Prop where p:jA P t=true:=by kernel_rfl
class iU (P:Program) (t:TypeId):Prop where p:oV P t=true:=by kernel_rfl
class ep (P:Program) (t:TypeId) (e:outParam TypeId) (z:outParam Nat):Prop where p:ft P t e z=true:=by kernel_rfl
class c' (P:Program) (s:TypeId) (f:Nat) (off:outParam Nat) (t:outParam TypeId):Prop where p:iJ P s f off t=true:=by kernel_rfl
section
variable {P:Program}{N:c6}{ops:Array Oper}{g:aJ}{K:aJ->Prop}{l:List Oper}{ty t:TypeId}{a:Operand}{k r z n:Nat}{cs jB:List ab}
theorem O.oS {v:Value}(aA:g r=some (.obj cs)) (J:Rd g a (.ptr ⟨r,[]⟩ k)) (aw:jA P t=true) (aa:cs[k]?=some (.lit v)):ck P g (.load t a) ty (.lit v):=O.pF aA J aw aa rfl
theorem O.zJ (aA:g r=some (.obj cs)) (J:Rd g a (.ptr ⟨r,[]⟩ k)) (aw:jA P t=true) (aa:cs[k]?=some (.bn z n jB)):ck P g (.load t a) ty (.bn z n jB):=O.pF aA J aw aa rfl
theorem O.zK (aA:g r=some (.obj cs)) (J:Rd g a (.ptr ⟨r,[]⟩ k)) (aw:jA P t=true) (aa:cs[k]?=some (.own z n jB)):ck P g (.load t a) ty (.a6 z ⟨r,[k]⟩ n):=O.pF aA J aw aa rfl
end
section
variable {P:Program}{N:c6}{ops:Array Oper}{g:aJ}{K:aJ->Prop}{l:List Oper}{t0 d:Nat}{t1 t2 ty:TypeId}{aF a2 a3:Operand}{nL:Nat}{v0:Value}{pos:String}{after:Array Edge}{op:Op}{ach:Nat × Bool}
theorem aC.bP (op:Op) (u:Option (Nat × Bool)) (h:aC P N ops (⟨some d,op,ty,pos,after,u⟩::l) g K):aC P N ops (⟨some d,op,ty,pos,after,u⟩::l) g K:=h
theorem aC.nl (h:aC P N ops [] g K):aC P N ops [] g K:=h
theorem aC.R_ {o:Oper}{gj fL:List Oper}(h:aC P N ops (o::List.append gj fL) g K):aC P N ops (List.append (o::gj) fL) g K:=h
theorem aC.Sa {fL:List Oper}(h:aC P N ops fL g K):aC P N ops (List.append [] fL) g K:=h
theorem aC.bq (h:aC P N ops l g K:=by
(repeat' (first
 | exact jY .nil
 | exact .nil
 | refine .n rfl ?_
 | (first
  | ((with_reducible apply aC.bP (.move (.tmp _)) none); (first | refine cX rfl ?_ | refine aq (O.aZ (.bn rfl)) ?_ | refine aq (O.aZ (.own rfl)) ?_ | refine aq (O.aZ (.obj rfl)) ?_ | refine aq (O.aZ (.cG rfl)) ?_ | refine aq (O.aZ (.ptr rfl)) ?_ | refine aq (O.aZ (.a6 rfl)) ?_))
  | ((with_reducible apply aC.bP (.load _ _) none); (first | refine aq (O.oS rfl (.ptr rfl) fO.p rfl) ?_ | refine aq (O.Cw (.cG rfl) fO.p rfl) ?_ | refine aq (O.zJ rfl (.ptr rfl) fO.p rfl) ?_ | refine aq (O.oS rfl (.obj rfl) fO.p rfl) ?_ | refine aq (O.zJ rfl (.obj rfl) fO.p rfl) ?_ | refine aq (O.zK rfl (.ptr rfl) fO.p rfl) ?_ | refine aq (O.zK rfl (.obj rfl) fO.p rfl) ?_))
  | ((with_reducible apply aC.bP (.fieldAddr _ _ _) none); (first | refine aq (O.mi rfl (.obj rfl) c'.p rfl) ?_ | refine aq (O.Bp (.cG rfl) c'.p) ?_ | refine aq (O.mi rfl (.ptr rfl) c'.p rfl) ?_))
  | ((with_reducible apply aC.bP (.assign (.tmp _)) none); (first | refine G6 rfl ?_ | refine aq (O.az (.bn rfl)) ?_ | refine aq (O.az (.own rfl)) ?_ | refine aq (O.az (.obj rfl)) ?_ | refine aq (O.az (.cG rfl)) ?_ | refine aq (O.az (.ptr rfl)) ?_ | refine aq (O.az (.a6 rfl)) ?_))
  | ((with_reducible apply aC.bP (.assign (.const _)) none); (first | refine RA rfl ?_ | refine aq (O.az .xM) ?_))
  | ((with_reducible apply aC.bP (.indexAddr _ _ _) none); (first | refine aq (O.re (.bn rfl) (.lit rfl) ep.p (by assumption)) ?_ | refine aq (O.re (.bn rfl) (.k rfl) ep.p (by assumption)) ?_))
  | ((with_reducible apply aC.bP (.binOp .add _ _ _ _) none); (first | refine aq (O.add (.lit rfl) (.k rfl)) ?_ | refine aq (O.add (.lit rfl) (.lit rfl)) ?_ | refine aq (O.add (.k rfl) (.lit rfl)) ?_))
  | ((with_reducible apply aC.bP (.binOp .lss _ _ _ _) none); (first | refine aq (O.lss (.lit rfl) (.k rfl)) ?_ | refine aq (O.lss (.lit rfl) (.lit rfl)) ?_ | refine aq (O.lss (.k rfl) (.lit rfl)) ?_))
  | ((with_reducible apply aC.bP (.binOp .eql _ _ _ _) none); (first | refine aq (O.eql (.lit rfl) (.k rfl)) ?_ | refine aq (O.eql (.lit rfl) (.lit rfl)) ?_ | refine aq (O.eql (.k rfl) (.lit rfl)) ?_ | refine aq (O.qb (.lit rfl) (.lit rfl)) ?_ | refine aq (O.qb (.lit rfl) (.k rfl)) ?_))
  | ((with_reducible apply aC.bP (.binOp .neq _ _ _ _) none); (first | refine aq (O.neq (.lit rfl) (.k rfl)) ?_ | refine aq (O.neq (.lit rfl) (.lit rfl)) ?_ | refine aq (O.neq (.k rfl) (.lit rfl)) ?_ | refine aq (O.og (.lit rfl) (.lit rfl)) ?_ | refine aq (O.og (.lit rfl) (.k rfl)) ?_))
  | ((with_reducible apply aC.bP (.binOp .geq _ _ _ _) none); (first | refine aq (O.geq (.lit rfl) (.k rfl)) ?_ | refine aq (O.geq (.lit rfl) (.lit rfl)) ?_ | refine aq (O.geq (.k rfl) (.lit rfl)) ?_))
  | ((with_reducible apply aC.bP (.binOp .gtr _ _ _ _) none); (first | refine aq (O.gtr (.lit rfl) (.k rfl)) ?_ | refine aq (O.gtr (.lit rfl) (.lit rfl)) ?_ | refine aq (O.gtr (.k rfl) (.lit rfl)) ?_))
  | ((with_reducible apply aC.bP (.binOp .sub _ _ _ _) none); (first | refine aq (O.sub (.lit rfl) (.k rfl)) ?_ | refine aq (O.sub (.lit rfl) (.lit rfl)) ?_ | refine aq (O.sub (.k rfl) (.lit rfl)) ?_))
  | ((with_reducible apply aC.bP (.binOp .leq _ _ _ _) none); (first | refine aq (O.leq (.lit rfl) (.k rfl)) ?_ | refine aq (O.leq (.lit rfl) (.lit rfl)) ?_ | refine aq (O.leq (.k rfl) (.lit rfl)) ?_))
  | ((with_reducible apply aC.bP (.pick _ _ _) none); (first | refine aq (O.hT (.lit rfl) rfl (.lit rfl)) ?_ | refine aq (O.kz (.lit rfl) rfl (.lit rfl)) ?_ | refine aq (O.hT (.lit rfl) rfl (.k rfl)) ?_ | refine aq (O.kz (.lit rfl) rfl (.k rfl)) ?_ | refine aq (O.hT (.lit rfl) (by assumption) (.lit rfl)) ?_ | refine aq (O.kz (.lit rfl) (by assumption) (.lit rfl)) ?_ | refine aq (O.hT (.lit rfl) (by assumption) (.k rfl)) ?_ | refine aq (O.kz (.lit rfl) (by assumption) (.k rfl)) ?_))
  | ((with_reducible apply aC.bP (.call { callee:=.builtin .len,args:=#[_],argTypes:=#[_] }) none); (first | refine aq (O.jb (.bn rfl) ep.p) ?_ | refine aq (O.mz (.a6 rfl) ep.p) ?_ | refine aq (O.mz (.own rfl) ep.p) ?_ | refine aq (O.ux (.lit rfl) iU.p) ?_))
  | ((with_reducible apply aC.bP (.unOp .not _ _) none); (first | refine aq (O.not (.lit rfl)) ?_))
  | ((with_reducible apply aC.bP (.nilCheck _) none); (first | refine aq (O.eT (.ptr rfl)) ?_ | refine aq (O.xS (.cG rfl)) ?_ | refine aq (O.eT (.obj rfl)) ?_))
  | ((with_reducible apply aC.bP (.index _ _ _) none); (first | refine aq (O.lX (.lit rfl) (.lit rfl) iU.p (by assumption)) ?_))
  | ((with_reducible apply aC.bP (.move (.const _)) none); (first | refine aq (O.aZ (.k rfl)) ?_ | refine aq (O.aZ .xM) ?_)))
 | ((with_reducible apply aC.nl); first | exact bL rfl | refine jY ?_)
 | ((with_reducible apply aC.bP _ (some _)); first
  | (first | refine gA rfl ?_ | refine Rv ?_ | refine D5 ?_)
  | ((with_reducible apply aC.bP (.move (.tmp _)) (some _)); (first | refine bZ rfl (O.aZ (.lit rfl)) ?_ | refine fh (O.aZ (.lit rfl)) ?_ | refine bZ rfl (O.aZ (.bn rfl)) ?_ | refine fh (O.aZ (.bn rfl)) ?_ | refine bZ rfl (O.aZ (.own rfl)) ?_ | refine fh (O.aZ (.own rfl)) ?_ | refine bZ rfl (O.aZ (.obj rfl)) ?_ | refine fh (O.aZ (.obj rfl)) ?_ | refine bZ rfl (O.aZ (.cG rfl)) ?_ | refine fh (O.aZ (.cG rfl)) ?_ | refine bZ rfl (O.aZ (.ptr rfl)) ?_ | refine fh (O.aZ (.ptr rfl)) ?_ | refine bZ rfl (O.aZ (.a6 rfl)) ?_ | refine fh (O.aZ (.a6 rfl)) ?_))
  | ((with_reducible apply aC.bP (.load _ _) (some _)); (first | refine bZ rfl (O.oS rfl (.ptr rfl) fO.p rfl) ?_ | refine fh (O.oS rfl (.ptr rfl) fO.p rfl) ?_ | refine bZ rfl (O.Cw (.cG rfl) fO.p rfl) ?_ | refine fh (O.Cw (.cG rfl) fO.p rfl) ?_ | refine bZ rfl (O.zJ rfl (.ptr rfl) fO.p rfl) ?_ | refine fh (O.zJ rfl (.ptr rfl) fO.p rfl) ?_ | refine bZ rfl (O.oS rfl (.obj rfl) fO.p rfl) ?_ | refine fh (O.oS rfl (.obj rfl) fO.p rfl) ?_ | refine bZ rfl (O.zJ rfl (.obj rfl) fO.p rfl) ?_ | refine fh (O.zJ rfl (.obj rfl) fO.p rfl) ?_ | refine bZ rfl (O.zK rfl (.ptr rfl) fO.p rfl) ?_ | refine fh (O.zK rfl (.ptr rfl) fO.p rfl) ?_ | refine bZ rfl (O.zK rfl (.obj rfl) fO.p rfl) ?_ | refine fh (O.zK rfl (.obj rfl) fO.p rfl) ?_))
  | ((with_reducible apply aC.bP (.fieldAddr _ _ _) (some _)); (first | refine bZ rfl (O.mi rfl (.obj rfl) c'.p rfl) ?_ | refine fh (O.mi rfl (.obj rfl) c'.p rfl) ?_ | refine bZ rfl (O.Bp (.cG rfl) c'.p) ?_ | refine fh (O.Bp (.cG rfl) c'.p) ?_ | refine bZ rfl (O.mi rfl (.ptr rfl) c'.p rfl) ?_ | refine fh (O.mi rfl (.ptr rfl) c'.p rfl) ?_))
  | ((with_reducible apply aC.bP (.indexAddr _ _ _) (some _)); (first | refine bZ rfl (O.re (.bn rfl) (.lit rfl) ep.p (by assumption)) ?_ | refine fh (O.re (.bn rfl) (.lit rfl) ep.p (by assumption)) ?_ | refine bZ rfl (O.re (.bn rfl) (.k rfl) ep.p (by assumption)) ?_ | refine fh (O.re (.bn rfl) (.k rfl) ep.p (by assumption)) ?_))
  | ((with_reducible apply aC.bP (.binOp .add _ _ _ _) (some _)); (first | refine bZ rfl (O.add (.lit rfl) (.k rfl)) ?_ | refine fh (O.add (.lit rfl) (.k rfl)) ?_ | refine bZ rfl (O.add (.lit rfl) (.lit rfl)) ?_ | refine fh (O.add (.lit rfl) (.lit rfl)) ?_ | refine bZ rfl (O.add (.k rfl) (.lit rfl)) ?_ | refine fh (O.add (.k rfl) (.lit rfl)) ?_))
  | ((with_reducible apply aC.bP (.binOp .lss _ _ _ _) (some _)); (first | refine bZ rfl (O.lss (.lit rfl) (.k rfl)) ?_ | refine fh (O.lss (.lit rfl) (.k rfl)) ?_ | refine bZ rfl (O.lss (.lit rfl) (.lit rfl)) ?_ | refine fh (O.lss (.lit rfl) (.lit rfl)) ?_ | refine bZ rfl (O.lss (.k rfl) (.lit rfl)) ?_ | refine fh (O.lss (.k rfl) (.lit rfl)) ?_))
  | ((with_reducible apply aC.bP (.binOp .eql _ _ _ _) (some _)); (first | refine bZ rfl (O.eql (.lit rfl) (.k rfl)) ?_ | refine fh (O.eql (.lit rfl) (.k rfl)) ?_ | refine bZ rfl (O.eql (.lit rfl) (.lit rfl)) ?_ | refine fh (O.eql (.lit rfl) (.lit rfl)) ?_ | refine bZ rfl (O.eql (.k rfl) (.lit rfl)) ?_ | refine fh (O.eql (.k rfl) (.lit rfl)) ?_ | refine bZ rfl (O.qb (.lit rfl) (.lit rfl)) ?_ | refine fh (O.qb (.lit rfl) (.lit rfl)) ?_ | refine bZ rfl (O.qb (.lit rfl) (.k rfl)) ?_ | refine fh (O.qb (.lit rfl) (.k rfl)) ?_))
  | ((with_reducible apply aC.bP (.binOp .neq _ _ _ _) (some _)); (first | refine bZ rfl (O.neq (.lit rfl) (.k rfl)) ?_ | refine fh (O.neq (.lit rfl) (.k rfl)) ?_ | refine bZ rfl (O.neq (.lit rfl) (.lit rfl)) ?_ | refine fh (O.neq (.lit rfl) (.lit rfl)) ?_ | refine bZ rfl (O.neq (.k rfl) (.lit rfl)) ?_ | refine fh (O.neq (.k rfl) (.lit rfl)) ?_ | refine bZ rfl (O.og (.lit rfl) (.lit rfl)) ?_ | refine fh (O.og (.lit rfl) (.lit rfl)) ?_ | refine bZ rfl (O.og (.lit rfl) (.k rfl)) ?_ | refine fh (O.og (.lit rfl) (.k rfl)) ?_))
  | ((with_reducible apply aC.bP (.binOp .geq _ _ _ _) (some _)); (first | refine bZ rfl (O.geq (.lit rfl) (.k rfl)) ?_ | refine fh (O.geq (.lit rfl) (.k rfl)) ?_ | refine bZ rfl (O.geq (.lit rfl) (.lit rfl)) ?_ | refine fh (O.geq (.lit rfl) (.lit rfl)) ?_ | refine bZ rfl (O.geq (.k rfl) (.lit rfl)) ?_ | refine fh (O.geq (.k rfl) (.lit rfl)) ?_))
  | ((with_reducible apply aC.bP (.binOp .gtr _ _ _ _) (some _)); (first | refine bZ rfl (O.gtr (.lit rfl) (.k rfl)) ?_ | refine fh (O.gtr (.lit rfl) (.k rfl)) ?_ | refine bZ rfl (O.gtr (.lit rfl) (.lit rfl)) ?_ | refine fh (O.gtr (.lit rfl) (.lit rfl)) ?_ | refine bZ rfl (O.gtr (.k rfl) (.lit rfl)) ?_ | refine fh (O.gtr (.k rfl) (.lit rfl)) ?_))
  | ((with_reducible apply aC.bP (.binOp .sub _ _ _ _) (some _)); (first | refine bZ rfl (O.sub (.lit rfl) (.k rfl)) ?_ | refine fh (O.sub (.lit rfl) (.k rfl)) ?_ | refine bZ rfl (O.sub (.lit rfl) (.lit rfl)) ?_ | refine fh (O.sub (.lit rfl) (.lit rfl)) ?_ | refine bZ rfl (O.sub (.k rfl) (.lit rfl)) ?_ | refine fh (O.sub (.k rfl) (.lit rfl)) ?_))
  | ((with_reducible apply aC.bP (.binOp .leq _ _ _ _) (some _)); (first | refine bZ rfl (O.leq (.lit rfl) (.k rfl)) ?_ | refine fh (O.leq (.lit rfl) (.k rfl)) ?_ | refine bZ rfl (O.leq (.lit rfl) (.lit rfl)) ?_ | refine fh (O.leq (.lit rfl) (.lit rfl)) ?_ | refine bZ rfl (O.leq (.k rfl) (.lit rfl)) ?_ | refine fh (O.leq (.k rfl) (.lit rfl)) ?_))
  | ((with_reducible apply aC.bP (.call { callee:=.builtin .len,args:=#[_],argTypes:=#[_] }) (some _)); (first | refine bZ rfl (O.jb (.bn rfl) ep.p) ?_ | refine fh (O.jb (.bn rfl) ep.p) ?_ | refine bZ rfl (O.mz (.a6 rfl) ep.p) ?_ | refine fh (O.mz (.a6 rfl) ep.p) ?_ | refine bZ rfl (O.mz (.own rfl) ep.p) ?_ | refine fh (O.mz (.own rfl) ep.p) ?_ | refine bZ rfl (O.ux (.lit rfl) iU.p) ?_ | refine fh (O.ux (.lit rfl) iU.p) ?_))
  | ((with_reducible apply aC.bP (.unOp .not _ _) (some _)); (first | refine bZ rfl (O.not (.lit rfl)) ?_ | refine fh (O.not (.lit rfl)) ?_))
  | ((with_reducible apply aC.bP (.nilCheck _) (some _)); (first | refine bZ rfl (O.eT (.ptr rfl)) ?_ | refine fh (O.eT (.ptr rfl)) ?_ | refine bZ rfl (O.xS (.cG rfl)) ?_ | refine fh (O.xS (.cG rfl)) ?_ | refine bZ rfl (O.eT (.obj rfl)) ?_ | refine fh (O.eT (.obj rfl)) ?_))
  | ((with_reducible apply aC.bP (.index _ _ _) (some _)); (first | refine bZ rfl (O.lX (.lit rfl) (.lit rfl) iU.p (by assumption)) ?_ | refine fh (O.lX (.lit rfl) (.lit rfl) iU.p (by assumption)) ?_)))
 | with_reducible apply aC.R_
 | with_reducible apply aC.Sa))):aC P N ops l g K:=h
theorem W.R0 {id:Nat}{l:List Oper}{G G1:List (Nat × ab)}{Φ:Exit->aJ->Prop}(ks:List Nat) (hk:aB .normal Φ G1) (h:aC P N l.toArray l (get G) (yO ks G1):=by exact aC.bq):W P N (.region id l.toArray false) (get G) Φ:=W.bW ks h hk
theorem W.az {id:Nat}{l:List Oper}{B:Code}{G:List (Nat × ab)}{Φ:Exit->aJ->Prop}(G1:List (Nat × ab)) (hk:W P N B (get G1) Φ) (h:aC P N l.toArray l (get G) (λg'=>j4 g' (get G1)):=by exact aC.bq):W P N (.seq (.region id l.toArray false) B) (get G) Φ:=W.rs G1 h hk
theorem W.cz {id:Nat}{l:List Oper}{B:Code}{G G1:List (Nat × ab)}{Φ:Exit->aJ->Prop}(ks:List Nat) (hk:W P N B (get G1) Φ) (h:aC P N l.toArray l (get G) (yO ks G1):=by exact aC.bq):W P N (.seq (.region id l.toArray false) B) (get G) Φ:=W.cM ks h hk
end
end Go.Own
namespace Go.Own
open Go
section
variable {P:Program}{N:c6}{G:List (Nat × ab)}{g':aJ}
theorem iX {rs:List ResultVar}{ys xs:List ab}{res:ab}{outs:List (Option ab)}{n:Nat}(h:j0 P (get G) rs ys xs g') (he:qz xs=res:=by rfl) (aY:qT g' N.pins 0 outs:=by (repeat' first | exact .nil | refine .no ?_)) (fr:(rs.filterMap fun | .cell t _=>some t | _=>none).Nodup:=by exact of_decide_eq_true (by kernel_rfl)) (ai:outs.length=n:=by rfl):aB .ret (pZ P N rs n outs res) G:=aB.fin (Fin.ro h he fr aY ai (.inr rfl))
end
end Go.Own
namespace Go.Own
open Go
section
variable {P:Program}{N:c6}{G:List (Nat × ab)}{g':aJ}{S R:Type}
theorem aK {α β:Type}{x:Option α}{f:α->Option β}{r:β}{G:Prop}(h:x.bind f=some r) (k:∀ a,x=some a->f a=some r->G):G:=by
 obtain ⟨a,h1,af⟩:=tC h
 grind
theorem Rd.bh {g:aJ}{t:Nat}{v:Value}(h:g t=some (.lit v):=by rfl):Rd g (.tmp t) (.lit v):=.lit h
theorem Rd.z2 {g:aJ}{t z n:Nat}{cs:List ab}(h:g t=some (.bn z n cs):=by rfl):Rd g (.tmp t) (.bn z n cs):=.bn h
theorem Rd.z3 {g:aJ}{t z n:Nat}{cs:List ab}(h:g t=some (.own z n cs):=by rfl):Rd g (.tmp t) (.a6 z ⟨t,[]⟩ n):=.own h
theorem Rd.z4 {g:aJ}{t:Nat}{c:ab}{cs:List ab}(h:g t=some (.obj (c::cs)):=by rfl):Rd g (.tmp t) (.ptr ⟨t,[]⟩ 0):=.obj h
theorem Rd.z5 {g:aJ}{t k:Nat}{p:Place}(h:g t=some (.ptr p k):=by rfl):Rd g (.tmp t) (.ptr p k):=.ptr h
theorem Rd.dk {g:aJ}{t z n:Nat}{p:Place}(h:g t=some (.a6 z p n):=by rfl):Rd g (.tmp t) (.a6 z p n):=.a6 h
theorem Rd.nT {g:aJ}{t:Nat}{cs:List ab}(h:g t=some (.cG cs):=by rfl):Rd g (.tmp t) (.cG cs):=.cG h
theorem Rd.cH {g:aJ}{v:Value}(h:ofConst v=.lit v:=by rfl):Rd g (.const v) (.lit v):=.k h
theorem aB.d_ {G1:List (Nat × ab)}(h:Trim true (get G) (get G1) G1:=by (repeat' first | exact .nil | refine .n rfl ?_)):aB .normal (λe g=>e=.normal/\ia g G1) G:=aB.dE h
theorem aB.gt {s:S}{F:S->List (Nat × ab)}{Ψ:R->Exit->aJ->Prop}(h:Trim true (get G) (get (F s)) (F s):=by (repeat' first | exact .nil | refine .n rfl ?_)):aB .normal (k8 F Ψ (.inl s)) G:=aB.go h
theorem aB.t1 {id:Nat}{r:R}{F:S->List (Nat × ab)}{ma:R->List (Nat × ab)}(h:Trim true (get G) (get (ma r)) (ma r):=by (repeat' first | exact .nil | refine .n rfl ?_)):aB (.exit id) (k8 F (λr e g=>e=.exit id/\ia g (ma r)) (.inr r)) G:=aB.a8 h
theorem rI {rs:List ResultVar}{ys xs:List ab}{res:ab}{outs:List (Option ab)}{n:Nat}(h:j0 P (get G) rs ys xs g':=by exact .f rfl rfl .nil) (he:qz xs=res:=by rfl) (aY:qT g' N.pins 0 outs:=by (repeat' first | exact .nil | refine .no ?_)) (fr:(rs.filterMap fun | .cell t _=>some t | _=>none).Nodup:=by exact of_decide_eq_true (by kernel_rfl)) (ai:outs.length=n:=by rfl):aB .ret (pZ P N rs n outs res) G:=by grind [iX]
end
end Go.Own
namespace Go.Own
open Go
section
variable {α:Type}{P:Program}{g:aJ}{ty t:TypeId}{a b:Operand}{k r z n:Nat}{cs cs':List ab}{x y:ab}{p:Place}{m:Int}{sY:IntKind}{e:TypeId}{N:c6}{ops:Array Oper}
theorem O.bu {cR f off:Nat} [h:c' P cR f off t] (J:Rd g a (.ptr ⟨r,[]⟩ k):=by exact .obj rfl) (aA:g r=some (.obj cs):=by rfl) (ai:Nat.blt (k+off) cs.length=true:=by rfl):ck P g (.fieldAddr cR a f) ty (.ptr ⟨r,[]⟩ (k+off)):=O.mi aA J h.p ai
theorem O.y2 {cR f off:Nat} [h:c' P cR f off t] (J:Rd g a (.ptr ⟨r,[]⟩ k):=by exact .ptr rfl) (aA:g r=some (.obj cs):=by rfl) (ai:Nat.blt (k+off) cs.length=true:=by rfl):ck P g (.fieldAddr cR a f) ty (.ptr ⟨r,[]⟩ (k+off)):=O.mi aA J h.p ai
theorem O.eb {v:Value} [h:fO P t] (J:Rd g a (.ptr ⟨r,[]⟩ k):=by exact .ptr rfl) (aA:g r=some (.obj cs):=by rfl) (aa:cs[k]?=some (.lit v):=by rfl):ck P g (.load t a) ty (.lit v):=O.oS aA J h.p aa
theorem O.eQ {en:bI α}{L:List α}{y:α}{bA:Nat}(h:idx L m=some y) [aI:ep P t e bA] (J:Rd g a (.bn en.z L.length (bp en L)):=by exact .bn rfl) (av:Rd g b (.lit (.int sY m)):=by exact .lit rfl) (aX:bA=en.z:=by rfl):ck P g (.indexAddr t a b) ty (.cG (en.cells y++bp en (L.drop (m.toNat+1)))):=O.re J av (aX ▸ aI.p) h
theorem O.cV [h:fO P t] (J:Rd g a (.ptr ⟨r,[]⟩ k):=by exact .ptr rfl) (aA:g r=some (.obj cs):=by rfl) (aa:cs[k]?=some x:=by rfl) (av:gq 0 ⟨r,[k]⟩ x=y:=by rfl):ck P g (.load t a) ty y:=O.pF aA J h.p aa av
theorem O.fI [h:fO P t] (J:Rd g a (.cG cs):=by exact .cG rfl) (aa:cs.head?=some x:=by rfl):ck P g (.load t a) ty x:=O.Cw J h.p aa
theorem O.iS {cR f off:Nat} [h:c' P cR f off t] (J:Rd g a (.cG cs):=by exact .cG rfl):ck P g (.fieldAddr cR a f) ty (.cG (cs.drop off)):=O.Bp J h.p
theorem O.iG {bA:Nat} [h:ep P t e bA] (J:Rd g a (.bn z n cs):=by exact .bn rfl):ck P g (.call { callee:=.builtin .len,args:=#[a],argTypes:=#[t] }) ty (ae n):=O.jb J h.p
theorem cI.eM {xs:List Operand}{gl:Array TypeId}{f:FuncId}{ys:List ab}{outs:List (Option ab)}{res:ab}(J:qS g xs ys) (gM:bR P f ys outs res) [aj:ch res] (aW:hp P f=true:=by kernel_rfl) (aY:sk outs=true:=by rfl):cI P g (.call { callee:=.value (.func f),args:=xs.toArray,argTypes:=gl }) res:=by grind [cI.go]
theorem cI.pR {xs:List Operand}{gl:Array TypeId}{f:FuncId}{ys args:List ab}{outs:List (Option ab)}{res:ab}(J:gk g xs=some ys) (hv:oy g ys args) (gM:bR P f args outs res) [aj:p2 res] (aW:hp P f=true:=by kernel_rfl) (aY:sk outs=true:=by rfl):cI P g (.call { callee:=.value (.func f),args:=xs.toArray,argTypes:=gl }) res:=by grind [cI.vw]
end
section
variable {P:Program}{N:c6}{ops:Array Oper}{bf:List (List Nat)}{K:aJ->Prop}{i:Nat}{acc:Acc}{l:List Oper}{d:Nat}
theorem bw.hA (bG:Nat) {G G2:List (Nat × ab)}{o:Oper}(he:bl P N (dh (get G) (λ_=>true) acc) o (get G2)) (hk:bw P N ops bf (get G2) (bG+1) [] l K) (aP:o.guard=none:=by rfl) (gN:rh ((acc.filterMap jT).map Place.root)=true:=by rfl) (fH:l7 G=true:=by rfl) (ag:Nat.beq ops.size (bG+l.length+1)=true:=by rfl) (aR:(List.range bG).all (λk=>(bf.getD bG []).contains k)=true:=by kernel_rfl) (au:(List.range ops.size).all (λk=>Nat.ble k bG||(bf.getD k []).contains bG)=true:=by kernel_rfl):bw P N ops bf (get G) i acc (o::l) K:=.wO bG he aP gN fH ag aR au hk
theorem bw.Ed (bG:Nat) {G G2:List (Nat × ab)}{o:Oper}{x:ab}(he:bl P N (dh (get G) (λ_=>true) acc) o (cT (get G2) d x)) (hk:bw P N ops bf (get ((d,x)::G2)) (bG+1) [] l K) (aP:o.guard=none:=by rfl) (gN:rh ((acc.filterMap jT).map Place.root)=true:=by rfl) (fH:l7 G=true:=by rfl) (ag:Nat.beq ops.size (bG+l.length+1)=true:=by rfl) (aR:(List.range bG).all (λk=>(bf.getD bG []).contains k)=true:=by kernel_rfl) (au:(List.range ops.size).all (λk=>Nat.ble k bG||(bf.getD k []).contains bG)=true:=by kernel_rfl):bw P N ops bf (get G) i acc (o::l) K:=.bv bG he aP gN fH ag aR au hk
end
end Go.Own
namespace Go.Own
open Go
set_option linter.unusedVariables false
def oU:List ab->Nat->List ab->Option (List ab)
 | [],0,[]=>some []
 | [],_,_=>none
 | x::l,0,[]=>some (x::l)
 | _::l,0,y::c=>match oU l 0 c with
  | some r=>some (y::r)
  | none=>none
 | x::l,k+1,c=>match oU l k c with
  | some r=>some (x::r)
  | none=>none
theorem lR:∀ {l:List ab}{k:Nat}{c r:List ab},oU l k c=some r->e8 l k c=r/\k+c.length<=l.length
 | [],0,[],r,h=>by cases h; exact ⟨rfl,Nat.le_refl _⟩
 | [],0,_::_,_,h=>by cases h
 | [],_+1,_,_,h=>by cases h
 | x::l,0,[],r,h=>by cases h; exact ⟨by simp [e8],by simp⟩
 | x::l,0,y::c,r,h=>by
  unfold oU at h
  split at h
  ·rename_i cW aj;cases h;obtain ⟨h1,af⟩:=lR aj;subst h1;exact ⟨by simp [e8],by simp at af ⊢; omega⟩
  ·cases h
 | x::l,k+1,c,r,h=>by
  unfold oU at h
  split at h
  ·rename_i cW aj;cases h;obtain ⟨h1,af⟩:=lR aj;subst h1;exact ⟨by simp [e8,Nat.add_right_comm],by simp; omega⟩
  ·cases h
theorem Dm {g g2:aJ}{r:Nat}{cs2:List ab}:∀ {ks:List Nat}{G1:List (Nat × ab)},pick (cT g r (.obj cs2)) ks=some G1->(∀ e∈G1,cS e.2)->k_ g g2 r cs2 G1
 | [],_,h,_=>by cases h; exact .nil
 | k::ks,G1,h,aE=>by
  unfold pick at h
  split at h
  ·rename_i x J
   split at h
   ·rename_i l ai;cases h;have aw:=Dm (g2:=g2) ai λe he=>aE e (by simp [he]);by_cases e:k=r
    ·subst e;have e:x=.obj cs2:=by simpa [cT] using J.symm
     subst e;have J:cS (.obj cs2):=aE (k,.obj cs2) (by simp);have:dn cs2:=⟨by cases J; assumption⟩;exact .b rfl aw
    ·have:ch x:=⟨aE (k,x) (by simp)⟩;exact .n (by rw [<- Bool.not_eq_true,Nat.beq_eq]; exact e) (by simpa [cT,e] using J) aw
   ·cases h
  ·cases h
theorem KD {g g2:aJ}{ex:List Nat}:∀ {ks:List Nat}{G1:List (Nat × ab)},pick g ks=some G1->(ks.all λk=>!ex.elem k)=true->(∀ e∈G1,cS e.2)->mJ ex g g2 G1
 | [],_,h,_,_=>by cases h; exact .nil
 | k::ks,G1,h,he,aE=>by
  unfold pick at h;rw [List.all_cons,Bool.and_eq_true] at he
  split at h
  ·rename_i x J
   split at h
   ·rename_i l ai;cases h;have:ch x:=⟨aE (k,x) (by simp)⟩;exact .n (by simpa using he.1) J (KD ai he.2 λe h=>aE e (by simp [h]))
   ·cases h
  ·cases h
def Fx:List ab->Option (List ab)
 | []=>some []
 | x::l=>match Fx l with
  | some r=>some (x::r)
  | none=>none
theorem Pf:∀ {l r:List ab},Fx l=some r->l=r
 | [],r,h=>by cases h; rfl
 | x::l,r,h=>by
  unfold Fx at h
  split at h
  ·rename_i cW aj;cases h; rw [Pf aj]
  ·cases h
def Fy:ab->Option ab
 | .obj cs=>match Fx cs with
  | some r=>some (.obj r)
  | none=>none
 | .own z n cs=>some (.own z n cs)
 | _=>none
theorem Pg {x y:ab}(h:Fy x=some y):x=y:=by
 unfold Fy at h
 grind [Pf]
theorem KE {g g2:aJ}{r:Nat}{x2:ab}:∀ {ks:List Nat}{G1:List (Nat × ab)},pick (cT g r x2) ks=some G1->(∀ e∈G1,cS e.2)->kJ g g2 r x2 G1
 | [],_,h,_=>by cases h; exact .nil
 | k::ks,G1,h,aE=>by
  unfold pick at h
  split at h
  ·rename_i x J
   split at h
   ·rename_i l ai;cases h;have aw:=KE (g2:=g2) ai λe he=>aE e (by simp [he]);by_cases e:k=r
    ·subst e;have e:x=x2:=by simpa [cT] using J.symm
     subst e;have:ch x:=⟨aE (k,x) (by simp)⟩;exact .b rfl aw
    ·have:ch x:=⟨aE (k,x) (by simp)⟩;exact .n (by rw [<- Bool.not_eq_true,Nat.beq_eq]; exact e) (by simpa [cT,e] using J) aw
   ·cases h
  ·cases h
section
variable {P:Program}{N:c6}{ops:Array Oper}{g:aJ}{K:aJ->Prop}{l:List Oper}{d r k0:Nat}{ty t:TypeId}{pos:String}{after:Array Edge}{a b x:Operand}{cs cs' cs2:List ab}{y:ab}{G2:List (Nat × ab)}{u:Option (Nat × Bool)}{p q:Place}
theorem Rd.Q3 {α:Type}{en:bI α}{L:List α}{t:Nat}(h:g t=some (ah en L)):Rd g (.tmp t) (ah en L):=.bn h
theorem bl.fX (ks:List Nat) (aR:Rd g a (.ptr ⟨r,[]⟩ k0):=by (first | exact .obj rfl | exact .ptr rfl)) (aA:g r=some (.obj cs):=by rfl) (au:Rd g b (.agg cs'):=by (first | exact .dP rfl rfl | exact .J4 rfl)) (he:oU cs k0 cs'=some cs2:=by rfl) (ar:pick (cT g r (.obj cs2)) ks=some G2:=by rfl) (aX:hx P t cs'.length=true:=by kernel_rfl) (aT:Nat.blt 0 cs'.length=true:=by rfl) (aj:(get G2 r).isSome=true:=by rfl) [aE:dn cs'] [e':dn cs] [aP:ix G2]:bl P N g ⟨none,.store t a b,ty,pos,after,none⟩ (get G2) :=
 .kZ rfl rfl aA aR au rfl aX (Nat.ble_eq_true_of_le (lR he).2) aT (lR he).1 aj (Dm ar aP.p)
theorem bl.nk (ks:List Nat) (aR:Rd g a (.ptr ⟨r,[]⟩ k0):=by (first | exact .ptr rfl | exact .obj rfl)) (aA:g r=some (.obj cs):=by rfl) (au:Rd g b y:=by (first | exact .lit rfl | exact .k rfl | exact .Q3 rfl | exact .xM | exact .bn rfl)) (aa:oC y=some [y]:=by rfl) (he:oU cs k0 [y]=some cs2:=by rfl) (ar:pick (cT g r (.obj cs2)) ks=some G2:=by rfl) (aX:hx P t 1=true:=by kernel_rfl) (aj:(get G2 r).isSome=true:=by rfl) [aE:ch y] [e':dn cs] [aP:ix G2]:bl P N g ⟨none,.store t a b,ty,pos,after,none⟩ (get G2) :=
 .kZ rfl rfl aA aR au aa aX (Nat.ble_eq_true_of_le (lR he).2) rfl (lR he).1 aj (Dm ar aP.p)
theorem bl.jK {α:Type}{en:bI α}{L:List α}(ks:List Nat) (J:Rd g x (.a6 en.z p L.length):=by (first | exact .own rfl | exact .a6 rfl)) (ar:bz g p=some (ak en L):=by rfl) (hk:pick g ks=some G2:=by rfl) (da:(ks.all λk=>![p.root].elem k)=true:=by rfl) (aP:get G2 d=none:=by rfl) (bd:N.ok d=true:=by rfl) [aE:ix G2]:bl P N g ⟨some d,.assign x,ty,pos,after,u⟩ (cT (get G2) d (ak en L)) :=
 .yY rfl rfl J ar (KD hk da aE.p) aP bd
theorem bl.wH {α:Type}{en:bI α}{L M:List α}{s:Nat}(ks:List Nat) (J:Rd g x (.a6 en.z ⟨s,[]⟩ (L.length+M.length)):=by exact .bM rfl) (aA:g s=some (.bM en.z q L.length M.length (bp en M)):=by rfl) (ar:bz g q=some (ak en L):=by rfl) (hk:pick g ks=some G2:=by rfl) (da:(ks.all λk=>![s,q.root].elem k)=true:=by rfl) (bg:Nat.beq q.root s=false:=by rfl) (aP:get G2 d=none:=by rfl) (bd:N.ok d=true:=by rfl) [aE:ix G2]:bl P N g ⟨some d,.assign x,ty,pos,after,u⟩ (cT (get G2) d (ak en (L++M))) :=
 .LV rfl rfl J aA ar bg (KD hk da aE.p) aP bd
theorem bl.sp {α:Type}{en:bI α}{L M:List α}{s:Nat}{jm:List ab}(ks:List Nat) (au:Rd g b (.a6 en.z ⟨s,[]⟩ (L.length+M.length)):=by exact .bM rfl) (qh:g s=some (.bM en.z q L.length M.length (bp en M)):=by rfl) (ar:bz g q=some (ak en L):=by rfl) (aR:Rd g a (.ptr ⟨r,[]⟩ k0):=by (first | exact .ptr rfl | exact .obj rfl)) (aA:ct (ct g ⟨s,[]⟩ .dead) q .dead r=some (.obj jm):=by rfl) (he:oU jm k0 [ak en (L++M)]=some cs2:=by rfl) (hk:pick (cT (ct (ct g ⟨s,[]⟩ .dead) q .dead) r (.obj cs2)) ks=some G2:=by rfl) (bg:Nat.beq q.root s=false:=by rfl) (aX:hx P t 1=true:=by kernel_rfl) (aj:(get G2 r).isSome=true:=by rfl) [e':dn jm] [aP:ix G2]:bl P N g ⟨none,.store t a b,ty,pos,after,none⟩ (get G2) :=
 .Gh rfl rfl aR au qh ar bg .ky .hU rfl rfl aX aA (Nat.ble_eq_true_of_le (lR he).2) (lR he).1 aj (Dm hk aP.p)
theorem bl.tf {α:Type}{en:bI α}{L:List α}{jm:List ab}(ks:List Nat) (au:Rd g b (.a6 en.z p L.length):=by (first | exact .own rfl | exact .a6 rfl)) (ar:bz g p=some (ak en L):=by rfl) (aR:Rd g a (.ptr ⟨r,[]⟩ k0):=by (first | exact .ptr rfl | exact .obj rfl)) (aA:ct g p .dead r=some (.obj jm):=by rfl) (he:oU jm k0 [ak en L]=some cs2:=by rfl) (hk:pick (cT (ct g p .dead) r (.obj cs2)) ks=some G2:=by rfl) (aX:hx P t 1=true:=by kernel_rfl) (aj:(get G2 r).isSome=true:=by rfl) [e':dn jm] [aP:ix G2]:bl P N g ⟨none,.store t a b,ty,pos,after,none⟩ (get G2) :=
 .pQ rfl rfl aR au (.r ar .nil) .refl rfl aX aA (Nat.ble_eq_true_of_le (lR he).2) rfl (lR he).1 aj (Dm hk aP.p)
theorem bl.rA {α:Type}{en:bI α}{L:List α}{jf y2:α}{m:Int}{o:Nat}{ez x2 y0:ab}(ks:List Nat) (h:idx L m=some jf) (aR:Rd g a (.ptr p (m.toNat * en.z+o)):=by exact .ptr rfl) (ar:bz g p=some (ak en L):=by rfl) (au:Rd g b y:=by (first | exact .lit rfl | exact .k rfl | exact .Q3 rfl | exact .xM | exact .bn rfl | exact .dP rfl rfl)) (aa:oC y=some cs':=by rfl) (he:e8 (en.cells jf) o cs'=en.cells y2:=by rfl) (il:ct g p (ak en (L.set m.toNat y2)) p.root=some ez:=by rfl) (iq:Fy ez=some x2:=by rfl) (hk:pick (cT g p.root x2) ks=some G2:=by rfl) (aX:hx P t cs'.length=true:=by kernel_rfl) (hlen:Nat.ble (o+cs'.length) en.z=true:=by rfl) (aT:Nat.blt 0 cs'.length=true:=by rfl) (aj:(get G2 p.root).isSome=true:=by rfl) (rb:g p.root=some y0:=by rfl) [aE:ch y] [e':ch y0] [aP:ix G2]:bl P N g ⟨none,.store t a b,ty,pos,after,none⟩ (get G2) :=
 .te rfl rfl aR au ar h aX aa he hlen aT (by rw [il,Pg iq]) aj rb (KE hk aP.p)
theorem aC.eg {o:Oper}(he:bl P N g o (get G2)) (hk:aC P N ops l (get G2) K) (aP:o.guard=none:=by rfl):aC P N ops (o::l) g K:=.kP aP he hk
theorem aC.b' {o:Oper}(he:bl P N g o (cT (get G2) d y)) (hk:aC P N ops l (cT (get G2) d y) K) (aP:o.guard=none:=by rfl):aC P N ops (o::l) g K:=.q3 aP he hk
end
section
variable {S R:Type}{P:Program}{N:c6}{A B c:Code}{G:List (Nat × ab)}{Φ:Exit->aJ->Prop}{id:Nat}
theorem W.fW {G1:List (Nat × ab)}(ks:List Nat) (L:List (Nat × ab)) (h:W P N c (get G) λe g=>e=.normal/\ia g G1) (hk:aB .normal Φ G1) (ar:pick (get (L++G)) ks=some G1:=by rfl):W P N c (get G) Φ:=W.dE _ h hk
theorem W.kA {G1:List (Nat × ab)}{l:List Oper}(ks:List Nat) (L:List (Nat × ab)) (h:aC P N l.toArray l (get G) λg'=>j4 g' (get G1)) (hk:W P N B (get G1) Φ) (ar:pick (get (L++G)) ks=some G1:=by rfl):W P N (.seq (.region id l.toArray false) B) (get G) Φ:=W.rs _ h hk
theorem W.gj {f:S->Option (S ⊕ R)}{r:R}{c_:S->List (Nat × ab)}{mf:R->List (Nat × ab)}(s:S) (F:S->List (Nat × ab)) (ks:List Nat) (id:Nat) (X:R->List (Nat × ab)) (si:List Nat) (h:b6 f s=some r) (au:∀ s o,f s=some o->W P N c (get (c_ s)) (k8 c_ (λr e g=>e=.exit id/\ia g (mf r)) o)) (hk:aB (.exit id) Φ (mf r))
  (aO:∀ s,pick (get (F s++G)) ks=some (c_ s):=by intro s; rfl) (tR:∀ s,pick (get (X s++G)) si=some (mf s):=by intro s; rfl) (aw:Trim true (get G) (get (c_ s)) (c_ s):=by (repeat' first | exact .nil | refine .n rfl ?_ | refine .w rfl rfl .pH ?_ | refine .w rfl rfl .pG ?_ | refine .w rfl rfl (j5.obj (by (repeat' first | exact .nil | refine .f ?_ | refine .o ?_ | refine .i ?_))) ?_)):W P N (.loop c) (get G) Φ :=
 W.dB aw (W.zL c_ id mf h au hk)
theorem W.fL {gV:Type}{f:S->Option (S ⊕ (R ⊕ gV))}{r:R ⊕ gV}{c_:S->List (Nat × ab)}{mf:R->List (Nat × ab)}{tt:gV->List (Nat × ab)}(s:S) (F:S->List (Nat × ab)) (ks:List Nat) (id:Nat) (X:R->List (Nat × ab)) (si:List Nat) (Y:gV->List (Nat × ab)) (Cu:List Nat) (h:b6 f s=some r)
  (au:∀ s o,f s=some o->W P N c (get (c_ s)) (k8 c_ (λ(r:R ⊕ gV) e g=>match r with | .inl r=>e=.exit id/\ia g (mf r) | .inr r=>e=.ret/\ia g (tt r)) o))
  (J:∀ x,r=.inl x->aB (.exit id) Φ (mf x)) (aj:∀ x,r=.inr x->aB .ret Φ (tt x))
  (aO:∀ s,pick (get (F s++G)) ks=some (c_ s):=by intro s; rfl) (tR:∀ s,pick (get (X s++G)) si=some (mf s):=by intro s; rfl) (w9:∀ s,pick (get (Y s++G)) Cu=some (tt s):=by intro s; rfl) (aw:Trim true (get G) (get (c_ s)) (c_ s):=by (repeat' first | exact .nil | refine .n rfl ?_ | refine .w rfl rfl .pH ?_ | refine .w rfl rfl .pG ?_ | refine .w rfl rfl (j5.obj (by (repeat' first | exact .nil | refine .f ?_ | refine .o ?_ | refine .i ?_))) ?_)):W P N (.loop c) (get G) Φ :=
 W.dB aw (W.O7 c_ id mf tt h au J aj)
end
end Go.Own
namespace Go.Own
open Go
set_option linter.unusedVariables false
inductive ly:Type 1
 | e
 | b (x y:ly)
 | eO {S R:Type}(F:S->List (Nat × ab)) (ks:List Nat) (id:Nat) (X:R->List (Nat × ab)) (si:List Nat) (x y:ly)
 | fL {S R gV:Type}(F:S->List (Nat × ab)) (ks:List Nat) (id:Nat) (X:R->List (Nat × ab)) (si:List Nat) (Y:gV->List (Nat × ab)) (Cu:List Nat) (x y z:ly)
 | dE {α:Type}(ks:List Nat) (L:α->List (Nat × ab)) (x y:ly)
 | et {α:Type}(id:Nat) (ks:List Nat) (L:α->List (Nat × ab)) (y:ly)
 | rd (id:Nat) (bf:List (List Nat)) (y:ly)
 | bW {α:Type}(id:Nat) (bf:List (List Nat)) (ks:List Nat) (L:α->List (Nat × ab)) (y:ly)
 | p (y:ly)
 | dL {α:Type}(id s:Nat) (i:Option Nat) (en:bI α) (y:ly)
 | sD {α:Type}(s:Nat) (i:Option Nat) (en:bI α) (y:ly)
def O2:ab->Bool
 | .lit _ | .aN | .bn .. | .own .. | .obj _ | .cG _ | .cU .. | .mp _ | .imp _=>true
 | .agg cs=>cs.all λx=>match x with | .ptr .. | .a6 .. | .sub .. | .gw _ | .bM .. | .dead=>false | _=>true
 | _=>false
def sZ (ex:List Nat):List (Nat × ab)->Option (List Nat)
 | []=>some []
 | (k,x)::l=>match sZ (k::ex) l with
  | none=>none
  | some r=>match !ex.elem k&&O2 x with
   | true=>some (k::r)
   | false=>some r
def J6 (E ex:List Nat):List (Nat × ab)->Option (List Nat)
 | []=>some []
 | (k,x)::l=>match J6 E (k::ex) l with
  | none=>none
  | some r=>match E.elem k&&(!ex.elem k&&O2 x) with
   | true=>some (k::r)
   | false=>some r
def roots (G:List (Nat × ab)):Operand->List Nat
 | .tmp s=>match get G s with
  | some (.own ..)=>[s]
  | some (.obj _)=>[s]
  | some (.a6 _ p _)=>[s,p.root]
  | some (.ptr p _)=>[s,p.root]
  | some (.bM _ q _ _ _)=>match get G q.root with
   | some (.bM _ FV _ _ _)=>[s,q.root,FV.root]
   | _=>[s,q.root]
  | _=>[s]
 | _=>[]
def Pz (F:List (Nat × ab)) (s:Nat):Nat->List ab->Option (List ab)
 | _,[]=>some []
 | i,x::l=>match Pz F s (i+1) l with
  | none=>none
  | some r=>match get F (1000 * (i+1)+s) with
   | some y=>some (y::r)
   | none=>some (x::r)
def pK (F G:List (Nat × ab)):aJ:=λs=>match get F s with
 | some x=>some x
 | none=>match get G s with
  | some (.obj cs)=>match Pz F s 0 cs with
   | some r=>some (.obj r)
   | none=>none
  | x=>x
def cL (E:List Nat) (t:ly) (P:Program) (N:c6) (c:Code) (G:List (Nat × ab)) (Φ:Exit->aJ->Prop):Prop:=W P N c (get G) Φ
def er (E:List Nat) (t:ly) (e:Exit) (Φ:Exit->aJ->Prop) (G:List (Nat × ab)):Prop:=aB e Φ G
def yN (E:List Nat) (t:ly) (Ψ:ly->List (Nat × ab)->Prop) (g':aJ):Prop:=∃ G1,j4 g' (get G1)/\Ψ t G1
def rH {α:Type}(F:α->List (Nat × ab)) (j:α) (e:Exit) (g:aJ):Prop:=e=.normal/\ia g (F j)
def LH {R:Type}(id:Nat) (X:R->List (Nat × ab)) (r:R) (e:Exit) (g:aJ):Prop:=e=.exit id/\ia g (X r)
def A0 {R gV:Type}(id:Nat) (X:R->List (Nat × ab)) (Y:gV->List (Nat × ab)) (r:R ⊕ gV) (e:Exit) (g:aJ):Prop:=match r with | .inl r=>e=.exit id/\ia g (X r) | .inr r=>e=.ret/\ia g (Y r)
class bC (P:Program) (f:FuncId) (p:Prop) (args:outParam (List ab)) (outs:outParam (List (Option ab))) (res:outParam ab):Prop where go:p->bR P f args outs res
section
variable {P:Program}{N:c6}{E:List Nat}{t x y z:ly}{A B c:Code}{G G1:List (Nat × ab)}{Φ oo:Exit->aJ->Prop}{Ψ:aJ->Prop}{id k s:Nat}{b:Bool}{α β:Type}{l:List Oper}
theorem cL.rg (h:aC P N l.toArray l (get G) (yN E t λt G1=>cL E t P N B G1 Φ)):cL E t P N (.seq (.region id l.toArray false) B) G Φ :=
 W.seq (W.AB λi hi=>by
  obtain ⟨g',h1,G1,af,aI⟩:=h i hi;exact ⟨g',h1,W.weaken af aI⟩)
theorem cL.rt (h:aC P N l.toArray l (get G) (yN E t λt G1=>er E t .normal Φ G1)):cL E t P N (.region id l.toArray false) G Φ :=
 W.AB λi hi=>by
  obtain ⟨g',h1,G1,af,aI⟩:=h i hi;exact ⟨g',h1,aI g' (.eY af .hU)⟩
theorem cL.bE (h:cL E t P N A G (oX (λg1=>W P N B g1 Φ) Φ)):cL E t P N (.seq A B) G Φ:=W.seq h
theorem cL.b9 (h:cL E t P N A G (l6 id Φ)):cL E t P N (.block id A) G Φ:=W.b9 h
theorem cL.wO (h:cL E t P N A G (l6 id Φ)):cL E (.p t) P N (.block id A) G Φ:=W.b9 h
theorem cL.df (h:er E t .normal Φ G):cL E t P N .skip G Φ:=W.df h
theorem cL.fm (h:er E t (.exit k) Φ G):cL E t P N (.exit k) G Φ:=W.fm h
theorem cL.Ds (h:er E t .ret Φ G):cL E t P N .ret G Φ:=W.rt h
theorem cL.b4 {X Y o:α}(h:(bif b then X else Y)=o) (dK:b=true->X=o->cL E x P N A G Φ) (aO:b=false->Y=o->cL E y P N B G Φ) (aa:get G s=some (a_ b):=by rfl):cL E (.b x y) P N (.cond (.tmp s) A B) G Φ:=W.b4 h aa dK aO
theorem cL.ce {X Y o:α}(h:(bif b then X else Y)=o) (dK:b=true->X=o->cL E .e P N A G Φ) (aO:b=false->Y=o->cL E .e P N B G Φ) (aa:get G s=some (a_ b):=by rfl):cL E .e P N (.cond (.tmp s) A B) G Φ:=W.b4 h aa dK aO
theorem cL.S6 (h:cL E t P N A G Φ) (aa:get G s=some (a_ b):=by rfl) (au:b=true:=by (first | rfl | assumption)):cL E t P N (.cond (.tmp s) A B) G Φ:=W.fG aa (λ_=>h) (λe=>by rw [au] at e; cases e)
theorem cL.S5 (h:cL E t P N B G Φ) (aa:get G s=some (a_ b):=by rfl) (au:b=false:=by (first | rfl | assumption)):cL E t P N (.cond (.tmp s) A B) G Φ:=W.fG aa (λe=>by rw [au] at e; cases e) (λ_=>h)
theorem cL.XB {o:Operand}{m:Option α}{f:α->Option β}{r:β}{ks:List Nat}{L c_:α->List (Nat × ab)}(h:m.bind f=some r) (h1:∀ j,m=some j->cL E x P N (.cond o A B) G (rH c_ j)) (af:∀ j,m=some j->f j=some r->er E y .normal Φ (c_ j))
  (aO:∀ j,pick (pK (L j) G) ks=some (c_ j):=by intro j; rfl):cL E (.dE ks L x y) P N (.cond o A B) G Φ:=by
 obtain ⟨j,ag,h⟩:=tC h;exact W.dE _ (h1 j ag) (af j ag h)
theorem cL.J2 {m:Option α}{f:α->Option β}{r:β}{ks:List Nat}{L c_:α->List (Nat × ab)}(h:m.bind f=some r) (h1:∀ j,m=some j->cL E x P N (.block id A) G (rH c_ j)) (af:∀ j,m=some j->f j=some r->er E y .normal Φ (c_ j))
  (aO:∀ j,pick (pK (L j) G) ks=some (c_ j):=by intro j; rfl):cL E (.dE ks L x y) P N (.block id A) G Φ:=by
 obtain ⟨j,ag,h⟩:=tC h;exact W.dE _ (h1 j ag) (af j ag h)
theorem cL.eO {S R:Type}{f:S->Option (S ⊕ R)}{s:S}{g:R->Option β}{r:β}{F c_:S->List (Nat × ab)}{ks si:List Nat}{X mf:R->List (Nat × ab)}(h:(b6 f s).bind g=some r)
  (au:∀ s o,f s=some o->cL E x P N c (c_ s) (k8 c_ (LH id mf) o)) (hk:∀ cW,b6 f s=some cW->g cW=some r->er E y (.exit id) Φ (mf cW))
  (aO:∀ s,pick (pK (F s) G) ks=some (c_ s):=by intro s; rfl) (tR:∀ s,pick (pK (X s) G) si=some (mf s):=by intro s; rfl) (aw:Trim true (get G) (get (c_ s)) (c_ s):=by (repeat' first | exact .nil | refine .n rfl ?_ | refine .w rfl rfl .pH ?_ | refine .w rfl rfl .pG ?_ | refine .w rfl rfl (j5.obj (by (repeat' first | exact .nil | refine .f ?_ | refine .o ?_ | refine .i ?_))) ?_)) :
  cL E (.eO F ks id X si x y) P N (.loop c) G Φ:=by
 obtain ⟨cW,ai,h⟩:=tC h;exact W.dB aw (W.zL c_ id mf ai au (hk cW ai h))
theorem er.bE (h:cL E t P N B G Φ):er E t .normal (oX (λg1=>W P N B g1 Φ) oo) G:=aB.bE h
theorem er.fk (h:er E t (.exit k) Φ G):er E t (.exit k) (oX Ψ Φ) G:=aB.fk h
theorem er.jd (h:er E t .ret Φ G):er E t .ret (oX Ψ Φ) G:=aB.jd h
theorem er.b9 (h:er E t .normal Φ G):er E t .normal (l6 id Φ) G:=aB.b9 h
theorem er.fi (h:er E t .normal Φ G):er E t (.exit id) (l6 id Φ) G:=aB.fi h
theorem er.Hm (h:er E t (.exit k) Φ G) (hk:Nat.beq k id=false:=by rfl):er E t (.exit k) (l6 id Φ) G:=aB.Hm hk h
theorem er.mL (h:er E t .ret Φ G):er E t .ret (l6 id Φ) G:=aB.mL h
theorem er.dE {F:α->List (Nat × ab)}{j v:α}(h:some v=some j) (aw:Trim true (get G) (get (F v)) (F v)):er E t .normal (rH F j) G:=by
 cases h; exact aB.dE aw
theorem er.go {S R:Type}{s:S}{o:S ⊕ R}{F:S->List (Nat × ab)}{Ψ:R->Exit->aJ->Prop}(h:some (.inl s)=some o) (aw:Trim true (get G) (get (F s)) (F s)):er E t .normal (k8 F Ψ o) G:=by
 cases h; exact aB.go aw
theorem er.a8 {S R:Type}{r:R}{o:S ⊕ R}{F:S->List (Nat × ab)}{X:R->List (Nat × ab)}(h:some (.inr r)=some o) (aw:Trim true (get G) (get (X r)) (X r)):er E t (.exit id) (k8 F (LH id X) o) G:=by
 cases h; exact aB.a8 aw
variable {ops:Array Oper}{K:aJ->Prop}{d:Nat}{op:Op}{ty:TypeId}{pos:String}{after:Array Edge}{v v2:ab}{ks:List Nat}{g:aJ}{j cR:Nat}{cA:Bool}
theorem pc {G:List (Nat × ab)}{d:Nat}{v:ab}:cT (get G) d v=get ((d,v)::G):=sE.symm
theorem ey (ar:ck P (get G) op ty v) (hk:aC P N ops l (get ((d,v)::G)) K) (bd:N.ok d=true:=by rfl) (aW:get G d=none:=by rfl):aC P N ops (⟨some d,op,ty,pos,after,none⟩::l) (get G) K:=aq ar (pc ▸ hk) bd aW
theorem G7 (lI:sZ [d] G=some ks) (aP:pick (get G) ks=some G1) [aE:ix G1] (ar:ck P (get G1) op ty v) (hk:aC P N ops l (get ((d,v)::G1)) K) (bd:N.ok d=true:=by rfl) (aW:get G1 d=none:=by rfl):aC P N ops (⟨some d,op,ty,pos,after,none⟩::l) (get G) K:=aC.bW ks aP (aq ar (pc ▸ hk) bd aW)
theorem LR (ar:cI P (get G) op v) (hk:aC P N ops l (get ((d,v)::G)) K) (bd:N.ok d=true:=by rfl) (aW:get G d=none:=by rfl):aC P N ops (⟨some d,op,ty,pos,after,none⟩::l) (get G) K:=gI ar (pc ▸ hk) bd aW
theorem eE (ar:ck P (get G) op ty v) (hk:aC P N ops l (get ((d,v)::G)) K) (h:(ops[j]?).bind (·.dst)=some cR:=by rfl) (aP:get G cR=some (.lit (.bool cA)):=by rfl) (au:cA=b:=by (first | rfl | assumption)) (bd:N.ok d=true:=by rfl) (aW:get G d=none:=by rfl):aC P N ops (⟨some d,op,ty,pos,after,some (j,b)⟩::l) (get G) K:=.v ar bd aW (.jJ h aP au) (pc ▸ hk)
theorem LC (ar:cI P (get G) op v) (hk:aC P N ops l (get ((d,v)::G)) K) (h:(ops[j]?).bind (·.dst)=some cR:=by rfl) (aP:get G cR=some (.lit (.bool cA)):=by rfl) (au:cA=b:=by (first | rfl | assumption)) (bd:N.ok d=true:=by rfl) (aW:get G d=none:=by rfl):aC P N ops (⟨some d,op,ty,pos,after,some (j,b)⟩::l) (get G) K:=.c ar bd aW (.jJ h aP au) (pc ▸ hk)
theorem qO (hk:aC P N ops l (get ((d,.bX [])::G)) K) (h:(ops[j]?).bind (·.dst)=some cR:=by rfl) (aP:get G cR=some (.lit (.bool cA)):=by rfl) (au:cA=!b:=by (first | rfl | assumption)) (bd:N.ok d=true:=by rfl) (aW:get G d=none:=by rfl):aC P N ops (⟨some d,op,ty,pos,after,some (j,b)⟩::l) (get G) K:=.ps h aP au bd aW (pc ▸ hk)
theorem Rq (hk:aC P N ops l (get ((d,.bX [])::G)) K) (h:(ops[j]?).bind (·.dst)=some cR:=by rfl) (aP:get G cR=some (.bX []):=by rfl) (bd:N.ok d=true:=by rfl) (aW:get G d=none:=by rfl):aC P N ops (⟨some d,op,ty,pos,after,some (j,b)⟩::l) (get G) K:=.pu h aP bd aW (pc ▸ hk)
theorem HB {p:Prop}{X Y o:α}(h:(bif b then X else Y)=o) (dK:b=true->X=o->p) (aO:b=false->Y=o->p):p:=by
 cases b
 ·exact aO rfl h
 ·exact dK rfl h
theorem GV {DR:ly->List (Nat × ab)->Prop}(lI:J6 E [] G=some ks) (ar:pick (get G) ks=some G1) [aE:ix G1] (hk:DR t G1):aC P N ops [] (get G) (yN E t DR):=.nil ⟨G1,(uJ (c:=true) (g2:=get G1) ar aE.p).eY,hk⟩
theorem cL.et {m:Option α}{f:α->Option β}{r:β}{ks:List Nat}{L c_:α->List (Nat × ab)}(h:m.bind f=some r) (h1:∀ j,m=some j->aC P N l.toArray l (get G) (rH c_ j .normal)) (af:∀ j,m=some j->f j=some r->cL E y P N B (c_ j) Φ)
  (aO:∀ j,pick (pK (L j) G) ks=some (c_ j):=by intro j; rfl):cL E (.et id ks L y) P N (.seq (.region id l.toArray false) B) G Φ:=by
 obtain ⟨j,ag,h⟩:=tC h;exact W.seq (W.AB λi hi=>by
  obtain ⟨g',cu,_,fx⟩:=h1 j ag i hi;exact ⟨g',cu,W.be (af j ag h) fx⟩)
theorem Rn {F:α->List (Nat × ab)}{j v:α}(h:some v=some j) (aw:Trim true (get G) (get (F v)) (F v)):aC P N ops [] (get G) (rH F j .normal):=by
 cases h; exact .nil ⟨rfl,.eY aw.eY .hU⟩
end
end Go.Own
namespace Go.Own
open Go
set_option linter.unusedVariables false
def Kj:ab->Option ab
 | .lit v=>some (.lit v)
 | .aN=>some .aN
 | .bn z n cs=>some (.bn z n cs)
 | .own z n cs=>some (.own z n cs)
 | .obj cs=>some (.obj cs)
 | .agg cs=>some (.agg cs)
 | .bX cs=>some (.bX cs)
 | .cG cs=>some (.cG cs)
 | .ptr p k=>some (.ptr p k)
 | .a6 z p n=>some (.a6 z p n)
 | .sub z p l n=>some (.sub z p l n)
 | .bM z p n m c=>some (.bM z p n m c)
 | .cU f a b=>some (.cU f a b)
 | .mp p=>some (.mp p)
 | .gw p=>some (.gw p)
 | .imp p=>some (.imp p)
 | .dead=>some .dead
theorem Pj {x y:ab}(h:Kj x=some y):x=y:=by cases x <;> (cases h; rfl)
def Fz:List ab->Option (List ab)
 | []=>some []
 | x::l=>match Fz l with
  | none=>none
  | some r=>match Kj x with
   | none=>none
   | some y=>some (y::r)
theorem Ph:∀ {l r:List ab},Fz l=some r->l=r
 | [],r,h=>by cases h; rfl
 | x::l,r,h=>by
  unfold Fz at h
  split at h
  ·cases h
  ·rename_i cW aj
   split at h
   ·cases h
   ·rename_i y av;cases h; rw [Ph aj,Pj av]
def s4:ab->Option ab
 | .agg cs=>match Fz cs with
  | some r=>some (.agg r)
  | none=>none
 | x=>Kj x
theorem vO {x y:ab}(h:s4 x=some y):x=y:=by
 unfold s4 at h
 split at h
 ·split at h
  ·rename_i aj;cases h; rw [Ph aj]
  ·cases h
 ·exact Pj h
def lj:List ab->Option (List ab)
 | []=>some []
 | x::l=>match lj l with
  | none=>none
  | some r=>match s4 x with
   | none=>none
   | some y=>some (y::r)
theorem xR:∀ {l r:List ab},lj l=some r->l=r
 | [],r,h=>by cases h; rfl
 | x::l,r,h=>by
  unfold lj at h
  split at h
  ·cases h
  ·rename_i cW aj
   split at h
   ·cases h
   ·rename_i y av;cases h; rw [xR aj,vO av]
def ye (f:Nat->ab->ab):Nat->List Nat->List ab->Option (List ab)
 | _,_,[]=>some []
 | _,[],_::_=>none
 | k,j::ed,x::l=>match ye f (k+1) ed l with
  | none=>none
  | some r=>match Nat.beq j k,s4 (f j x) with
   | true,some y=>some (y::r)
   | _,_=>none
theorem Dt {f:Nat->ab->ab}:∀ {l:List ab}{ed:List Nat}{k:Nat}{r:List ab},ye f k ed l=some r->(l.mapIdx λi x=>f (k+i) x)=r
 | [],ed,k,r,h=>by cases ed <;> (cases h; rfl)
 | x::l,[],k,r,h=>by cases h
 | x::l,j::ed,k,r,h=>by
  unfold ye at h
  split at h
  ·cases h
  ·rename_i cW aj
   split at h
   ·rename_i y ag av;cases h;have:=Nat.eq_of_beq_eq_true ag;subst this;rw [List.mapIdx_cons,<- Dt aj,<- vO av];simp [Nat.add_comm,Nat.add_left_comm]
   ·cases h
def num:List Nat:=0::1::2::3::4::5::6::7::8::9::10::11::12::13::14::15::16::17::18::19::20::21::22::23::24::25::26::27::28::29::30::31::32::33::34::35::36::37::38::39::40::41::42::43::44::45::46::47::48::49::50::51::52::53::54::55::56::57::58::59::60::61::62::63::64::65::66::67::68::69::70::71::72::73::74::75::76::77::78::79::[]
def FX (g:aJ):Operand->Option ab
 | .tmp t=>match g t with
  | some (.lit v)=>some (.lit v)
  | some .aN=>some .aN
  | some (.bn z n cs)=>some (.bn z n cs)
  | some (.own z n _)=>some (.a6 z ⟨t,[]⟩ n)
  | some (.obj (_::_))=>some (.ptr ⟨t,[]⟩ 0)
  | some (.cG cs)=>some (.cG cs)
  | some (.agg cs)=>match ye (λi x=>gq 1 ⟨t,[i]⟩ x) 0 num cs with
   | some r=>some (.agg r)
   | none=>none
  | some (.bX cs)=>match ye (λi x=>gq 1 ⟨t,[i]⟩ x) 0 num cs with
   | some r=>some (.bX r)
   | none=>none
  | some (.ptr p k)=>some (.ptr p k)
  | some (.a6 z p n)=>some (.a6 z p n)
  | some (.sub z p l n)=>some (.sub z p l n)
  | some (.bM z _ n m _)=>some (.a6 z ⟨t,[]⟩ (n+m))
  | some (.cU fn [] cs)=>some (.cU fn [] cs)
  | some (.mp _)=>some (.gw ⟨t,[]⟩)
  | some (.gw p)=>some (.gw p)
  | some (.imp q)=>some (.imp q)
  | _=>none
 | .const v=>match ofConst v with
  | .lit v=>some (.lit v)
  | .agg cs=>some (.agg cs)
  | .aN=>match v with
   | .slice none 0 0=>some .aN
   | _=>none
  | _=>none
 | .func f=>some (.cU (.func f) [] [])
 | .global _=>none
theorem XX {v u:Value}(h:ofConst v=.lit u):u=v:=by
 cases v <;> simp only [ofConst,lO] at h <;> first | (cases h; rfl) | (split at h <;> cases h <;> rfl) | cases h
theorem Rd.q {g:aJ}{a:Operand}{y:ab}(h:FX g a=some y:=by rfl):Rd g a y:=by
 unfold FX at h
 split at h
 ·split at h <;> first | (split at h <;> cases h <;> first | exact .agg ‹_› (by have:=Dt ‹_›; simpa [Place.push] using this) | exact .bX ‹_› (by have:=Dt ‹_›; simpa [Place.push] using this)) | skip
  all_goals cases h
  all_goals first | exact .lit ‹_› | exact .aN ‹_› | exact .bn ‹_› | exact .own ‹_› | exact .obj ‹_› | exact .cG ‹_› | exact .ptr ‹_› | exact .a6 ‹_› | exact .sub ‹_› | exact .bM ‹_› | exact .cU ‹_› | exact .mp ‹_› | exact .gw ‹_› | exact .imp ‹_›
 ·split at h
  ·rename_i e; cases h; have:=XX e; subst this; exact .k e
  ·rename_i e; cases h; exact .J4 e
  ·split at h <;> cases h
   exact .xM
  ·cases h
 ·cases h; exact .func
 ·cases h
def FZ (g:aJ) (t:Nat):Option ab :=
 match g t with
 | some (.lit v)=>some (.lit v)
 | some .aN=>some .aN
 | some (.bn z n cs)=>some (.bn z n cs)
 | some (.cG cs)=>some (.cG cs)
 | some (.cU fn [] cs)=>some (.cU fn [] cs)
 | some (.imp q)=>some (.imp q)
 | _=>none
theorem Rd.Aw {g:aJ}{t:Nat}{y:ab}(h:FZ g t=some y:=by rfl):Rd g (.tmp t) y:=by
 unfold FZ at h
 split at h <;> cases h <;> first | exact .lit ‹_› | exact .aN ‹_› | exact .bn ‹_› | exact .cG ‹_› | exact .cU ‹_› | exact .imp ‹_›
class ho (P:Program) (t:TypeId) (α:outParam Type) (en:outParam (bI α)):Prop where p:True:=trivial
class th {α:Type}(en:bI α) (cs:List ab) (y:outParam α):Prop where p:en.cells y=cs
instance {a:Int}:th al [ae a] a:=⟨rfl⟩
instance {a:Int}:th qa [qX a] a:=⟨rfl⟩
instance {a:Bool}:th cn [a_ a] a:=⟨rfl⟩
instance {a:ByteArray}:th dw [ax a] a:=⟨rfl⟩
instance {α:Type}{en:bI α}{l:List α}:th (br en) [.bn en.z l.length (bp en l)] l:=⟨rfl⟩
class o2 {α:Type}(en:bI α) (ys:List ab) (L:outParam (List α)):Prop where p:mg ys=some (bp en L)/\ys.all (λy=>match jL y with | some c=>Nat.beq c.length en.z | none=>false)=true/\L.length=ys.length
instance {α:Type}{en:bI α}:o2 en [] []:=⟨⟨rfl,rfl,rfl⟩⟩
theorem o2.cons {α:Type}{en:bI α}{y:ab}{cs:List ab}{ys:List ab}{a:α}{L:List α}(au:jL y=some cs) [h:th en cs a] [ai:o2 en ys L]:o2 en (y::ys) (a::L):=by
 refine ⟨⟨?_,?_,?_⟩⟩
 ·simp [mg,au,ai.p.1,bp,h.p]
 ·simp only [List.all_cons,au,ai.p.2.1,Bool.and_true];rw [<- h.p,en.len]; exact Nat.beq_refl _
 ·simp [ai.p.2.2]
instance {α:Type}{en:bI α}{cs ys:List ab}{a:α}{L:List α} [h:th en cs a] [ai:o2 en ys L]:o2 en (.agg cs::ys) (a::L):=.cons rfl
instance {α:Type}{en:bI α}{v:Value}{ys:List ab}{a:α}{L:List α} [h:th en [.lit v] a] [ai:o2 en ys L]:o2 en (.lit v::ys) (a::L):=.cons rfl
instance {α:Type}{en:bI α}{z n:Nat}{cs:List ab}{ys:List ab}{a:α}{L:List α} [h:th en [.bn z n cs] a] [ai:o2 en ys L]:o2 en (.bn z n cs::ys) (a::L):=.cons rfl
def wj (d:Nat):List Oper->Bool
 | []=>false
 | o::l=>(match o.op with
  | .call { callee:=.value _,args:=xs,argTypes:=_ }=>xs.toList.any λx=>match x with | .tmp t=>Nat.beq t d | _=>false
  | .call { callee:=.builtin .append,args:=xs,argTypes:=_ }=>match xs.toList with | [_,.tmp t]=>Nat.beq t d | _=>false
  | .convert _ _ (.tmp t)=>Nat.beq t d
  | .build _ ps=>ps.toList.any λx=>match x.2 with | .tmp t=>Nat.beq t d | _=>false
  | .buildSlice _ _ ps=>ps.toList.any λx=>match x.2 with | .tmp t=>Nat.beq t d | _=>false
  | _=>false)||wj d l
class AW (P:Program):Prop where p:P.follows .mixedOrders=true:=by kernel_rfl
class km (P:Program) (t:TypeId) (k:outParam Nat):Prop where p:iA P t k=true:=by kernel_rfl
class hY (P:Program) (t:TypeId) (z:outParam Value):Prop where p:(P.info? t).bind (·.zero)=some z:=by kernel_rfl
class kn (P:Program) (t:TypeId) (pl:outParam (List (Nat × Nat))):Prop where p:kC P t pl=true:=by kernel_rfl
class jg (P:Program) (t:TypeId) (e z b:outParam Nat):Prop where p:jz P t e z b=true:=by kernel_rfl
class AX (P:Program) (t:TypeId) (k:outParam IntKind):Prop where p:xA P t k=true:=by kernel_rfl
class yG (P:Program) (t:TypeId) (b:outParam Nat):Prop where p:(P.info? t).map (·.bytes)=some b:=by kernel_rfl
section
variable {α β:Type}{P:Program}{g:aJ}{ty t t2:TypeId}{a b:Operand}{k r z n:Nat}{cs cs':List ab}{x y:ab}{p q:Place}{m:Int}{sY J5:IntKind}{e:TypeId}{N:c6}{ops:Array Oper}{gJ:Nat}
theorem O.Gm (J:Rd g a y:=by exact .q) (aa:(jL y).bind lj=some cs:=by rfl):ck P g (.box e a) ty (.obj cs):=by
 cases au:jL y with
 | none=>rw [au] at aa; cases aa
 | some c=>rw [au] at aa; have:=xR aa; subst this; exact O.box J au
theorem O.h9 {v:Value} [h:fO P t] (J:Rd g a (.ptr ⟨r,[]⟩ k):=by exact .q) (aA:g r=some (.obj cs):=by rfl) (aa:cs[k]?=some (.lit v):=by rfl):ck P g (.load t a) ty (.lit v):=O.oS aA J h.p aa
theorem O.hn [h:fO P t] (J:Rd g a (.cG cs):=by exact .q) (aa:cs.head?.bind s4=some x:=by rfl):ck P g (.load t a) ty x:=by
 cases au:cs.head? with
 | none=>rw [au] at aa; cases aa
 | some c=>rw [au] at aa; have:=vO aa; subst this; exact O.Cw J h.p au
theorem O.AK [h:fO P t] (J:Rd g a (.ptr ⟨r,[]⟩ k):=by exact .q) (aA:g r=some (.obj cs):=by rfl) (aa:cs[k]?=some x:=by rfl) (av:s4 (gq 0 ⟨r,[k]⟩ x)=some y:=by rfl):ck P g (.load t a) ty y:=O.pF aA J h.p aa (vO av)
theorem O.AL [h:km P t z] (J:Rd g a (.ptr ⟨r,[]⟩ k):=by exact .q) (aA:g r=some (.obj cs):=by rfl) (hk:Nat.ble (k+z) cs.length=true:=by rfl) (aa:ye (λi x=>gq 0 ⟨r,[i]⟩ x) k (num.drop k) ((cs.drop k).take z)=some cs':=by rfl):ck P g (.load t a) ty (.agg cs'):=O.eS aA J h.p hk (Dt aa)
theorem O.Gt [h:km P t z] (J:Rd g a (.cG cs):=by exact .q) (aa:lj (cs.take z)=some cs':=by rfl) (aX:cs'.length=z:=by rfl):ck P g (.load t a) ty (.agg cs'):=O.nb J h.p (xR aa) aX
theorem O.Gx {en:bI α}{L:List α}{y:α}{o:Nat}{x x':ab} [aw:fO P t] (J:Rd g a (.ptr p (m.toNat * en.z+o)):=by exact .q) (ar:bz g p=some (ak en L):=by rfl) (h:idx L m=some y:=by assumption) (aa:(en.cells y)[o]?=some x:=by rfl) (aj:s4 (gq 0 (p.push (m.toNat * en.z+o)) x)=some x':=by rfl):ck P g (.load t a) ty x':=O.iP ar J aw.p h aa (vO aj)
theorem O.GI {en:bI α}{L:List α}{y:α}{o:Nat} [aw:km P t z] (J:Rd g a (.ptr p (m.toNat * en.z+o)):=by exact .q) (ar:bz g p=some (ak en L):=by rfl) (h:idx L m=some y:=by assumption) (aX:Nat.ble (o+z) en.z=true:=by rfl) (aa:lj ((((en.cells y).drop o).take z).mapIdx (λi x=>gq 0 (p.push (m.toNat * en.z+o+i)) x))=some cs':=by rfl):ck P g (.load t a) ty (.agg cs'):=O.XG ar J aw.p h aX (xR aa)
theorem O.Gp {cR f off:Nat} [h:c' P cR f off t] (J:Rd g a (.ptr ⟨r,[]⟩ k):=by exact .q) (aA:g r=some (.obj cs):=by rfl) (ai:Nat.blt (k+off) cs.length=true:=by rfl):ck P g (.fieldAddr cR a f) ty (.ptr ⟨r,[]⟩ (k+off)):=O.mi aA J h.p ai
theorem O.Gq {cR f off:Nat} [h:c' P cR f off t] (J:Rd g a (.cG cs):=by exact .q):ck P g (.fieldAddr cR a f) ty (.cG (cs.drop off)):=O.Bp J h.p
theorem O.wf {en:bI α}{L:List α}{y:α}{cR f off o gb:Nat} [aW:c' P cR f off t] (J:Rd g a (.ptr p (m.toNat * en.z+o)):=by exact .q) (ar:bz g p=some (ak en L):=by rfl) (h:idx L m=some y:=by assumption) (aY:o+off=gb:=by rfl) (aQ:Nat.blt gb en.z=true:=by rfl):ck P g (.fieldAddr cR a f) ty (.ptr p (m.toNat * en.z+gb)):=O.j8 ar J aW.p h aY aQ
theorem O.Gs {en:bI α}{L:List α}{y:α}{bA:Nat}(h:idx L m=some y) [aI:ep P t e bA] (J:Rd g a (.bn en.z L.length (bp en L)):=by exact .q) (av:Rd g b (.lit (.int sY m)):=by exact .q) (aX:bA=en.z:=by rfl):ck P g (.indexAddr t a b) ty (.cG (en.cells y++bp en (L.drop (m.toNat+1)))):=O.re J av (aX ▸ aI.p) h
theorem O.yu {en:bI α}{L:List α}{y:α}{bA:Nat}(h:idx L m=some y) [aI:ep P t e bA] (J:Rd g a (.a6 en.z p L.length):=by exact .q) (ar:bz g p=some (ak en L):=by rfl) (av:Rd g b (.lit (.int sY m)):=by exact .q) (aX:bA=en.z:=by rfl) (aT:Nat.blt 0 en.z=true:=by rfl):ck P g (.indexAddr t a b) ty (.ptr p (m.toNat * en.z+0)):=O.gi ar J av (aX ▸ aI.p) h aT
theorem O.GG {p i:Nat}{cs:List ab}{x y:ab}(J:g p=some (.bX cs):=by rfl) (av:cs[i]?=some x:=by rfl) (aj:s4 (gq 1 (Place.push ⟨p,[]⟩ i) x)=some y:=by rfl):ck P g (.extract (.tmp p) i) ty y:=O.ex J av (vO aj)
theorem O.Gw [h1:AX P t sY] [af:AX P t2 J5] (J:Rd g a (.lit (.int sY m)):=by exact .q):ck P g (.convert t t2 a) ty (.lit (.int J5 (J5.wrap m))):=O.TE J h1.p af.p
theorem O.Gv {L:List Int}(J:Rd g a (.bn qa.z L.length (bp qa L)):=by exact .q) (aw:wR P t t2=true:=by kernel_rfl):ck P g (.convert t t2 a) ty (ax (strOfNums L)):=O.TD J aw
theorem O.Gu {dH:Value} [h:hY P e dH] (h1:dH.cells.toList.all Value.oneCell'=true:=by rfl) (aa:lj (dH.cells.toList.map lO)=some cs:=by rfl):ck P g (.alloc e) ty (.obj cs):=O.fF h.p h1 (xR aa)
theorem O.GF {parts:Array (Nat × Operand)}{pl:List (Nat × Nat)}{dH:Value}{ps:List (Nat × List ab)} [aw:kn P t pl] [aX:hY P t dH] (h1:dH.cells.toList.all Value.oneCell'=true:=by rfl)
  (ar:rj g parts.toList=some ps:=by rfl) (aa:(vc (λi=>pl[i]?) (dH.cells.toList.map lO) ps).bind lj=some cs:=by rfl):ck P g (.build t parts) ty (.agg cs):=by
 cases au:vc (λi=>pl[i]?) (dH.cells.toList.map lO) ps with
 | none=>rw [au] at aa; cases aa
 | some c=>rw [au] at aa; have:=xR aa; subst this; exact O.ej aw.p aX.p h1 ar au
theorem O.wd {cR f off:Nat} [h:c' P cR f off t] [aw:fO P t] (J:Rd g a (.agg cs):=by exact .agg rfl rfl) (av:cs[off]?.bind s4=some x:=by rfl):ck P g (.field cR a f) ty x:=by
 cases au:cs[off]? with
 | none=>rw [au] at av; cases av
 | some c=>rw [au] at av; have:=vO av; subst this; exact O.fd J h.p aw.p au
theorem O.wp {en:bI α}{L M r:List α}{bA:Nat}(h:dc L M=some r) [aw:jg P t e bA gJ] (aA:Rd g a (.a6 en.z p L.length):=by exact .q) (ar:bz g p=some (ak en L):=by rfl) (J:Rd g b y:=by exact .q) (hm:nW g en y M:=by (first | exact .i | exact .n | exact .o rfl rfl)) (aX:bA=en.z:=by rfl) (au:Nat.ble gJ 128=true:=by rfl) [e':qR g]:ck P g (.call { callee:=.builtin .append,args:=#[a,b],argTypes:=#[t,t] }) ty (.bM en.z p L.length M.length (bp en M)) :=
 O.ap aA ar J hm (aX ▸ aw.p) au h
def xO:List ab->Option (List Value)
 | []=>some []
 | .lit v::l=>match xO l with
  | some r=>some (v::r)
  | none=>none
 | _=>none
theorem Cz:∀ {l:List ab}{r:List Value},xO l=some r->l=r.map .lit
 | [],r,h=>by cases h; rfl
 | x::l,r,h=>by
  unfold xO at h
  split at h
  ·rename_i e; cases e
  ·rename_i e;cases e
   split at h
   ·rename_i cW aj;cases h; rw [Cz aj]; rfl
   ·cases h
  ·cases h
def yk:List Value->Option (List nV)
 | []=>some []
 | v::l=>match yk l,l9 v with
  | some r,some u=>some (u::r)
  | _,_=>none
theorem Dv:∀ {l:List Value}{r:List nV},yk l=some r->l.map l9=r.map some
 | [],r,h=>by cases h; rfl
 | v::l,r,h=>by
  unfold yk at h
  split at h
  ·rename_i s' u aj aA;cases h; simp [Dv aj,aA]
  ·cases h
theorem O.oj {Bg j6:List ab}{va vb:List Value}{eP:List nV}(J:Rd g a (.agg Bg):=by exact .q) (av:Rd g b (.agg j6):=by exact .q) (zC:xO Bg=some va:=by rfl) (Cf:xO j6=some vb:=by rfl) (aR:yk va=some eP:=by rfl) (au:yk vb=some eP:=by rfl) (aw:tK P t eP=true:=by kernel_rfl):ck P g (.binOp .eql t a b t2) ty (a_ (lF va vb)):=O.Bn (Cz zC ▸ J) (Cz Cf ▸ av) (Dv aR) (Dv au) aw
theorem O.wn {Bg j6:List ab}{va vb:List Value}{eP:List nV}(J:Rd g a (.agg Bg):=by exact .q) (av:Rd g b (.agg j6):=by exact .q) (zC:xO Bg=some va:=by rfl) (Cf:xO j6=some vb:=by rfl) (aR:yk va=some eP:=by rfl) (au:yk vb=some eP:=by rfl) (aw:tK P t eP=true:=by kernel_rfl):ck P g (.binOp .neq t a b t2) ty (a_ (!lF va vb)):=O.XT (Cz zC ▸ J) (Cz Cf ▸ av) (Dv aR) (Dv au) aw
theorem O.Gz {en:bI α}{z0:α}{r:List α}{bA:Nat}{dH:Value}(h:nc m z0=some r) [het:ho P t α en] [aw:ep P t e bA] [hzero:hY P e dH] [iL:yG P e gJ] (J:Rd g a (.lit (.int sY m)):=by exact .q) (av:Rd g b (.lit (.int .i64 m)):=by exact .q) (h1:dH.cells.toList.all Value.oneCell'=true:=by rfl) (aa:dH.cells.toList.map lO=en.cells z0:=by rfl) (aX:bA=en.z:=by rfl) (au:Nat.ble gJ 128=true:=by rfl):ck P g (.makeSlice t a b) ty (ak en r) :=
 O.mk (aX ▸ aw.p) J av hzero.p h1 aa h iL.p au
theorem O.wl {en:bI α}{bA:Nat} [het:ho P t α en] [aw:ep P t e bA] (aX:bA=en.z:=by rfl) (hzero:h' P e en.z=true:=by kernel_rfl):ck P g (.buildSlice t 0 #[]) ty (ak en ([]:List α)) :=
 O.dg (ys:=[]) en [] (aX ▸ aw.p) rfl rfl rfl rfl rfl rfl hzero (by rw [Nat.zero_mul]; rfl) rfl
theorem O.GA {en:bI α}{M r:List α}{bA:Nat}(h:dc [] M=some r) [aw:jg P t e bA gJ] (aA:Rd g a .aN:=by exact .q) (J:Rd g b y:=by exact .q) (hm:nW g en y M:=by (first | exact .i | exact .n | exact .o rfl rfl)) (aX:bA=en.z:=by rfl) (au:Nat.ble gJ 128=true:=by rfl):ck P g (.call { callee:=.builtin .append,args:=#[a,b],argTypes:=#[t,t] }) ty (ak en M) :=
 O.R9 aA J hm (aX ▸ aw.p) au h
theorem O.GB {en:bI α}{L r:List α}{c:Operand}{n:Int}{k:IntKind}{bA:Nat}(h:nP L 0 n=some r) [aw:ep P t e bA] (J:Rd g a (.bn en.z L.length (bp en L)):=by exact .q) (bY:Rd g c (.lit (.int k n)):=by exact .q) (aX:bA=en.z:=by rfl):ck P g (.slice t a none (some c) none) ty (ah en r):=O.Y9 J bY (aX ▸ aw.p) h
theorem O.GC {en:bI α}{L r:List α}{k:IntKind}{bA:Nat}(h:nP L m L.length=some r) [aw:ep P t e bA] (J:Rd g a (.bn en.z L.length (bp en L)):=by exact .q) (ai:Rd g b (.lit (.int k m)):=by exact .q) (aX:bA=en.z:=by rfl):ck P g (.slice t a (some b) none none) ty (ah en r):=O.Y_ J ai (aX ▸ aw.p) h
theorem O.GD {en:bI α}{L r:List α}{c:Operand}{n:Int}{k qs:IntKind}{bA:Nat}(h:nP L m n=some r) [aw:ep P t e bA] (J:Rd g a (.bn en.z L.length (bp en L)):=by exact .q) (ai:Rd g b (.lit (.int k m)):=by exact .q) (bY:Rd g c (.lit (.int qs n)):=by exact .q) (aX:bA=en.z:=by rfl):ck P g (.slice t a (some b) (some c) none) ty (ah en r):=O.Y8 J ai bY (aX ▸ aw.p) h
def Fj:List Nat->List Nat->Bool
 | [],[]=>true
 | a::l,b::m=>Nat.beq a b&&Fj l m
 | _,_=>false
def FR (p q:Place):Bool:=!(Nat.beq p.root q.root&&Fj p.path q.path)
theorem O5:∀ (l:List Nat),Fj l l=true
 | []=>rfl
 | a::l=>by unfold Fj; rw [O5 l,Nat.beq_refl]; rfl
theorem PM {p q:Place}(h:FR p q=true):p≠q:=by
 rintro rfl;unfold FR at h;rw [Nat.beq_refl,O5] at h;cases h
def vQ (p:Place):List (Nat × ab)->Bool
 | []=>true
 | (_,.bM _ q _ _ _)::l=>FR p q&&vQ p l
 | _::l=>vQ p l
theorem Kk {p:Place}:∀ {G:List (Nat × ab)},vQ p G=true->∀ t z n m new,get G t≠some (.bM z p n m new)
 | [],_,t,z,n,m,new,e=>by cases e
 | (s,x)::G,h,t,z,n,m,new,e=>by
  simp only [get] at e
  split at e
  ·cases e;unfold vQ at h;rw [Bool.and_eq_true] at h;exact PM h.1 rfl
  ·refine Kk (G:=G) ?_ t z n m new e;unfold vQ at h
   split at h
   ·rename_i cd; cases cd
   ·rename_i cd; cases cd; rw [Bool.and_eq_true] at h; exact h.2
   ·rename_i cd; cases cd; exact h
def xT (p:Place):Acc->Bool
 | []=>true
 | (_,_,some (.bM _ q _ _ _))::l=>FR p q&&xT p l
 | _::l=>xT p l
theorem Pk {p:Place}{G:List (Nat × ab)}{A:Nat->Bool}(c9:vQ p G=true):∀ {acc:Acc},xT p acc=true->∀ t z n m new,dh (get G) A acc t≠some (.bM z p n m new)
 | [],_,t,z,n,m,new,e=>Kk c9 t z n m new e
 | (k,d,r)::acc,h,t,z,n,m,new,e=>by
  have af:xT p acc=true:=by
   unfold xT at h
   split at h
   ·rename_i cd; cases cd
   ·rename_i cd; cases cd; rw [Bool.and_eq_true] at h; exact h.2
   ·rename_i cd; cases cd; exact h
  simp only [dh] at e
  split at e
  ·split at e
   ·subst e;unfold xT at h;rw [Bool.and_eq_true] at h;exact PM h.1 rfl
   ·cases e
  ·exact Pk c9 af t z n m new e
theorem O.wr {en:bI α}{L M r:List α}{bA:Nat}{G:List (Nat × ab)}(h:dc L M=some r) [aw:jg P t e bA gJ] (aA:Rd (get G) a (.a6 en.z p L.length):=by exact .q) (ar:bz (get G) p=some (ak en L):=by rfl) (J:Rd (get G) b y:=by exact .q) (hm:nW (get G) en y M:=by (first | exact .i | exact .n | exact .o rfl rfl)) (aX:bA=en.z:=by rfl) (au:Nat.ble gJ 128=true:=by rfl) (bg:vQ p G=true:=by rfl):ck P (get G) (.call { callee:=.builtin .append,args:=#[a,b],argTypes:=#[t,t] }) ty (.bM en.z p L.length M.length (bp en M)) :=
 O.tw aA ar J hm (aX ▸ aw.p) au h (Kk bg)
theorem O.QV {en:bI α}{L M r:List α}{bA:Nat}{G:List (Nat × ab)}{A:Nat->Bool}{acc:Acc}(h:dc L M=some r) [aw:jg P t e bA gJ] (aA:Rd (dh (get G) A acc) a (.a6 en.z p L.length):=by exact .q) (ar:bz (dh (get G) A acc) p=some (ak en L):=by rfl) (J:Rd (dh (get G) A acc) b y:=by exact .q) (hm:nW (dh (get G) A acc) en y M:=by (first | exact .i | exact .n | exact .o rfl rfl)) (aX:bA=en.z:=by rfl) (au:Nat.ble gJ 128=true:=by rfl) (bg:vQ p G=true:=by rfl) (Wm:xT p acc=true:=by rfl):ck P (dh (get G) A acc) (.call { callee:=.builtin .append,args:=#[a,b],argTypes:=#[t,t] }) ty (.bM en.z p L.length M.length (bp en M)) :=
 O.tw aA ar J hm (aX ▸ aw.p) au h (Pk bg Wm)
instance {s:Nat}{x:ab}{G:List (Nat × ab)} [h:o5 s (get G)]:o5 s (get ((s,x)::G)):=(pc (G:=G) (d:=s) (v:=x)) ▸ (inferInstance:o5 s (cT (get G) s x))
instance {s d:Nat}{x:ab}{G:List (Nat × ab)} [h:o5 s (get G)] [J:np x]:o5 s (get ((d,x)::G)):=(pc (G:=G) (d:=d) (v:=x)) ▸ (inferInstance:o5 s (cT (get G) d x))
theorem O.Gn {en:bI α}{L M M2 r:List α}{bA s:Nat}(h:dc (L++M) M2=some r) [aw:jg P t e bA gJ] (aA:Rd g a (.a6 en.z ⟨s,[]⟩ (L.length+M.length)):=by exact .q) (qh:g s=some (.bM en.z q L.length M.length (bp en M)):=by rfl) (ar:bz g q=some (ak en L):=by rfl) (J:Rd g b y:=by exact .q) (hm:nW g en y M2:=by (first | exact .i | exact .n | exact .o rfl rfl)) (aX:bA=en.z:=by rfl) (au:Nat.ble gJ 128=true:=by rfl) [e':o5 s g]:ck P g (.call { callee:=.builtin .append,args:=#[a,b],argTypes:=#[t,t] }) ty (.bM en.z ⟨s,[]⟩ (L.length+M.length) M2.length (bp en M2)) :=
 O.D_ aA qh ar J hm (aX ▸ aw.p) au h
theorem O.GH {en:bI β}{r:List (List β)}{bA:Nat}{dH:Value}(h:nc m ([]:List β)=some r) [het:ho P t (List β) (br en)] [aw:ep P t e bA] [hzero:hY P e dH] [iL:yG P e gJ] (J:Rd g a (.lit (.int sY m)):=by exact .q) (av:Rd g b (.lit (.int .i64 m)):=by exact .q) (h1:dH.cells.toList.all Value.oneCell'=true:=by rfl) (aa:dH.cells.toList.map lO=[.aN]:=by rfl) (aX:bA=(br en).z:=by rfl) (au:Nat.ble gJ 128=true:=by rfl):ck P g (.makeSlice t a b) ty (ak (br en) r) :=
 O.XO (aX ▸ aw.p) J av hzero.p h1 aa h iL.p au
theorem O.eY {en:bI α}{L:List α}{y:α}{bA:Nat} [aI:ep P t e bA] (J:Rd g a (.bn en.z L.length (bp en L)):=by exact .q) (av:Rd g b (.lit (.int sY m)):=by exact .q) (aX:bA=en.z:=by rfl) (h:idx L m=some y:=by assumption):ck P g (.indexAddr t a b) ty (.cG (en.cells y++bp en (L.drop (m.toNat+1)))):=O.re J av (aX ▸ aI.p) h
theorem O.Gy {en:bI α}{L:List α}{y:α}{bA:Nat} [aI:ep P t e bA] (J:Rd g a (.a6 en.z p L.length):=by exact .q) (ar:bz g p=some (ak en L):=by rfl) (av:Rd g b (.lit (.int sY m)):=by exact .q) (aX:bA=en.z:=by rfl) (aT:Nat.blt 0 en.z=true:=by rfl) (h:idx L m=some y:=by assumption):ck P g (.indexAddr t a b) ty (.ptr p (m.toNat * en.z+0)):=O.gi ar J av (aX ▸ aI.p) h aT
end
def Ct (GX:List (Nat × ab)) (ex:List Nat) (Qy:List Nat):List (Nat × ab)->Option (List Nat)
 | []=>some []
 | (k,x)::l=>match Ct GX ex (k::Qy) l with
  | none=>none
  | some r=>match !ex.elem k&&!Qy.elem k&&(match x with | .ptr ⟨q,[]⟩ _=>!ex.elem q&&(match get GX q with | some (.obj _)=>true | _=>false) | _=>false) with
   | true=>some (k::r)
   | false=>some r
def ll (g g2:aJ) (r:Nat):List (Nat × ab)->Bool
 | []=>true
 | (s,.ptr ⟨q,[]⟩ k)::l=>!Nat.beq s r&&(match g q,g2 q with | some (.obj cs),some (.obj kr)=>Nat.blt k cs.length&&Nat.blt k kr.length | _,_=>false)&&ll g g2 r l
 | _=>false
theorem Pv {g g2:aJ}{r:Nat}{s:Nat}{x:ab}{l:List (Nat × ab)}(h:ll g g2 r ((s,x)::l)=true):(∃ q k cs kr,x=.ptr ⟨q,[]⟩ k/\Nat.beq s r=false/\g q=some (.obj cs)/\Nat.blt k cs.length=true/\g2 q=some (.obj kr)/\Nat.blt k kr.length=true)/\ll g g2 r l=true:=by
 unfold ll at h
 split at h
 ·rename_i e; cases e
 ·rename_i cR q k vN e;cases e;rw [Bool.and_eq_true,Bool.and_eq_true] at h;obtain ⟨⟨h1,af⟩,aI⟩:=h
  split at af
  ·rename_i cs kr cu cd;rw [Bool.and_eq_true] at af;exact ⟨⟨q,k,cs,kr,rfl,by simpa using h1,cu,af.1,cd,af.2⟩,aI⟩
  ·cases af
 ·cases h
theorem Nl {g:aJ}{r s:Nat}{x y:ab}(h:Nat.beq s r=false) (J:cT g r x s=some y):g s=some y:=by
 unfold cT at J;rw [if_neg (by rintro rfl; rw [Nat.beq_refl] at h; cases h)] at J;exact J
theorem Dl {g:aJ}{k:Nat}{ks:List Nat}{G1:List (Nat × ab)}(h:pick g (k::ks)=some G1):∃ x l,g k=some x/\pick g ks=some l/\G1=(k,x)::l:=by
 unfold pick at h
 split at h
 ·rename_i x J
  split at h
  ·rename_i l ai;cases h; exact ⟨x,l,J,ai,rfl⟩
  ·cases h
 ·cases h
theorem Ar {g g2:aJ}{r:Nat}{cs2:List ab}{T:List (Nat × ab)}(dK:k_ g g2 r cs2 T):∀ {ks:List Nat}{G1:List (Nat × ab)},pick (cT g r (.obj cs2)) ks=some G1->(∀ e∈G1,cS e.2)->k_ g g2 r cs2 (G1++T)
 | [],_,h,_=>by cases h; exact dK
 | k::ks,G1,h,aE=>by
  obtain ⟨x,l,J,ai,rfl⟩:=Dl h;have aU:=Ar dK ai λe h=>aE e (by simp [h]);have gg:=aE (k,x) (by simp);by_cases e:Nat.beq k r=true
  ·have:=Nat.eq_of_beq_eq_true e;subst this;simp only [cT,if_true] at J;cases J;have:dn cs2:=⟨by cases gg with | obj h=>exact h⟩;exact .b rfl aU
  ·have:ch x:=⟨gg⟩;have e:=Bool.eq_false_iff.2 e;exact .n e (Nl e J) aU
theorem As {g g2:aJ}{r:Nat}{cs2:List ab}:∀ {ks:List Nat}{G1:List (Nat × ab)},pick (cT g r (.obj cs2)) ks=some G1->ll g g2 r G1=true->k_ g g2 r cs2 G1
 | [],_,h,_=>by cases h; exact .nil
 | k::ks,G1,h,aE=>by
  obtain ⟨x,l,J,ai,rfl⟩:=Dl h;obtain ⟨⟨q,j,cs,kr,rfl,h1,af,aI,bD,cF⟩,dS⟩:=Pv aE;exact .p h1 (Nl h1 J) af aI bD cF (As ai dS)
theorem FO {g g2:aJ}{ex:List Nat}{T:List (Nat × ab)}(dK:mJ ex g g2 T):∀ {ks:List Nat}{G1:List (Nat × ab)},pick g ks=some G1->(ks.all λk=>!ex.elem k)=true->(∀ e∈G1,cS e.2)->mJ ex g g2 (G1++T)
 | [],_,h,_,_=>by cases h; exact dK
 | k::ks,G1,h,he,aE=>by
  obtain ⟨x,l,J,ai,rfl⟩:=Dl h;rw [List.all_cons,Bool.and_eq_true] at he;have:ch x:=⟨aE (k,x) (by simp)⟩;exact .n (by simpa using he.1) J (FO dK ai he.2 λe h=>aE e (by simp [h]))
theorem FP {g g2:aJ}{ex:List Nat}{r:Nat}:∀ {ks:List Nat}{G1:List (Nat × ab)},pick g ks=some G1->(ks.all λk=>!ex.elem k)=true->ll g g2 r G1=true->mJ ex g g2 G1
 | [],_,h,_,_=>by cases h; exact .nil
 | k::ks,G1,h,he,aE=>by
  obtain ⟨x,l,J,ai,rfl⟩:=Dl h;rw [List.all_cons,Bool.and_eq_true] at he;obtain ⟨⟨q,j,cs,kr,rfl,h1,af,aI,bD,cF⟩,dS⟩:=Pv aE;exact .p (by simpa using he.1) J bD cF (FP ai he.2 dS)
def rL:List (Nat × ab)->List (Nat × ab)->Option (List (Nat × ab))
 | [],T=>some T
 | p::l,T=>match rL l T with
  | some r=>some (p::r)
  | none=>none
theorem tx:∀ {l T r:List (Nat × ab)},rL l T=some r->r=l++T
 | [],_,_,h=>by cases h; rfl
 | p::l,T,r,h=>by
  unfold rL at h
  split at h
  ·rename_i cW aj;cases h; rw [tx aj]; rfl
  ·cases h
theorem rN {m:Option (List ab)}{ys:List ab}(h:m.bind lj=some ys):m=some ys:=by
 cases au:m with
 | none=>rw [au] at h; cases h
 | some c=>rw [au] at h; rw [xR h]
theorem cI.mE {P:Program}{g:aJ}{xs:List Operand}{gl:Array TypeId}{f:FuncId}{ys args:List ab}{outs:List (Option ab)}{res:ab}(J:(gk g xs).bind lj=some ys) (hv:oy g ys args) (gM:bR P f args outs res) [aj:p2 res] (aW:hp P f=true:=by kernel_rfl) (aY:sk outs=true:=by rfl):cI P g (.call { callee:=.value (.func f),args:=xs.toArray,argTypes:=gl }) res:=cI.vw (rN J) hv gM aW aY
def oq (ks hL:List Nat) (P:Program) (N:c6) (g:aJ) (o:Oper) (g':aJ):Prop:=bl P N g o g'
section
variable {α:Type}{P:Program}{N:c6}{ops:Array Oper}{g:aJ}{K:aJ->Prop}{l:List Oper}{d r k0 s:Nat}{ty t:TypeId}{pos:String}{after:Array Edge}{a b x:Operand}{cs cs' jm cs2:List ab}{y:ab}{G2 ic h0:List (Nat × ab)}{u:Option (Nat × Bool)}{p q:Place}{ks hL:List Nat}{en:bI α}{L M:List α}
theorem hP.fX (aR:Rd g a (.ptr ⟨r,[]⟩ k0):=by exact .q) (aA:g r=some (.obj cs):=by rfl) (au:Rd g b (.agg cs'):=by exact .q) (he:oU cs k0 cs'=some cs2:=by rfl) (ar:pick (cT g r (.obj cs2)) ks=some ic:=by rfl) (bg:pick (cT g r (.obj cs2)) hL=some h0:=by rfl) (c9:rL ic h0=some G2:=by rfl) (cQ:ll g (get G2) r h0=true:=by rfl) (aX:hx P t cs'.length=true:=by kernel_rfl) (aT:Nat.blt 0 cs'.length=true:=by rfl) (aj:(get G2 r).isSome=true:=by rfl) [aE:dn cs'] [e':dn cs] [aP:ix ic]:oq ks hL P N g ⟨none,.store t a b,ty,pos,after,none⟩ (get G2) :=
 .kZ rfl rfl aA aR au rfl aX (Nat.ble_eq_true_of_le (lR he).2) aT (lR he).1 aj (by have:=tx c9; subst this; exact Ar (As bg cQ) ar aP.p)
theorem hP.nk (aR:Rd g a (.ptr ⟨r,[]⟩ k0):=by exact .q) (aA:g r=some (.obj cs):=by rfl) (au:Rd g b y:=by exact .q) (aa:oC y=some [y]:=by rfl) (he:oU cs k0 [y]=some cs2:=by rfl) (ar:pick (cT g r (.obj cs2)) ks=some ic:=by rfl) (bg:pick (cT g r (.obj cs2)) hL=some h0:=by rfl) (c9:rL ic h0=some G2:=by rfl) (cQ:ll g (get G2) r h0=true:=by rfl) (aX:hx P t 1=true:=by kernel_rfl) (aj:(get G2 r).isSome=true:=by rfl) [aE:ch y] [e':dn cs] [aP:ix ic]:oq ks hL P N g ⟨none,.store t a b,ty,pos,after,none⟩ (get G2) :=
 .kZ rfl rfl aA aR au aa aX (Nat.ble_eq_true_of_le (lR he).2) rfl (lR he).1 aj (by have:=tx c9; subst this; exact Ar (As bg cQ) ar aP.p)
theorem hP.jK (J:Rd g x (.a6 en.z p L.length):=by exact .q) (ar:bz g p=some (ak en L):=by rfl) (hk:pick g ks=some ic:=by rfl) (da:(ks.all λk=>![p.root].elem k)=true:=by rfl) (bg:pick g hL=some h0:=by rfl) (c9:rL ic h0=some G2:=by rfl) (BV:(hL.all λk=>![p.root].elem k)=true:=by rfl) (cQ:ll g (get G2) 1000000 h0=true:=by rfl) (aP:get G2 d=none:=by rfl) (bd:N.ok d=true:=by rfl) [aE:ix ic]:oq ks hL P N g ⟨some d,.assign x,ty,pos,after,u⟩ (cT (get G2) d (ak en L)) :=
 .yY rfl rfl J ar (by have:=tx c9; subst this; exact FO (FP bg BV cQ) hk da aE.p) aP bd
theorem hP.RY (J:Rd g x y:=by exact .q) (hk:pick g ks=some G2:=by rfl) (aP:get G2 d=none:=by rfl) (bd:N.ok d=true:=by rfl) [av:ch y] [aE:ix G2]:oq ks hL P N g ⟨some d,.assign x,ty,pos,after,u⟩ (cT (get G2) d y) :=
 .A_ rfl rfl J (.f .nil) .refl (uJ hk aE.p) aP bd
theorem hP.wH (J:Rd g x (.a6 en.z ⟨s,[]⟩ (L.length+M.length)):=by exact .q) (aA:g s=some (.bM en.z q L.length M.length (bp en M)):=by rfl) (ar:bz g q=some (ak en L):=by rfl) (hk:pick g ks=some ic:=by rfl) (da:(ks.all λk=>![s,q.root].elem k)=true:=by rfl) (Jh:pick g hL=some h0:=by rfl) (c9:rL ic h0=some G2:=by rfl) (BV:(hL.all λk=>![s,q.root].elem k)=true:=by rfl) (cQ:ll g (get G2) 1000000 h0=true:=by rfl) (bg:Nat.beq q.root s=false:=by rfl) (aP:get G2 d=none:=by rfl) (bd:N.ok d=true:=by rfl) [aE:ix ic]:oq ks hL P N g ⟨some d,.assign x,ty,pos,after,u⟩ (cT (get G2) d (ak en (L++M))) :=
 .LV rfl rfl J aA ar bg (by have:=tx c9; subst this; exact FO (FP Jh BV cQ) hk da aE.p) aP bd
theorem hP.rA {jf y2:α}{m:Int}{o:Nat}{ez x2 y0:ab}(aR:Rd g a (.ptr p (m.toNat * en.z+o)):=by exact .q) (ar:bz g p=some (ak en L):=by rfl) (h:idx L m=some jf:=by assumption) (au:Rd g b y:=by exact .q) (aa:oC y=some cs':=by rfl) (he:e8 (en.cells jf) o cs'=en.cells y2:=by rfl) (il:ct g p (ak en (L.set m.toNat y2)) p.root=some ez:=by rfl) (iq:Fy ez=some x2:=by rfl) (hk:pick (cT g p.root x2) ks=some G2:=by rfl) (aX:hx P t cs'.length=true:=by kernel_rfl) (hlen:Nat.ble (o+cs'.length) en.z=true:=by rfl) (aT:Nat.blt 0 cs'.length=true:=by rfl) (aj:(get G2 p.root).isSome=true:=by rfl) (rb:g p.root=some y0:=by rfl) [aE:ch y] [e':ch y0] [aP:ix G2]:oq ks hL P N g ⟨none,.store t a b,ty,pos,after,none⟩ (get G2) :=
 .te rfl rfl aR au ar h aX aa he hlen aT (by rw [il,Pg iq]) aj rb (KE hk aP.p)
theorem hP.Qr {g1:aJ}{bu:ab}(au:Rd g b y) (aw:e_ g [y] [bu] g1) (aR:Rd g a (.ptr ⟨r,[]⟩ k0):=by exact .q) (aa:oC bu=some cs':=by rfl) (aA:g1 r=some (.obj jm):=by rfl) (he:oU jm k0 cs'=some cs2:=by rfl) (hk:pick (cT g1 r (.obj cs2)) ks=some ic:=by rfl) (f':pick (cT g1 r (.obj cs2)) hL=some h0:=by rfl) (c9:rL ic h0=some G2:=by rfl) (cQ:ll g1 (get G2) r h0=true:=by rfl) (aX:hx P t cs'.length=true:=by kernel_rfl) (aT:Nat.blt 0 cs'.length=true:=by rfl) (aj:(get G2 r).isSome=true:=by rfl) [e':dn jm] [aP:ix ic]:oq ks hL P N g ⟨none,.store t a b,ty,pos,after,none⟩ (get G2) :=
 .pQ rfl rfl aR au aw .refl aa aX aA (Nat.ble_eq_true_of_le (lR he).2) aT (lR he).1 aj (by have:=tx c9; subst this; exact Ar (As f' cQ) hk aP.p)
theorem hP.mK {g1:aJ}{bu:ab}(au:Rd g x y) (aw:e_ g [y] [bu] g1) (hk:pick g1 ks=some G2:=by rfl) (aP:get G2 d=none:=by rfl) (bd:N.ok d=true:=by rfl) [aE:ix G2]:oq ks hL P N g ⟨some d,.assign x,ty,pos,after,u⟩ (cT (get G2) d bu) :=
 .A_ rfl rfl au aw .refl (uJ hk aE.p) aP bd
theorem hP.D_ {M2:List α}{s2:Nat}(J:Rd g x (.a6 en.z ⟨s,[]⟩ (L.length+M2.length+M.length)):=by exact .q) (aA:g s=some (.bM en.z ⟨s2,[]⟩ (L.length+M2.length) M.length (bp en M)):=by rfl) (kv:g s2=some (.bM en.z q L.length M2.length (bp en M2)):=by rfl) (ar:bz g q=some (ak en L):=by rfl) (bg:Nat.beq q.root s=false:=by rfl) (ui:Nat.beq q.root s2=false:=by rfl) (B':Nat.beq s s2=false:=by rfl) (hk:pick g ks=some ic:=by rfl) (da:(ks.all λk=>![s,s2,q.root].elem k)=true:=by rfl) (Jh:pick g hL=some h0:=by rfl) (c9:rL ic h0=some G2:=by rfl) (BV:(hL.all λk=>![s,s2,q.root].elem k)=true:=by rfl) (cQ:ll g (get G2) 1000000 h0=true:=by rfl) (aP:get G2 d=none:=by rfl) (bd:N.ok d=true:=by rfl) [aE:ix ic]:oq ks hL P N g ⟨some d,.assign x,ty,pos,after,u⟩ (cT (get G2) d (ak en (L++M2++M))) :=
 .RO rfl rfl J aA kv ar bg ui B' (by have:=tx c9; subst this; exact FO (FP Jh BV cQ) hk da aE.p) aP bd
theorem hP.sp (au:Rd g b (.a6 en.z ⟨s,[]⟩ (L.length+M.length)):=by exact .q) (qh:g s=some (.bM en.z q L.length M.length (bp en M)):=by rfl) (ar:bz g q=some (ak en L):=by rfl) (aR:Rd g a (.ptr ⟨r,[]⟩ k0):=by exact .q) (aA:ct (ct g ⟨s,[]⟩ .dead) q .dead r=some (.obj jm):=by rfl) (he:oU jm k0 [ak en (L++M)]=some cs2:=by rfl) (hk:pick (cT (ct (ct g ⟨s,[]⟩ .dead) q .dead) r (.obj cs2)) ks=some ic:=by rfl) (f':pick (cT (ct (ct g ⟨s,[]⟩ .dead) q .dead) r (.obj cs2)) hL=some h0:=by rfl) (c9:rL ic h0=some G2:=by rfl) (cQ:ll (ct (ct g ⟨s,[]⟩ .dead) q .dead) (get G2) r h0=true:=by rfl) (bg:Nat.beq q.root s=false:=by rfl) (aX:hx P t 1=true:=by kernel_rfl) (aj:(get G2 r).isSome=true:=by rfl) [e':dn jm] [aP:ix ic]:oq ks hL P N g ⟨none,.store t a b,ty,pos,after,none⟩ (get G2) :=
 .Gh rfl rfl aR au qh ar bg .ky .hU rfl rfl aX aA (Nat.ble_eq_true_of_le (lR he).2) (lR he).1 aj (by have:=tx c9; subst this; exact Ar (As f' cQ) hk aP.p)
theorem hP.tf (au:Rd g b (.a6 en.z p L.length):=by exact .q) (ar:bz g p=some (ak en L):=by rfl) (aR:Rd g a (.ptr ⟨r,[]⟩ k0):=by exact .q) (aA:ct g p .dead r=some (.obj jm):=by rfl) (he:oU jm k0 [ak en L]=some cs2:=by rfl) (hk:pick (cT (ct g p .dead) r (.obj cs2)) ks=some ic:=by rfl) (f':pick (cT (ct g p .dead) r (.obj cs2)) hL=some h0:=by rfl) (c9:rL ic h0=some G2:=by rfl) (cQ:ll (ct g p .dead) (get G2) r h0=true:=by rfl) (aX:hx P t 1=true:=by kernel_rfl) (aj:(get G2 r).isSome=true:=by rfl) [e':dn jm] [aP:ix ic]:oq ks hL P N g ⟨none,.store t a b,ty,pos,after,none⟩ (get G2) :=
 .pQ rfl rfl aR au (.r ar .nil) .refl rfl aX aA (Nat.ble_eq_true_of_le (lR he).2) rfl (lR he).1 aj (by have:=tx c9; subst this; exact Ar (As f' cQ) hk aP.p)
end
def Fm:Nat->List (Option ab)->Option (Nat × List ab)
 | _,[]=>none
 | k,some (.obj cs)::_=>some (k,cs)
 | k,none::l=>Fm (k+1) l
 | _,_=>none
def J_ (g:aJ) (xs:List Operand) (k:Nat):Option Nat :=
 match xs[k]? with
 | some (.tmp t)=>match g t with
  | some (.ptr ⟨r,[]⟩ 0)=>some r
  | some (.obj _)=>some t
  | _=>none
 | _=>none
theorem hP.lh {P:Program}{N:c6}{g:aJ}{d r k0:Nat}{ty:TypeId}{pos:String}{after:Array Edge}{u:Option (Nat × Bool)}{f:FuncId}{xs:List Operand}{gl:Array TypeId}{ys args cs cs':List ab}{outs:List (Option ab)}{res:ab}{ks:List Nat}{G2:List (Nat × ab)}
  (gM:bR P f args outs res) (ai:Fm 0 outs=some (k0,cs')) (aj:J_ g xs k0=some r) (ar:pick (ct g ⟨r,[]⟩ .dead) ks=some G2) (J:(gk g xs).bind lj=some ys) (aR:nn r cs k0 0 ys args) (aA:g r=some (.obj cs):=by rfl) (he:outs=uz args.length k0 (.obj cs'):=by rfl) (lI:Nat.blt k0 ys.length=true:=by rfl) (aW:hp P f=true:=by kernel_rfl) (aP:get G2 d=none:=by rfl) (r9:Nat.beq r d=false:=by rfl) (B4:pick (get ((r,.obj cs')::G2)) ks=some G2:=by rfl) (bd:N.ok d=true:=by rfl) [e':dn cs] [dN:ch res] [BW:dn cs'] [aE:ix G2] :
  bl P N g ⟨some d,.call { callee:=.value (.func f),args:=xs.toArray,argTypes:=gl },ty,pos,after,u⟩ (get ((d,res)::(r,.obj cs')::G2)) :=
 .call rfl bd (hF.lh (A:=[]) rfl rfl (rN J) aA aR lI (he ▸ gM) aW (uJ ar aE.p) aP r9 (uJ B4 aE.p) .nil bd)
def q0:Acc->List (Nat × ab)->List (Nat × ab)
 | [],G=>G
 | (_,d,some x)::acc,G=>(d,x)::q0 acc G
 | (_,_,none)::acc,G=>q0 acc G
def cN (ed:List Nat) (P:Program) (N:c6) (ops:Array Oper) (bf:List (List Nat)) (g0:aJ) (i:Nat) (acc:Acc) (l:List Oper) (K:aJ->Prop):Prop:=bw P N ops bf g0 i acc l K
section
variable {α β:Type}{P:Program}{N:c6}{ops:Array Oper}{bf:List (List Nat)}{acc:Acc}{E ks:List Nat}{t x y z:ly}{A B c:Code}{G G1 G2:List (Nat × ab)}{g:aJ}{g':aJ}{Φ oo:Exit->aJ->Prop}{Ψ:aJ->Prop}{K:aJ->Prop}{id k s d i bG j cR:Nat}{b cA:Bool}{l:List Oper}{o:Oper}{op:Op}{ty yq:TypeId}{pos:String}{after:Array Edge}{v y':ab}{u:Option (Nat × Bool)}{a aF a2:Operand}
theorem cL.YN (h:cL E t P N .ret G Φ):cL E t P N .ret G Φ:=h
theorem aC.ts (h:aC P N ops (⟨none,.store ty aF a2,yq,pos,after,u⟩::l) g K):aC P N ops (⟨none,.store ty aF a2,yq,pos,after,u⟩::l) g K:=h
theorem cN.ts {ed:List Nat}(h:cN ed P N ops bf g i acc (⟨none,.store ty aF a2,yq,pos,after,u⟩::l) K):cN ed P N ops bf g i acc (⟨none,.store ty aF a2,yq,pos,after,u⟩::l) K:=h
theorem cN.bP (op:Op) (u:Option (Nat × Bool)) {ed:List Nat}(h:cN ed P N ops bf g i acc (⟨some d,op,ty,pos,after,u⟩::l) K):cN ed P N ops bf g i acc (⟨some d,op,ty,pos,after,u⟩::l) K:=h
theorem cN.nl {ed:List Nat}(h:cN ed P N ops bf g i acc [] K):cN ed P N ops bf g i acc [] K:=h
def FY (g:aJ) (d:Nat):Operand->Option ab
 | .tmp t=>bif Nat.beq t d then none else FZ g t
 | .const v=>FX g (.const v)
 | _=>none
theorem Rd.pK {g:aJ}{a:Operand}{y:ab}(h:FY g d a=some y):Rd (del g d) a y:=by
 unfold FY at h
 split at h
 ·rename_i t;cases au:Nat.beq t d with
  | true=>rw [au] at h; cases h
  | false =>
   rw [au] at h;have da:t≠d:=Nat.ne_of_beq_eq_false au;refine Rd.Aw ?_;unfold FZ at h ⊢;simpa [del,da] using h
 ·exact .q (by unfold FX at h ⊢; exact h)
 ·cases h
theorem RD {y':ab}(J:FY (get G) d a=some v) (aW:get G d=some y') (ai:leaf y'=true) (hk:aC P N ops l (get ((d,v)::G)) K) (bd:N.ok d=true:=by rfl):aC P N ops (⟨some d,.assign a,ty,pos,after,none⟩::l) (get G) K:=.over (.assign (Rd.pK J).bs) bd aW ai (pc ▸ hk)
theorem RE {y':ab}(J:FY (get G) d a=some v) (aW:get G d=some y') (ai:leaf y'=true) (hk:aC P N ops l (get ((d,v)::G)) K) (bd:N.ok d=true:=by rfl):aC P N ops (⟨some d,.move a,ty,pos,after,none⟩::l) (get G) K:=.over (.move (Rd.pK J).bs) bd aW ai (pc ▸ hk)
theorem Rm {hL:List Nat}(lI:sZ [] G=some ks) (gZ:Ct G [] [] G=some hL) (he:oq ks hL P N (get G) o (get G2)) (hk:aC P N ops l (get G2) K) (aP:o.guard=none:=by rfl):aC P N ops (o::l) (get G) K:=.kP aP he hk
theorem Rk {f:FuncId}{xs:List Operand}{gl:Array TypeId}{ys args cs cs':List ab}{outs:List (Option ab)}{res:ab}{r k0:Nat}(gM:bR P f args outs res) (ai:Fm 0 outs=some (k0,cs')) (aj:J_ (get G) xs k0=some r) (hk:sZ [r,d] G=some ks) (ar:pick (ct (get G) ⟨r,[]⟩ .dead) ks=some G2) (J:(gk (get G) xs).bind lj=some ys) (aR:nn r cs k0 0 ys args) (dj:aC P N ops l (get ((d,res)::(r,.obj cs')::G2)) K) (aA:get G r=some (.obj cs):=by rfl) (he:outs=uz args.length k0 (.obj cs'):=by rfl) (lI:Nat.blt k0 ys.length=true:=by rfl) (aW:hp P f=true:=by kernel_rfl) (aP:get G2 d=none:=by rfl) (r9:Nat.beq r d=false:=by rfl) (B4:pick (get ((r,.obj cs')::G2)) ks=some G2:=by rfl) (bd:N.ok d=true:=by rfl) [e':dn cs] [dN:ch res] [BW:dn cs'] [aE:ix G2] :
  aC P N ops (⟨some d,.call { callee:=.value (.func f),args:=xs.toArray,argTypes:=gl },ty,pos,after,none⟩::l) (get G) K:=.kP rfl (hP.lh gM ai aj ar J aR aA he lI aW aP r9 B4 bd) dj
theorem Rc {ed:List Nat}{f:FuncId}{xs:List Operand}{gl:Array TypeId}{ys args cs cs':List ab}{outs:List (Option ab)}{res:ab}{r k0:Nat}(gM:bR P f args outs res) (ai:Fm 0 outs=some (k0,cs')) (aj:J_ (dh (get G) (λ_=>true) acc) xs k0=some r) (hk:sZ [r,d] (q0 acc G)=some ks) (ar:pick (ct (dh (get G) (λ_=>true) acc) ⟨r,[]⟩ .dead) ks=some G2) (J:(gk (dh (get G) (λ_=>true) acc) xs).bind lj=some ys) (aR:nn r cs k0 0 ys args) (dj:cN ed P N ops bf (get ((d,res)::(r,.obj cs')::G2)) (bG+1) [] l K) (aA:dh (get G) (λ_=>true) acc r=some (.obj cs):=by rfl) (he:outs=uz args.length k0 (.obj cs'):=by rfl) (lI:Nat.blt k0 ys.length=true:=by rfl) (aW:hp P f=true:=by kernel_rfl) (aP:get G2 d=none:=by rfl) (r9:Nat.beq r d=false:=by rfl) (B4:pick (get ((r,.obj cs')::G2)) ks=some G2:=by rfl) (bd:N.ok d=true:=by rfl) [e':dn cs] [dN:ch res] [BW:dn cs'] [aE:ix G2] (gN:rh ((acc.filterMap jT).map Place.root)=true:=by rfl) (fH:l7 G=true:=by rfl) (ag:Nat.beq ops.size (bG+l.length+1)=true:=by rfl)
  (zn:(List.range bG).all (λk=>(bf.getD bG []).contains k)=true:=by kernel_rfl) (au:(List.range ops.size).all (λk=>Nat.ble k bG||(bf.getD k []).contains bG)=true:=by kernel_rfl) :
  cN (bG::ed) P N ops bf (get G) i acc (⟨some d,.call { callee:=.value (.func f),args:=xs.toArray,argTypes:=gl },ty,pos,after,none⟩::l) K:=bw.wO bG (hP.lh gM ai aj ar J aR aA he lI aW aP r9 B4 bd) rfl gN fH ag zn au dj
theorem Rl {hL:List Nat}(lI:sZ (d::roots G a) G=some ks) (gZ:Ct G (d::roots G a) [] G=some hL) (he:oq ks hL P N (get G) ⟨some d,.assign a,ty,pos,after,none⟩ (cT (get G2) d v)) (hk:aC P N ops l (get ((d,v)::G2)) K):aC P N ops (⟨some d,.assign a,ty,pos,after,none⟩::l) (get G) K:=.q3 rfl he (pc ▸ hk)
theorem Rz {L:List α}{f:List α->Option β}{KQ:β}{M:List α}{e dx bA:Nat}{g_:TypeId}{parts:Array (Nat × Operand)}{ys:List ab}{en:bI α}(h:(dc L M).bind f=some KQ) [het:ho P g_ α en] [aw:ep P g_ e bA] (hk:aC P N ops l (get ((d,ah en M)::G)) K) (J:(gk (get G) (parts.toList.map (·.2))).bind lj=some ys:=by rfl) (aa:mg ys=some (bp en M):=by rfl) (aX:ys.all (λy=>match jL y with | some c=>Nat.beq c.length en.z | none=>false)=true:=by rfl) (ar:parts.toList=(parts.toList.map (·.2)).mapIdx (λi x=>(i,x)):=by rfl) (kb:(parts.toList.map (·.2)).length=dx:=by rfl) (ai:M.length=dx:=by rfl) (ny:bA=en.z:=by rfl) (hzero:h' P e en.z=true:=by kernel_rfl) (au:Nat.ble (dx * en.z) 16777216=true:=by rfl) (gQ:Nat.ble dx 16777216=true:=by rfl) [hv:iY (ak en M) (ah en M)] (bd:N.ok d=true:=by rfl) (aW:get G d=none:=by rfl):aC P N ops (⟨some d,.buildSlice g_ dx parts,ty,pos,after,none⟩::l) (get G) K :=
 .fl (O.dg en M (ny ▸ aw.p) (rN J) aa aX ar kb ai hzero au gQ) bd aW .none (pc ▸ hk)
theorem LS (M:List α) {e dx bA:Nat}{g_:TypeId}{parts:Array (Nat × Operand)}{ys:List ab}{en:bI α}(aA:wj d l=false) [het:ho P g_ α en] [aw:ep P g_ e bA] (hk:aC P N ops l (get ((d,ak en M)::G)) K) (J:(gk (get G) (parts.toList.map (·.2))).bind lj=some ys:=by rfl) (aa:mg ys=some (bp en M):=by rfl) (aX:ys.all (λy=>match jL y with | some c=>Nat.beq c.length en.z | none=>false)=true:=by rfl) (ar:parts.toList=(parts.toList.map (·.2)).mapIdx (λi x=>(i,x)):=by rfl) (kb:(parts.toList.map (·.2)).length=dx:=by rfl) (ai:M.length=dx:=by rfl) (ny:bA=en.z:=by rfl) (hzero:h' P e en.z=true:=by kernel_rfl) (au:Nat.ble (dx * en.z) 16777216=true:=by rfl) (gQ:Nat.ble dx 16777216=true:=by rfl) (bd:N.ok d=true:=by rfl) (aW:get G d=none:=by rfl):aC P N ops (⟨some d,.buildSlice g_ dx parts,ty,pos,after,none⟩::l) (get G) K :=
 ey (O.dg en M (ny ▸ aw.p) (rN J) aa aX ar kb ai hzero au gQ) hk bd aW
theorem RB {M:List α}{e dx bA:Nat}{g_:TypeId}{parts:Array (Nat × Operand)}{ys:List ab}{en:bI α}(aA:wj d l=true) [het:ho P g_ α en] [aw:ep P g_ e bA] (hk:aC P N ops l (get ((d,ah en M)::G)) K) (J:(gk (get G) (parts.toList.map (·.2))).bind lj=some ys:=by rfl) [aS:o2 en ys M] (ar:parts.toList=(parts.toList.map (·.2)).mapIdx (λi x=>(i,x)):=by rfl) (kb:(parts.toList.map (·.2)).length=dx:=by rfl) (ai:ys.length=dx:=by rfl) (ny:bA=en.z:=by rfl) (hzero:h' P e en.z=true:=by kernel_rfl) (au:Nat.ble (dx * en.z) 16777216=true:=by rfl) (gQ:Nat.ble dx 16777216=true:=by rfl) [hv:iY (ak en M) (ah en M)] (bd:N.ok d=true:=by rfl) (aW:get G d=none:=by rfl):aC P N ops (⟨some d,.buildSlice g_ dx parts,ty,pos,after,none⟩::l) (get G) K :=
 .fl (O.dg en M (ny ▸ aw.p) (rN J) aS.p.1 aS.p.2.1 ar kb (aS.p.2.2.trans ai) hzero au gQ) bd aW .none (pc ▸ hk)
theorem RC {M:List α}{e dx bA:Nat}{g_:TypeId}{parts:Array (Nat × Operand)}{ys:List ab}{en:bI α}(aA:wj d l=false) [het:ho P g_ α en] [aw:ep P g_ e bA] (hk:aC P N ops l (get ((d,ak en M)::G)) K) (J:(gk (get G) (parts.toList.map (·.2))).bind lj=some ys:=by rfl) [aS:o2 en ys M] (ar:parts.toList=(parts.toList.map (·.2)).mapIdx (λi x=>(i,x)):=by rfl) (kb:(parts.toList.map (·.2)).length=dx:=by rfl) (ai:ys.length=dx:=by rfl) (ny:bA=en.z:=by rfl) (hzero:h' P e en.z=true:=by kernel_rfl) (au:Nat.ble (dx * en.z) 16777216=true:=by rfl) (gQ:Nat.ble dx 16777216=true:=by rfl) (bd:N.ok d=true:=by rfl) (aW:get G d=none:=by rfl):aC P N ops (⟨some d,.buildSlice g_ dx parts,ty,pos,after,none⟩::l) (get G) K :=
 ey (O.dg en M (ny ▸ aw.p) (rN J) aS.p.1 aS.p.2.1 ar kb (aS.p.2.2.trans ai) hzero au gQ) hk bd aW
theorem ew {ed:List Nat}(ar:ck P (jt bf g bG acc) op ty v) (hk:cN ed P N ops bf g i ((bG,d,some v)::acc) l K) (ag:Nat.beq ops.size (bG+l.length+1)=true:=by rfl) (aW:g d=none:=by rfl) (aE:acc.all (λe=>!Nat.beq e.2.1 d)=true:=by rfl) (bd:N.ok d=true:=by rfl):cN (bG::ed) P N ops bf g i acc (⟨some d,op,ty,pos,after,none⟩::l) K:=aD _ ar hk ag aW aE bd
theorem eD {ed:List Nat}(ar:ck P (jt bf g bG acc) op ty v) (hk:cN ed P N ops bf g i ((bG,d,some v)::acc) l K) (h:(ops[j]?).bind (·.dst)=some cR:=by rfl) (aP:jt bf g bG acc cR=some (.lit (.bool cA)):=by rfl) (au:cA=b:=by (first | rfl | assumption)) (ag:Nat.beq ops.size (bG+l.length+1)=true:=by rfl) (aW:g d=none:=by rfl) (aE:acc.all (λe=>!Nat.beq e.2.1 d)=true:=by rfl) (bd:N.ok d=true:=by rfl):cN (bG::ed) P N ops bf g i acc (⟨some d,op,ty,pos,after,some (j,b)⟩::l) K:=.v _ ar ag aW aE bd (.jJ h aP au) hk
theorem Lv {ed:List Nat}(ar:cI P (jt bf g bG acc) op v) (hk:cN ed P N ops bf g i ((bG,d,some v)::acc) l K) (ag:Nat.beq ops.size (bG+l.length+1)=true:=by rfl) (aW:g d=none:=by rfl) (aE:acc.all (λe=>!Nat.beq e.2.1 d)=true:=by rfl) (bd:N.ok d=true:=by rfl):cN (bG::ed) P N ops bf g i acc (⟨some d,op,ty,pos,after,none⟩::l) K:=.c _ ar ag aW aE bd .none hk
theorem Lu {ed:List Nat}(ar:cI P (jt bf g bG acc) op v) (hk:cN ed P N ops bf g i ((bG,d,some v)::acc) l K) (h:(ops[j]?).bind (·.dst)=some cR:=by rfl) (aP:jt bf g bG acc cR=some (.lit (.bool cA)):=by rfl) (au:cA=b:=by (first | rfl | assumption)) (ag:Nat.beq ops.size (bG+l.length+1)=true:=by rfl) (aW:g d=none:=by rfl) (aE:acc.all (λe=>!Nat.beq e.2.1 d)=true:=by rfl) (bd:N.ok d=true:=by rfl):cN (bG::ed) P N ops bf g i acc (⟨some d,op,ty,pos,after,some (j,b)⟩::l) K:=.c _ ar ag aW aE bd (.jJ h aP au) hk
theorem Rh {ed:List Nat}(hk:cN ed P N ops bf g i ((bG,d,some (.bX []))::acc) l K) (h:(ops[j]?).bind (·.dst)=some cR:=by rfl) (aP:jt bf g bG acc cR=some (.lit (.bool cA)):=by rfl) (au:cA=!b:=by (first | rfl | assumption)) (ag:Nat.beq ops.size (bG+l.length+1)=true:=by rfl) (aW:g d=none:=by rfl) (aE:acc.all (λe=>!Nat.beq e.2.1 d)=true:=by rfl) (bd:N.ok d=true:=by rfl):cN (bG::ed) P N ops bf g i acc (⟨some d,op,ty,pos,after,some (j,b)⟩::l) K:=.ps _ h aP au ag aW aE bd hk
theorem Rj {ed:List Nat}(hk:cN ed P N ops bf g i ((bG,d,some (.bX []))::acc) l K) (h:(ops[j]?).bind (·.dst)=some cR:=by rfl) (aP:jt bf g bG acc cR=some (.bX []):=by rfl) (ag:Nat.beq ops.size (bG+l.length+1)=true:=by rfl) (aW:g d=none:=by rfl) (aE:acc.all (λe=>!Nat.beq e.2.1 d)=true:=by rfl) (bd:N.ok d=true:=by rfl):cN (bG::ed) P N ops bf g i acc (⟨some d,op,ty,pos,after,some (j,b)⟩::l) K:=.pu _ h aP ag aW aE bd hk
theorem Ra {ed:List Nat}{L:List α}{f:List α->Option β}{KQ:β}{M:List α}{e dx bA:Nat}{g_:TypeId}{parts:Array (Nat × Operand)}{ys:List ab}{en:bI α}(h:(dc L M).bind f=some KQ) [het:ho P g_ α en] [aw:ep P g_ e bA] (hk:cN ed P N ops bf g i ((bG,d,some (ah en M))::acc) l K) (J:(gk (jt bf g bG acc) (parts.toList.map (·.2))).bind lj=some ys:=by rfl) (aa:mg ys=some (bp en M):=by rfl) (aX:ys.all (λy=>match jL y with | some c=>Nat.beq c.length en.z | none=>false)=true:=by rfl) (ar:parts.toList=(parts.toList.map (·.2)).mapIdx (λi x=>(i,x)):=by rfl) (kb:(parts.toList.map (·.2)).length=dx:=by rfl) (ai:M.length=dx:=by rfl) (ny:bA=en.z:=by rfl) (hzero:h' P e en.z=true:=by kernel_rfl) (au:Nat.ble (dx * en.z) 16777216=true:=by rfl) (gQ:Nat.ble dx 16777216=true:=by rfl) [hv:iY (ak en M) (ah en M)] (ag:Nat.beq ops.size (bG+l.length+1)=true:=by rfl) (aW:g d=none:=by rfl) (aE:acc.all (λe=>!Nat.beq e.2.1 d)=true:=by rfl) (bd:N.ok d=true:=by rfl):cN (bG::ed) P N ops bf g i acc (⟨some d,.buildSlice g_ dx parts,ty,pos,after,none⟩::l) K :=
 bw.fl bG (O.dg en M (ny ▸ aw.p) (rN J) aa aX ar kb ai hzero au gQ) ag aW aE bd .none hk
theorem Ri {ed:List Nat}(M:List α) {e dx bA:Nat}{g_:TypeId}{parts:Array (Nat × Operand)}{ys:List ab}{en:bI α}(aA:wj d l=true) [het:ho P g_ α en] [aw:ep P g_ e bA] (hk:cN ed P N ops bf g i ((bG,d,some (ah en M))::acc) l K) (J:(gk (jt bf g bG acc) (parts.toList.map (·.2))).bind lj=some ys:=by rfl) (aa:mg ys=some (bp en M):=by rfl) (aX:ys.all (λy=>match jL y with | some c=>Nat.beq c.length en.z | none=>false)=true:=by rfl) (ar:parts.toList=(parts.toList.map (·.2)).mapIdx (λi x=>(i,x)):=by rfl) (kb:(parts.toList.map (·.2)).length=dx:=by rfl) (ai:M.length=dx:=by rfl) (ny:bA=en.z:=by rfl) (hzero:h' P e en.z=true:=by kernel_rfl) (au:Nat.ble (dx * en.z) 16777216=true:=by rfl) (gQ:Nat.ble dx 16777216=true:=by rfl) [hv:iY (ak en M) (ah en M)] (ag:Nat.beq ops.size (bG+l.length+1)=true:=by rfl) (aW:g d=none:=by rfl) (aE:acc.all (λe=>!Nat.beq e.2.1 d)=true:=by rfl) (bd:N.ok d=true:=by rfl):cN (bG::ed) P N ops bf g i acc (⟨some d,.buildSlice g_ dx parts,ty,pos,after,none⟩::l) K :=
 bw.fl bG (O.dg en M (ny ▸ aw.p) (rN J) aa aX ar kb ai hzero au gQ) ag aW aE bd .none hk
theorem Lw {ed:List Nat}(M:List α) {e dx bA:Nat}{g_:TypeId}{parts:Array (Nat × Operand)}{ys:List ab}{en:bI α}(aA:wj d l=false) [het:ho P g_ α en] [aw:ep P g_ e bA] (hk:cN ed P N ops bf g i ((bG,d,some (ak en M))::acc) l K) (J:(gk (jt bf g bG acc) (parts.toList.map (·.2))).bind lj=some ys:=by rfl) (aa:mg ys=some (bp en M):=by rfl) (aX:ys.all (λy=>match jL y with | some c=>Nat.beq c.length en.z | none=>false)=true:=by rfl) (ar:parts.toList=(parts.toList.map (·.2)).mapIdx (λi x=>(i,x)):=by rfl) (kb:(parts.toList.map (·.2)).length=dx:=by rfl) (ai:M.length=dx:=by rfl) (ny:bA=en.z:=by rfl) (hzero:h' P e en.z=true:=by kernel_rfl) (au:Nat.ble (dx * en.z) 16777216=true:=by rfl) (gQ:Nat.ble dx 16777216=true:=by rfl) (ag:Nat.beq ops.size (bG+l.length+1)=true:=by rfl) (aW:g d=none:=by rfl) (aE:acc.all (λe=>!Nat.beq e.2.1 d)=true:=by rfl) (bd:N.ok d=true:=by rfl):cN (bG::ed) P N ops bf g i acc (⟨some d,.buildSlice g_ dx parts,ty,pos,after,none⟩::l) K :=
 ew (O.dg en M (ny ▸ aw.p) (rN J) aa aX ar kb ai hzero au gQ) hk ag aW aE bd
theorem Rb {ed:List Nat}{M:List α}{e dx bA:Nat}{g_:TypeId}{parts:Array (Nat × Operand)}{ys:List ab}{en:bI α}(aA:wj d l=true) [het:ho P g_ α en] [aw:ep P g_ e bA] (hk:cN ed P N ops bf g i ((bG,d,some (ah en M))::acc) l K) (J:(gk (jt bf g bG acc) (parts.toList.map (·.2))).bind lj=some ys:=by rfl) [aS:o2 en ys M] (ar:parts.toList=(parts.toList.map (·.2)).mapIdx (λi x=>(i,x)):=by rfl) (kb:(parts.toList.map (·.2)).length=dx:=by rfl) (ai:ys.length=dx:=by rfl) (ny:bA=en.z:=by rfl) (hzero:h' P e en.z=true:=by kernel_rfl) (au:Nat.ble (dx * en.z) 16777216=true:=by rfl) (gQ:Nat.ble dx 16777216=true:=by rfl) [hv:iY (ak en M) (ah en M)] (ag:Nat.beq ops.size (bG+l.length+1)=true:=by rfl) (aW:g d=none:=by rfl) (aE:acc.all (λe=>!Nat.beq e.2.1 d)=true:=by rfl) (bd:N.ok d=true:=by rfl):cN (bG::ed) P N ops bf g i acc (⟨some d,.buildSlice g_ dx parts,ty,pos,after,none⟩::l) K :=
 bw.fl bG (O.dg en M (ny ▸ aw.p) (rN J) aS.p.1 aS.p.2.1 ar kb (aS.p.2.2.trans ai) hzero au gQ) ag aW aE bd .none hk
theorem Rf {ed:List Nat}{M:List α}{e dx bA:Nat}{g_:TypeId}{parts:Array (Nat × Operand)}{ys:List ab}{en:bI α}(aA:wj d l=false) [het:ho P g_ α en] [aw:ep P g_ e bA] (hk:cN ed P N ops bf g i ((bG,d,some (ak en M))::acc) l K) (J:(gk (jt bf g bG acc) (parts.toList.map (·.2))).bind lj=some ys:=by rfl) [aS:o2 en ys M] (ar:parts.toList=(parts.toList.map (·.2)).mapIdx (λi x=>(i,x)):=by rfl) (kb:(parts.toList.map (·.2)).length=dx:=by rfl) (ai:ys.length=dx:=by rfl) (ny:bA=en.z:=by rfl) (hzero:h' P e en.z=true:=by kernel_rfl) (au:Nat.ble (dx * en.z) 16777216=true:=by rfl) (gQ:Nat.ble dx 16777216=true:=by rfl) (ag:Nat.beq ops.size (bG+l.length+1)=true:=by rfl) (aW:g d=none:=by rfl) (aE:acc.all (λe=>!Nat.beq e.2.1 d)=true:=by rfl) (bd:N.ok d=true:=by rfl):cN (bG::ed) P N ops bf g i acc (⟨some d,.buildSlice g_ dx parts,ty,pos,after,none⟩::l) K :=
 ew (O.dg en M (ny ▸ aw.p) (rN J) aS.p.1 aS.p.2.1 ar kb (aS.p.2.2.trans ai) hzero au gQ) hk ag aW aE bd
theorem Rg {ed:List Nat}{hL:List Nat}(lI:sZ [] (q0 acc G)=some ks) (gZ:Ct (q0 acc G) [] [] (q0 acc G)=some hL) (he:oq ks hL P N (dh (get G) (λ_=>true) acc) o (get G2)) (hk:cN ed P N ops bf (get G2) (bG+1) [] l K) (aP:o.guard=none:=by rfl) (gN:rh ((acc.filterMap jT).map Place.root)=true:=by rfl) (fH:l7 G=true:=by rfl) (ag:Nat.beq ops.size (bG+l.length+1)=true:=by rfl)
  (aR:(List.range bG).all (λk=>(bf.getD bG []).contains k)=true:=by kernel_rfl) (au:(List.range ops.size).all (λk=>Nat.ble k bG||(bf.getD k []).contains bG)=true:=by kernel_rfl):cN (bG::ed) P N ops bf (get G) i acc (o::l) K:=.wO _ he aP gN fH ag aR au hk
theorem Re {ed:List Nat}{hL:List Nat}(lI:sZ (d::roots (q0 acc G) a) (q0 acc G)=some ks) (gZ:Ct (q0 acc G) (d::roots (q0 acc G) a) [] (q0 acc G)=some hL) (he:oq ks hL P N (dh (get G) (λ_=>true) acc) ⟨some d,.assign a,ty,pos,after,none⟩ (cT (get G2) d v)) (hk:cN ed P N ops bf (get ((d,v)::G2)) (bG+1) [] l K) (gN:rh ((acc.filterMap jT).map Place.root)=true:=by rfl) (fH:l7 G=true:=by rfl) (ag:Nat.beq ops.size (bG+l.length+1)=true:=by rfl)
  (aR:(List.range bG).all (λk=>(bf.getD bG []).contains k)=true:=by kernel_rfl) (au:(List.range ops.size).all (λk=>Nat.ble k bG||(bf.getD k []).contains bG)=true:=by kernel_rfl):cN (bG::ed) P N ops bf (get G) i acc (⟨some d,.assign a,ty,pos,after,none⟩::l) K:=.bv _ he rfl gN fH ag aR au hk
theorem bw.MY {K:aJ->Prop}(aX:acc.filterMap jT=[]) (fH:l7 G=true) (hi:Nat.ble i ops.size=true) (dj:K (dh (get G) (λ_=>true) acc)):bw P N ops bf (get G) i acc [] K:=by
 intro dU j b_ kS lb;have ag:j=ops.size:=by
  have h1:ops.size<=j:=by
   have:=congrArg List.length lb;rw [List.length_drop,List.length_nil,Array.length_toList] at this;omega
  have aI:j<=ops.size:=by
   cases kS with
   | nil=>exact Nat.le_of_ble_eq_true hi
   | step _ aY=>have:=(Array.getElem?_eq_some_iff.1 aY).1; omega
  omega
 subst ag;exact ⟨_,.fin kS (by rw [aX]; exact List.nodup_nil) (vR fH),dj⟩
theorem Q' {ed:List Nat}{DR:ly->List (Nat × ab)->Prop}(lI:J6 E [] (q0 acc G)=some ks) (ar:pick (dh (get G) (λ_=>true) acc) ks=some G1) [aE:ix G1] (hk:DR t G1) (aX:acc.filterMap jT=[]:=by rfl) (fH:l7 G=true:=by rfl) (hi:Nat.ble i ops.size=true:=by rfl):cN ed P N ops bf (get G) i acc [] (yN E t DR) :=
 .MY aX fH hi ⟨G1,(uJ (c:=true) (g2:=get G1) ar aE.p).eY,hk⟩
theorem Q_ {ed:List Nat}{F:α->List (Nat × ab)}{j v:α}(h:some v=some j) (aw:Trim true (dh (get G) (λ_=>true) acc) (get (F v)) (F v)) (aX:acc.filterMap jT=[]:=by rfl) (fH:l7 G=true:=by rfl) (hi:Nat.ble i ops.size=true:=by rfl):cN ed P N ops bf (get G) i acc [] (rH F j .normal):=by
 cases h; exact .MY aX fH hi ⟨rfl,.eY aw.eY .hU⟩
theorem cL.rd [hm:AW P] (h:cN num P N l.toArray bf (get G) 0 [] l (yN E y λt G1=>cL E t P N B G1 Φ)) (ek:o' l.toArray bf=true:=by kernel_rfl):cL E (.rd id bf y) P N (.seq (.region id l.toArray true) B) G Φ:=by
 obtain ⟨g',h1,G1,af,aI⟩:=h [] 0 .nil .nil (by simp);exact W.seq ((gf.draw hm.p ek h1).w (W.weaken af aI))
theorem cL.bW {m:Option α}{f:α->Option β}{r:β}{L c_:α->List (Nat × ab)} [hm:AW P] (h:m.bind f=some r) (h1:∀ j,m=some j->cN num P N l.toArray bf (get G) 0 [] l (rH c_ j .normal)) (af:∀ j,m=some j->f j=some r->cL E y P N B (c_ j) Φ)
  (aO:∀ j,pick (pK (L j) G) ks=some (c_ j):=by intro j; rfl) (ek:o' l.toArray bf=true:=by kernel_rfl):cL E (.bW id bf ks L y) P N (.seq (.region id l.toArray true) B) G Φ:=by
 obtain ⟨j,ag,h⟩:=tC h;obtain ⟨g',cu,_,fx⟩:=h1 j ag [] 0 .nil .nil (by simp);exact W.seq ((gf.draw hm.p ek cu).w (W.be (af j ag h) fx))
theorem cL.YB [hm:AW P] (h:cN num P N l.toArray bf (get G) 0 [] l (yN E y λt G1=>er E t .normal Φ G1)) (ek:o' l.toArray bf=true:=by kernel_rfl):cL E (.rd id bf y) P N (.region id l.toArray true) G Φ:=by
 obtain ⟨g',h1,G1,af,aI⟩:=h [] 0 .nil .nil (by simp);exact (gf.draw hm.p ek h1).w (aI g' (.eY af .hU))
theorem cL.YG {m:Option α}{f:α->Option β}{r:β}{L c_:α->List (Nat × ab)} [hm:AW P] (h:m.bind f=some r) (h1:∀ j,m=some j->cN num P N l.toArray bf (get G) 0 [] l (rH c_ j .normal)) (af:∀ j,m=some j->f j=some r->er E y .normal Φ (c_ j))
  (aO:∀ j,pick (pK (L j) G) ks=some (c_ j):=by intro j; rfl) (ek:o' l.toArray bf=true:=by kernel_rfl):cL E (.bW id bf ks L y) P N (.region id l.toArray true) G Φ:=by
 obtain ⟨j,ag,h⟩:=tC h;obtain ⟨g',cu,_,fx⟩:=h1 j ag [] 0 .nil .nil (by simp);exact (gf.draw hm.p ek cu).w (af j ag h _ fx)
theorem cL.YF {m:Option α}{f:α->Option β}{r:β}{L c_:α->List (Nat × ab)}(h:m.bind f=some r) (h1:∀ j,m=some j->aC P N l.toArray l (get G) (rH c_ j .normal)) (af:∀ j,m=some j->f j=some r->er E y .normal Φ (c_ j))
  (aO:∀ j,pick (pK (L j) G) ks=some (c_ j):=by intro j; rfl):cL E (.et id ks L y) P N (.region id l.toArray false) G Φ:=by
 obtain ⟨j,ag,h⟩:=tC h;exact W.AB λi hi=>by
  obtain ⟨g',cu,_,fx⟩:=h1 j ag i hi;exact ⟨g',cu,af j ag h _ fx⟩
theorem cL.fL {S R gV:Type}{f:S->Option (S ⊕ (R ⊕ gV))}{s:S}{HX:R ⊕ gV->Option β}{r:β}{F c_:S->List (Nat × ab)}{ks si Cu:List Nat}{X mf:R->List (Nat × ab)}{Y tt:gV->List (Nat × ab)}(h:(b6 f s).bind HX=some r)
  (au:∀ s o,f s=some o->cL E x P N c (c_ s) (k8 c_ (A0 id mf tt) o)) (J:∀ cW,HX (.inl cW)=some r->er E y (.exit id) Φ (mf cW)) (av:∀ cW,HX (.inr cW)=some r->er E z .ret Φ (tt cW))
  (aO:∀ s,pick (pK (F s) G) ks=some (c_ s):=by intro s; rfl) (tR:∀ s,pick (pK (X s) G) si=some (mf s):=by intro s; rfl) (w9:∀ s,pick (pK (Y s) G) Cu=some (tt s):=by intro s; rfl) (aw:Trim true (get G) (get (c_ s)) (c_ s):=by (repeat' first | exact .nil | refine .n rfl ?_ | refine .w rfl rfl .pH ?_ | refine .w rfl rfl .pG ?_ | refine .w rfl rfl (j5.obj (by (repeat' first | exact .nil | refine .f ?_ | refine .o ?_ | refine .i ?_))) ?_)) :
  cL E (.fL F ks id X si Y Cu x y z) P N (.loop c) G Φ:=by
 obtain ⟨cW,ai,h⟩:=tC h;exact W.dB aw (W.O7 c_ id mf tt ai au (λq e=>J q (e ▸ h)) (λq e=>av q (e ▸ h)))
theorem er.x2 {S R gV:Type}{r:R}{o:S ⊕ (R ⊕ gV)}{F:S->List (Nat × ab)}{X:R->List (Nat × ab)}{Y:gV->List (Nat × ab)}(h:some (.inr (.inl r))=some o) (aw:Trim true (get G) (get (X r)) (X r)):er E t (.exit id) (k8 F (A0 id X Y) o) G:=by
 cases h; exact aB.x2 aw
theorem er.lr {S R gV:Type}{r:gV}{o:S ⊕ (R ⊕ gV)}{F:S->List (Nat × ab)}{X:R->List (Nat × ab)}{Y:gV->List (Nat × ab)}(h:some (.inr (.inr r))=some o) (aw:Trim true (get G) (get (Y r)) (Y r)):er E t .ret (k8 F (A0 id X Y) o) G:=by
 cases h; exact aB.lr aw
end
section
variable {P:Program}{N:c6}{E:List Nat}{t x y z:ly}{A B c:Code}{G:List (Nat × ab)}{Φ:Exit->aJ->Prop}{id k s:Nat}{o:Operand}
theorem j3.dL {α:Type}{en:bI α}{i:Option Nat}(h:cL E (.dL id s i en y) P N c G Φ):cL E (.dL id s i en y) P N c G Φ:=h
theorem j3.sD {α:Type}{en:bI α}{i:Option Nat}(h:cL E (.sD s i en y) P N c G Φ):cL E (.sD s i en y) P N c G Φ:=h
theorem j3.et {α:Type}{ks:List Nat}{L:α->List (Nat × ab)}(h:cL E (.et id ks L y) P N c G Φ):cL E (.et id ks L y) P N c G Φ:=h
theorem j3.bW {α:Type}{bf:List (List Nat)}{ks:List Nat}{L:α->List (Nat × ab)}(h:cL E (.bW id bf ks L y) P N c G Φ):cL E (.bW id bf ks L y) P N c G Φ:=h
theorem j3.rd {bf:List (List Nat)}(h:cL E (.rd id bf y) P N c G Φ):cL E (.rd id bf y) P N c G Φ:=h
theorem j3.bB (h:cL E t P N (.cond o A B) G Φ):cL E t P N (.cond o A B) G Φ:=h
theorem j3.eO (h:cL E t P N (.loop A) G Φ):cL E t P N (.loop A) G Φ:=h
theorem j3.J2 {α:Type}{ks:List Nat}{L:α->List (Nat × ab)}(h:cL E (.dE ks L x y) P N (.block id A) G Φ):cL E (.dE ks L x y) P N (.block id A) G Φ:=h
theorem j3.rg {ops:Array Oper}{b:Bool}(h:cL E t P N (.region id ops b) G Φ):cL E t P N (.region id ops b) G Φ:=h
theorem j3.Yq {S R:Type}{F:S->List (Nat × ab)}{Ψ:R->Exit->aJ->Prop}{o:S ⊕ R}{e:Exit}(h:er E t e (k8 F Ψ o) G):er E t e (k8 F Ψ o) G:=h
theorem j3.Yt {α:Type}{F:α->List (Nat × ab)}{j:α}{e:Exit}(h:er E t e (rH F j) G):er E t e (rH F j) G:=h
theorem j3.Sw (h:er E t (.exit k) (l6 id Φ) G):er E t (.exit k) (l6 id Φ) G:=h
theorem j3.Yp {rs:List ResultVar}{n:Nat}{outs:List (Option ab)}{res:ab}{e:Exit}(h:er E t e (pZ P N rs n outs res) G):er E t e (pZ P N rs n outs res) G:=h
end
section
variable {P:Program}{N:c6}{E:List Nat}{t:ly}{G:List (Nat × ab)}{g':aJ}{rs:List ResultVar}{ys xs:List ab}{res:ab}{outs:List (Option ab)}{n:Nat}
theorem j0.ML {g w6:aJ}{s z:Nat}{g_:TypeId}{cs ys0:List ab}{rs:List ResultVar}{ys xs:List ab}(h:g s=some (.obj cs)) [aw:km P g_ z] (aX:cs.length=z) (aT:Nat.blt 0 z=true) (av:ye (λi x=>gq 0 ⟨s,[i]⟩ x) 0 num cs=some ys0) (hk:nq s g 0 ys0 cs w6) (aj:j0 P w6 rs ys xs g'):j0 P g (.cell s g_::rs) (.agg ys0::ys) (.agg cs::xs) g':=.c h aw.p aX aT (by have:=Dt av; simpa using this) hk aj
theorem er.eR (h:j0 P (get G) rs ys xs g':=by (repeat' first | exact .nil | (apply j0.f rfl rfl) | (apply j0.o rfl) | (apply j0.ML rfl rfl rfl rfl) | (apply nq.f rfl) | (apply nq.o rfl))) (he:qz xs=res:=by rfl) (aY:qT g' N.pins 0 outs:=by (repeat' first | exact .nil | refine .no ?_ | refine .ao rfl rfl ?_)) (fr:(rs.filterMap fun | .cell t _=>some t | _=>none).Nodup:=by exact of_decide_eq_true (by kernel_rfl)) (ai:outs.length=n:=by rfl):er E t .ret (pZ P N rs n outs res) G:=iX h he aY fr ai
theorem er.fn (h:j0 P (get G) rs ys xs g':=by (repeat' first | exact .nil | (apply j0.f rfl rfl) | (apply j0.o rfl) | (apply j0.ML rfl rfl rfl rfl) | (apply nq.f rfl) | (apply nq.o rfl))) (he:qz xs=res:=by rfl) (aY:qT g' N.pins 0 outs:=by (repeat' first | exact .nil | refine .no ?_ | refine .ao rfl rfl ?_)) (fr:(rs.filterMap fun | .cell t _=>some t | _=>none).Nodup:=by exact of_decide_eq_true (by kernel_rfl)) (ai:outs.length=n:=by rfl):er E t .normal (pZ P N rs n outs res) G:=aB.fin (Fin.ro h he fr aY ai (.inl rfl))
set_option maxRecDepth 1000000 in
/-- The walk: what it meets it does. -/
theorem dD {p:Prop}(h:p:=by
(repeat' (first
 | ((with_reducible apply aC.bP _ none); first
  | ((with_reducible apply aC.bP (.move _) none); first | refine ey (O.aZ .q) ?_)
  | ((with_reducible apply aC.bP (.assign (.const _)) none); first | refine ey (O.az .q) ?_)
  | ((with_reducible apply aC.bP (.assign (.tmp _)) none); first | refine ey (O.az .Aw) ?_)
  | ((with_reducible apply aC.bP (.load _ _) none); first | refine ey (O.h9) ?_ | refine ey (O.hn) ?_ | refine ey (O.AK) ?_ | refine ey (O.AL) ?_ | refine ey (O.Gt) ?_ | refine ey (O.Gx) ?_ | refine ey (O.GI) ?_)
  | ((with_reducible apply aC.bP (.fieldAddr _ _ _) none); first | refine ey (O.Gp) ?_ | refine ey (O.Gq) ?_ | refine ey (O.wf) ?_)
  | ((with_reducible apply aC.bP (.indexAddr _ _ _) none); first | refine aK h λx J h=>ey (O.Gs J) ?_ | refine aK h λx J h=>ey (O.yu J) ?_ | refine ey (O.eY) ?_ | refine ey (O.Gy) ?_)
  | ((with_reducible apply aC.bP (.binOp .add _ _ _ _) none); first | refine ey (O.add .q .q) ?_ | refine aK h λx J h=>ey (O.cat .q .q J) ?_)
  | ((with_reducible apply aC.bP (.binOp .sub _ _ _ _) none); first | refine ey (O.sub .q .q) ?_)
  | ((with_reducible apply aC.bP (.binOp .mul _ _ _ _) none); first | refine ey (O.mul .q .q) ?_)
  | ((with_reducible apply aC.bP (.binOp .lss _ _ _ _) none); first | refine ey (O.lss .q .q) ?_)
  | ((with_reducible apply aC.bP (.binOp .leq _ _ _ _) none); first | refine ey (O.leq .q .q) ?_)
  | ((with_reducible apply aC.bP (.binOp .gtr _ _ _ _) none); first | refine ey (O.gtr .q .q) ?_)
  | ((with_reducible apply aC.bP (.binOp .geq _ _ _ _) none); first | refine ey (O.geq .q .q) ?_)
  | ((with_reducible apply aC.bP (.binOp .eql _ _ _ _) none); first | refine ey (O.eql .q .q) ?_ | refine ey (O.qb .q .q) ?_ | refine ey (O.En .q .q (by kernel_rfl)) ?_ | refine ey (O.oj) ?_)
  | ((with_reducible apply aC.bP (.binOp .neq _ _ _ _) none); first | refine ey (O.neq .q .q) ?_ | refine ey (O.og .q .q) ?_ | refine ey (O.wn) ?_)
  | ((with_reducible apply aC.bP (.binOp .quo _ _ _ _) none); first | refine aK h λx J h=>ey (O.quo .q .q J) ?_ | refine aK h λx J h=>ey (O.rn .q .q J) ?_)
  | ((with_reducible apply aC.bP (.binOp .rem _ _ _ _) none); first | refine aK h λx J h=>ey (O.rem .q .q J) ?_ | refine aK h λx J h=>ey (O.rr .q .q J) ?_)
  | ((with_reducible apply aC.bP (.unOp .not _ _) none); first | refine ey (O.not .q) ?_)
  | ((with_reducible apply aC.bP (.unOp .neg _ _) none); first | refine ey (O.neg .q) ?_)
  | ((with_reducible apply aC.bP (.pick _ _ _) none); first | refine ey (O.hT .q (by first | rfl | assumption) .q) ?_ | refine ey (O.kz .q (by first | rfl | assumption) .q) ?_)
  | ((with_reducible apply aC.bP (.nilCheck _) none); first | refine ey (O.eT .q) ?_ | refine ey (O.xS .q) ?_)
  | ((with_reducible apply aC.bP (.index _ _ _) none); first | refine aK h λx J h=>ey (O.lX .q .q iU.p J) ?_)
  | ((with_reducible apply aC.bP (.extract _ _) none); first | refine ey (O.GG) ?_)
  | ((with_reducible apply aC.bP (.convert _ _ _) none); first | refine ey (O.Gw) ?_ | refine ey (O.Gv) ?_)
  | ((with_reducible apply aC.bP (.box _ _) none); first | refine ey (O.Gm) ?_)
  | ((with_reducible apply aC.bP (.alloc _) none); first | refine ey (O.Gu) ?_)
  | ((with_reducible apply aC.bP (.build _ _) none); first | refine ey (O.GF) ?_)
  | ((with_reducible apply aC.bP (.field _ _ _) none); first | refine ey (O.wd) ?_)
  | ((with_reducible apply aC.bP (.makeSlice _ _ _) none); first | refine aK h λx J h=>ey (O.Gz J) ?_ | refine aK h λx J h=>ey (O.GH J) ?_)
  | ((with_reducible apply aC.bP (.buildSlice _ 0 #[]) none); first | refine ey (O.wl) ?_)
  | ((with_reducible apply aC.bP (.makeFunc _ _ _) none); first | refine ey (O.zN rfl) ?_)
  | ((with_reducible apply aC.bP (.slice _ _ _ _ _) none); first | refine aK h λx J h=>ey (O.yl .q .q .q iU.p J) ?_ | refine aK h λx J h=>ey (O.Ga .q .q iU.p J) ?_ | refine aK h λx J h=>ey (O.Gb .q .q iU.p J) ?_ | refine aK h λx J h=>ey (O.GD J) ?_ | refine aK h λx J h=>ey (O.GB J) ?_ | refine aK h λx J h=>ey (O.GC J) ?_)
  | ((with_reducible apply aC.bP (.call { callee:=.builtin .len,args:=#[_],argTypes:=#[_] }) none); first | refine ey (O.jb .q ep.p) ?_ | refine ey (O.mz .q ep.p) ?_ | refine ey (O.ux .q iU.p) ?_)
  | ((with_reducible apply aC.bP (.call { callee:=.builtin .append,args:=#[_,_],argTypes:=#[_,_] }) none); first | refine aK h λx J h=>ey (O.wp J) ?_ | refine aK h λx J h=>ey (O.GA J) ?_ | refine aK h λx J h=>ey (O.Gn J) ?_ | refine aK h λx J h=>ey (O.wr J) ?_)
  | ((with_reducible apply aC.bP (.call { callee:=.value _,args:=_,argTypes:=_ }) none); first | (refine aK h λx J h=>LR (cI.eM ?_ (bC.go J)) ?_; · (repeat' first | exact .nil | refine .cA .q ?_)) | (refine aK h λx J h=>LR (cI.mE rfl ?_ (bC.go J)) ?_; · (repeat' first | exact .nil | refine .s ?_ | refine .c (View.nN rfl rfl) ?_ | refine .c (.row rfl) ?_ | refine .c (View.mK ?_) ?_ | refine .c (View.cl ?_) ?_)) | (refine aK h λx J h=>Rk (bC.go J) rfl rfl rfl rfl rfl (by repeat' first | exact .nil | refine .b rfl ?_ | refine .n rfl ?_) ?_))
  | ((with_reducible apply aC.bP (.buildSlice _ _ _) none); first | refine Rz h ?_ | refine RB rfl ?_ | refine RC rfl ?_ | refine LS [_] rfl ?_ | refine LS [_,_] rfl ?_)
  | ((with_reducible apply aC.bP (.assign _) none); refine RD rfl rfl rfl ?_)
  | ((with_reducible apply aC.bP (.move _) none); refine RE rfl rfl rfl ?_)
  | ((with_reducible apply aC.bP (.move _) none); first | refine G7 rfl rfl (O.aZ .q) ?_)
  | ((with_reducible apply aC.bP (.assign (.const _)) none); first | refine G7 rfl rfl (O.az .q) ?_)
  | ((with_reducible apply aC.bP (.assign (.tmp _)) none); first | refine G7 rfl rfl (O.az .Aw) ?_)
  | ((with_reducible apply aC.bP (.assign (.tmp _)) none); refine Rl rfl rfl (by first | exact hP.jK | exact hP.wH | exact hP.D_ | exact hP.mK .q (by repeat' first | exact e_.nil | (apply e_.f) | (apply e_.r rfl) | (apply e_.mK) | (apply e_.b rfl))) ?_))
 | ((with_reducible apply aC.ts); refine Rm rfl rfl (by first | exact hP.fX | exact hP.nk | exact hP.tf | exact hP.sp | exact hP.rA | exact hP.Qr .q (by repeat' first | exact e_.nil | (apply e_.f) | (apply e_.r rfl) | (apply e_.mK) | (apply e_.b rfl))) ?_)
 | ((with_reducible apply aC.bP _ (some _)); first
  | refine qO ?_
  | refine Rq ?_
  | ((with_reducible apply aC.bP (.move _) (some _)); first | refine eE (O.aZ .q) ?_)
  | ((with_reducible apply aC.bP (.assign (.const _)) (some _)); first | refine eE (O.az .q) ?_)
  | ((with_reducible apply aC.bP (.assign (.tmp _)) (some _)); first | refine eE (O.az .Aw) ?_)
  | ((with_reducible apply aC.bP (.load _ _) (some _)); first | refine eE (O.h9) ?_ | refine eE (O.hn) ?_ | refine eE (O.AK) ?_ | refine eE (O.AL) ?_ | refine eE (O.Gt) ?_ | refine eE (O.Gx) ?_ | refine eE (O.GI) ?_)
  | ((with_reducible apply aC.bP (.fieldAddr _ _ _) (some _)); first | refine eE (O.Gp) ?_ | refine eE (O.Gq) ?_ | refine eE (O.wf) ?_)
  | ((with_reducible apply aC.bP (.indexAddr _ _ _) (some _)); first | refine aK h λx J h=>eE (O.Gs J) ?_ | refine aK h λx J h=>eE (O.yu J) ?_ | refine eE (O.eY) ?_ | refine eE (O.Gy) ?_)
  | ((with_reducible apply aC.bP (.binOp .add _ _ _ _) (some _)); first | refine eE (O.add .q .q) ?_ | refine aK h λx J h=>eE (O.cat .q .q J) ?_)
  | ((with_reducible apply aC.bP (.binOp .sub _ _ _ _) (some _)); first | refine eE (O.sub .q .q) ?_)
  | ((with_reducible apply aC.bP (.binOp .mul _ _ _ _) (some _)); first | refine eE (O.mul .q .q) ?_)
  | ((with_reducible apply aC.bP (.binOp .lss _ _ _ _) (some _)); first | refine eE (O.lss .q .q) ?_)
  | ((with_reducible apply aC.bP (.binOp .leq _ _ _ _) (some _)); first | refine eE (O.leq .q .q) ?_)
  | ((with_reducible apply aC.bP (.binOp .gtr _ _ _ _) (some _)); first | refine eE (O.gtr .q .q) ?_)
  | ((with_reducible apply aC.bP (.binOp .geq _ _ _ _) (some _)); first | refine eE (O.geq .q .q) ?_)
  | ((with_reducible apply aC.bP (.binOp .eql _ _ _ _) (some _)); first | refine eE (O.eql .q .q) ?_ | refine eE (O.qb .q .q) ?_ | refine eE (O.En .q .q (by kernel_rfl)) ?_ | refine eE (O.oj) ?_)
  | ((with_reducible apply aC.bP (.binOp .neq _ _ _ _) (some _)); first | refine eE (O.neq .q .q) ?_ | refine eE (O.og .q .q) ?_ | refine eE (O.wn) ?_)
  | ((with_reducible apply aC.bP (.binOp .quo _ _ _ _) (some _)); first | refine aK h λx J h=>eE (O.quo .q .q J) ?_ | refine aK h λx J h=>eE (O.rn .q .q J) ?_)
  | ((with_reducible apply aC.bP (.binOp .rem _ _ _ _) (some _)); first | refine aK h λx J h=>eE (O.rem .q .q J) ?_ | refine aK h λx J h=>eE (O.rr .q .q J) ?_)
  | ((with_reducible apply aC.bP (.unOp .not _ _) (some _)); first | refine eE (O.not .q) ?_)
  | ((with_reducible apply aC.bP (.unOp .neg _ _) (some _)); first | refine eE (O.neg .q) ?_)
  | ((with_reducible apply aC.bP (.pick _ _ _) (some _)); first | refine eE (O.hT .q (by first | rfl | assumption) .q) ?_ | refine eE (O.kz .q (by first | rfl | assumption) .q) ?_)
  | ((with_reducible apply aC.bP (.nilCheck _) (some _)); first | refine eE (O.eT .q) ?_ | refine eE (O.xS .q) ?_)
  | ((with_reducible apply aC.bP (.index _ _ _) (some _)); first | refine aK h λx J h=>eE (O.lX .q .q iU.p J) ?_)
  | ((with_reducible apply aC.bP (.extract _ _) (some _)); first | refine eE (O.GG) ?_)
  | ((with_reducible apply aC.bP (.convert _ _ _) (some _)); first | refine eE (O.Gw) ?_ | refine eE (O.Gv) ?_)
  | ((with_reducible apply aC.bP (.box _ _) (some _)); first | refine eE (O.Gm) ?_)
  | ((with_reducible apply aC.bP (.alloc _) (some _)); first | refine eE (O.Gu) ?_)
  | ((with_reducible apply aC.bP (.build _ _) (some _)); first | refine eE (O.GF) ?_)
  | ((with_reducible apply aC.bP (.field _ _ _) (some _)); first | refine eE (O.wd) ?_)
  | ((with_reducible apply aC.bP (.makeSlice _ _ _) (some _)); first | refine aK h λx J h=>eE (O.Gz J) ?_ | refine aK h λx J h=>eE (O.GH J) ?_)
  | ((with_reducible apply aC.bP (.buildSlice _ 0 #[]) (some _)); first | refine eE (O.wl) ?_)
  | ((with_reducible apply aC.bP (.makeFunc _ _ _) (some _)); first | refine eE (O.zN rfl) ?_)
  | ((with_reducible apply aC.bP (.slice _ _ _ _ _) (some _)); first | refine aK h λx J h=>eE (O.yl .q .q .q iU.p J) ?_ | refine aK h λx J h=>eE (O.Ga .q .q iU.p J) ?_ | refine aK h λx J h=>eE (O.Gb .q .q iU.p J) ?_ | refine aK h λx J h=>eE (O.GD J) ?_ | refine aK h λx J h=>eE (O.GB J) ?_ | refine aK h λx J h=>eE (O.GC J) ?_)
  | ((with_reducible apply aC.bP (.call { callee:=.builtin .len,args:=#[_],argTypes:=#[_] }) (some _)); first | refine eE (O.jb .q ep.p) ?_ | refine eE (O.mz .q ep.p) ?_ | refine eE (O.ux .q iU.p) ?_)
  | ((with_reducible apply aC.bP (.call { callee:=.builtin .append,args:=#[_,_],argTypes:=#[_,_] }) (some _)); first | refine aK h λx J h=>eE (O.wp J) ?_ | refine aK h λx J h=>eE (O.GA J) ?_ | refine aK h λx J h=>eE (O.Gn J) ?_ | refine aK h λx J h=>eE (O.wr J) ?_)
  | ((with_reducible apply aC.bP (.call { callee:=.value _,args:=_,argTypes:=_ }) (some _)); first | (refine aK h λx J h=>LC (cI.eM ?_ (bC.go J)) ?_; · (repeat' first | exact .nil | refine .cA .q ?_)) | (refine aK h λx J h=>LC (cI.mE rfl ?_ (bC.go J)) ?_; · (repeat' first | exact .nil | refine .s ?_ | refine .c (View.nN rfl rfl) ?_ | refine .c (.row rfl) ?_ | refine .c (View.mK ?_) ?_ | refine .c (View.cl ?_) ?_)))
  | refine HB h (λau h=>?_) (λau h=>?_))
 | ((with_reducible apply aC.nl); first | refine GV rfl rfl ?_ | refine Rn h (by (repeat' first | exact .nil | refine .n rfl ?_ | refine .w rfl rfl .pH ?_ | refine .w rfl rfl .pG ?_ | refine .w rfl rfl (j5.obj (by (repeat' first | exact .nil | refine .f ?_ | refine .o ?_ | refine .i ?_))) ?_)))
 | ((with_reducible apply cN.bP _ none); first
  | ((with_reducible apply cN.bP (.move _) none); first | refine ew (O.aZ .q) ?_)
  | ((with_reducible apply cN.bP (.assign (.const _)) none); first | refine ew (O.az .q) ?_)
  | ((with_reducible apply cN.bP (.assign (.tmp _)) none); first | refine ew (O.az .Aw) ?_)
  | ((with_reducible apply cN.bP (.load _ _) none); first | refine ew (O.h9) ?_ | refine ew (O.hn) ?_ | refine ew (O.AK) ?_ | refine ew (O.AL) ?_ | refine ew (O.Gt) ?_ | refine ew (O.Gx) ?_ | refine ew (O.GI) ?_)
  | ((with_reducible apply cN.bP (.fieldAddr _ _ _) none); first | refine ew (O.Gp) ?_ | refine ew (O.Gq) ?_ | refine ew (O.wf) ?_)
  | ((with_reducible apply cN.bP (.indexAddr _ _ _) none); first | refine aK h λx J h=>ew (O.Gs J) ?_ | refine aK h λx J h=>ew (O.yu J) ?_ | refine ew (O.eY) ?_ | refine ew (O.Gy) ?_)
  | ((with_reducible apply cN.bP (.binOp .add _ _ _ _) none); first | refine ew (O.add .q .q) ?_ | refine aK h λx J h=>ew (O.cat .q .q J) ?_)
  | ((with_reducible apply cN.bP (.binOp .sub _ _ _ _) none); first | refine ew (O.sub .q .q) ?_)
  | ((with_reducible apply cN.bP (.binOp .mul _ _ _ _) none); first | refine ew (O.mul .q .q) ?_)
  | ((with_reducible apply cN.bP (.binOp .lss _ _ _ _) none); first | refine ew (O.lss .q .q) ?_)
  | ((with_reducible apply cN.bP (.binOp .leq _ _ _ _) none); first | refine ew (O.leq .q .q) ?_)
  | ((with_reducible apply cN.bP (.binOp .gtr _ _ _ _) none); first | refine ew (O.gtr .q .q) ?_)
  | ((with_reducible apply cN.bP (.binOp .geq _ _ _ _) none); first | refine ew (O.geq .q .q) ?_)
  | ((with_reducible apply cN.bP (.binOp .eql _ _ _ _) none); first | refine ew (O.eql .q .q) ?_ | refine ew (O.qb .q .q) ?_ | refine ew (O.En .q .q (by kernel_rfl)) ?_ | refine ew (O.oj) ?_)
  | ((with_reducible apply cN.bP (.binOp .neq _ _ _ _) none); first | refine ew (O.neq .q .q) ?_ | refine ew (O.og .q .q) ?_ | refine ew (O.wn) ?_)
  | ((with_reducible apply cN.bP (.binOp .quo _ _ _ _) none); first | refine aK h λx J h=>ew (O.quo .q .q J) ?_ | refine aK h λx J h=>ew (O.rn .q .q J) ?_)
  | ((with_reducible apply cN.bP (.binOp .rem _ _ _ _) none); first | refine aK h λx J h=>ew (O.rem .q .q J) ?_ | refine aK h λx J h=>ew (O.rr .q .q J) ?_)
  | ((with_reducible apply cN.bP (.unOp .not _ _) none); first | refine ew (O.not .q) ?_)
  | ((with_reducible apply cN.bP (.unOp .neg _ _) none); first | refine ew (O.neg .q) ?_)
  | ((with_reducible apply cN.bP (.pick _ _ _) none); first | refine ew (O.hT .q (by first | rfl | assumption) .q) ?_ | refine ew (O.kz .q (by first | rfl | assumption) .q) ?_)
  | ((with_reducible apply cN.bP (.nilCheck _) none); first | refine ew (O.eT .q) ?_ | refine ew (O.xS .q) ?_)
  | ((with_reducible apply cN.bP (.index _ _ _) none); first | refine aK h λx J h=>ew (O.lX .q .q iU.p J) ?_)
  | ((with_reducible apply cN.bP (.extract _ _) none); first | refine ew (O.GG) ?_)
  | ((with_reducible apply cN.bP (.convert _ _ _) none); first | refine ew (O.Gw) ?_ | refine ew (O.Gv) ?_)
  | ((with_reducible apply cN.bP (.box _ _) none); first | refine ew (O.Gm) ?_)
  | ((with_reducible apply cN.bP (.alloc _) none); first | refine ew (O.Gu) ?_)
  | ((with_reducible apply cN.bP (.build _ _) none); first | refine ew (O.GF) ?_)
  | ((with_reducible apply cN.bP (.field _ _ _) none); first | refine ew (O.wd) ?_)
  | ((with_reducible apply cN.bP (.makeSlice _ _ _) none); first | refine aK h λx J h=>ew (O.Gz J) ?_ | refine aK h λx J h=>ew (O.GH J) ?_)
  | ((with_reducible apply cN.bP (.buildSlice _ 0 #[]) none); first | refine ew (O.wl) ?_)
  | ((with_reducible apply cN.bP (.makeFunc _ _ _) none); first | refine ew (O.zN rfl) ?_)
  | ((with_reducible apply cN.bP (.slice _ _ _ _ _) none); first | refine aK h λx J h=>ew (O.yl .q .q .q iU.p J) ?_ | refine aK h λx J h=>ew (O.Ga .q .q iU.p J) ?_ | refine aK h λx J h=>ew (O.Gb .q .q iU.p J) ?_ | refine aK h λx J h=>ew (O.GD J) ?_ | refine aK h λx J h=>ew (O.GB J) ?_ | refine aK h λx J h=>ew (O.GC J) ?_)
  | ((with_reducible apply cN.bP (.call { callee:=.builtin .len,args:=#[_],argTypes:=#[_] }) none); first | refine ew (O.jb .q ep.p) ?_ | refine ew (O.mz .q ep.p) ?_ | refine ew (O.ux .q iU.p) ?_)
  | ((with_reducible apply cN.bP (.call { callee:=.builtin .append,args:=#[_,_],argTypes:=#[_,_] }) none); first | refine aK h λx J h=>ew (O.wp J) ?_ | refine aK h λx J h=>ew (O.GA J) ?_ | refine aK h λx J h=>ew (O.Gn J) ?_ | refine aK h λx J h=>ew (O.QV J) ?_)
  | ((with_reducible apply cN.bP (.call { callee:=.value _,args:=_,argTypes:=_ }) none); first | (refine aK h λx J h=>Lv (cI.eM ?_ (bC.go J)) ?_; · (repeat' first | exact .nil | refine .cA .q ?_)) | (refine aK h λx J h=>Lv (cI.mE rfl ?_ (bC.go J)) ?_; · (repeat' first | exact .nil | refine .s ?_ | refine .c (View.nN rfl rfl) ?_ | refine .c (.row rfl) ?_ | refine .c (View.mK ?_) ?_ | refine .c (View.cl ?_) ?_)) | (refine aK h λx J h=>Rc (bC.go J) rfl rfl rfl rfl rfl (by repeat' first | exact .nil | refine .b rfl ?_ | refine .n rfl ?_) ?_))
  | ((with_reducible apply cN.bP (.buildSlice _ _ _) none); first | refine Ra h ?_ | refine Rb rfl ?_ | refine Rf rfl ?_ | refine Ri [_,_] rfl ?_ | refine Lw [_] rfl ?_ | refine Lw [_,_] rfl ?_)
  | ((with_reducible apply cN.bP (.assign _) none); refine Re rfl rfl (by first | exact hP.jK | exact hP.wH | exact hP.D_ | exact hP.RY | exact hP.mK .q (by repeat' first | exact e_.nil | (apply e_.f) | (apply e_.r rfl) | (apply e_.mK) | (apply e_.b rfl))) ?_))
 | ((with_reducible apply cN.ts); refine Rg rfl rfl (by first | exact hP.fX | exact hP.nk | exact hP.tf | exact hP.sp | exact hP.rA | exact hP.Qr .q (by repeat' first | exact e_.nil | (apply e_.f) | (apply e_.r rfl) | (apply e_.mK) | (apply e_.b rfl))) ?_)
 | ((with_reducible apply cN.bP _ (some _)); first
  | refine Rh ?_
  | refine Rj ?_
  | ((with_reducible apply cN.bP (.move _) (some _)); first | refine eD (O.aZ .q) ?_)
  | ((with_reducible apply cN.bP (.assign (.const _)) (some _)); first | refine eD (O.az .q) ?_)
  | ((with_reducible apply cN.bP (.assign (.tmp _)) (some _)); first | refine eD (O.az .Aw) ?_)
  | ((with_reducible apply cN.bP (.load _ _) (some _)); first | refine eD (O.h9) ?_ | refine eD (O.hn) ?_ | refine eD (O.AK) ?_ | refine eD (O.AL) ?_ | refine eD (O.Gt) ?_ | refine eD (O.Gx) ?_ | refine eD (O.GI) ?_)
  | ((with_reducible apply cN.bP (.fieldAddr _ _ _) (some _)); first | refine eD (O.Gp) ?_ | refine eD (O.Gq) ?_ | refine eD (O.wf) ?_)
  | ((with_reducible apply cN.bP (.indexAddr _ _ _) (some _)); first | refine aK h λx J h=>eD (O.Gs J) ?_ | refine aK h λx J h=>eD (O.yu J) ?_ | refine eD (O.eY) ?_ | refine eD (O.Gy) ?_)
  | ((with_reducible apply cN.bP (.binOp .add _ _ _ _) (some _)); first | refine eD (O.add .q .q) ?_ | refine aK h λx J h=>eD (O.cat .q .q J) ?_)
  | ((with_reducible apply cN.bP (.binOp .sub _ _ _ _) (some _)); first | refine eD (O.sub .q .q) ?_)
  | ((with_reducible apply cN.bP (.binOp .mul _ _ _ _) (some _)); first | refine eD (O.mul .q .q) ?_)
  | ((with_reducible apply cN.bP (.binOp .lss _ _ _ _) (some _)); first | refine eD (O.lss .q .q) ?_)
  | ((with_reducible apply cN.bP (.binOp .leq _ _ _ _) (some _)); first | refine eD (O.leq .q .q) ?_)
  | ((with_reducible apply cN.bP (.binOp .gtr _ _ _ _) (some _)); first | refine eD (O.gtr .q .q) ?_)
  | ((with_reducible apply cN.bP (.binOp .geq _ _ _ _) (some _)); first | refine eD (O.geq .q .q) ?_)
  | ((with_reducible apply cN.bP (.binOp .eql _ _ _ _) (some _)); first | refine eD (O.eql .q .q) ?_ | refine eD (O.qb .q .q) ?_ | refine eD (O.En .q .q (by kernel_rfl)) ?_ | refine eD (O.oj) ?_)
  | ((with_reducible apply cN.bP (.binOp .neq _ _ _ _) (some _)); first | refine eD (O.neq .q .q) ?_ | refine eD (O.og .q .q) ?_ | refine eD (O.wn) ?_)
  | ((with_reducible apply cN.bP (.binOp .quo _ _ _ _) (some _)); first | refine aK h λx J h=>eD (O.quo .q .q J) ?_ | refine aK h λx J h=>eD (O.rn .q .q J) ?_)
  | ((with_reducible apply cN.bP (.binOp .rem _ _ _ _) (some _)); first | refine aK h λx J h=>eD (O.rem .q .q J) ?_ | refine aK h λx J h=>eD (O.rr .q .q J) ?_)
  | ((with_reducible apply cN.bP (.unOp .not _ _) (some _)); first | refine eD (O.not .q) ?_)
  | ((with_reducible apply cN.bP (.unOp .neg _ _) (some _)); first | refine eD (O.neg .q) ?_)
  | ((with_reducible apply cN.bP (.pick _ _ _) (some _)); first | refine eD (O.hT .q (by first | rfl | assumption) .q) ?_ | refine eD (O.kz .q (by first | rfl | assumption) .q) ?_)
  | ((with_reducible apply cN.bP (.nilCheck _) (some _)); first | refine eD (O.eT .q) ?_ | refine eD (O.xS .q) ?_)
  | ((with_reducible apply cN.bP (.index _ _ _) (some _)); first | refine aK h λx J h=>eD (O.lX .q .q iU.p J) ?_)
  | ((with_reducible apply cN.bP (.extract _ _) (some _)); first | refine eD (O.GG) ?_)
  | ((with_reducible apply cN.bP (.convert _ _ _) (some _)); first | refine eD (O.Gw) ?_ | refine eD (O.Gv) ?_)
  | ((with_reducible apply cN.bP (.box _ _) (some _)); first | refine eD (O.Gm) ?_)
  | ((with_reducible apply cN.bP (.alloc _) (some _)); first | refine eD (O.Gu) ?_)
  | ((with_reducible apply cN.bP (.build _ _) (some _)); first | refine eD (O.GF) ?_)
  | ((with_reducible apply cN.bP (.field _ _ _) (some _)); first | refine eD (O.wd) ?_)
  | ((with_reducible apply cN.bP (.makeSlice _ _ _) (some _)); first | refine aK h λx J h=>eD (O.Gz J) ?_ | refine aK h λx J h=>eD (O.GH J) ?_)
  | ((with_reducible apply cN.bP (.buildSlice _ 0 #[]) (some _)); first | refine eD (O.wl) ?_)
  | ((with_reducible apply cN.bP (.makeFunc _ _ _) (some _)); first | refine eD (O.zN rfl) ?_)
  | ((with_reducible apply cN.bP (.slice _ _ _ _ _) (some _)); first | refine aK h λx J h=>eD (O.yl .q .q .q iU.p J) ?_ | refine aK h λx J h=>eD (O.Ga .q .q iU.p J) ?_ | refine aK h λx J h=>eD (O.Gb .q .q iU.p J) ?_ | refine aK h λx J h=>eD (O.GD J) ?_ | refine aK h λx J h=>eD (O.GB J) ?_ | refine aK h λx J h=>eD (O.GC J) ?_)
  | ((with_reducible apply cN.bP (.call { callee:=.builtin .len,args:=#[_],argTypes:=#[_] }) (some _)); first | refine eD (O.jb .q ep.p) ?_ | refine eD (O.mz .q ep.p) ?_ | refine eD (O.ux .q iU.p) ?_)
  | ((with_reducible apply cN.bP (.call { callee:=.builtin .append,args:=#[_,_],argTypes:=#[_,_] }) (some _)); first | refine aK h λx J h=>eD (O.wp J) ?_ | refine aK h λx J h=>eD (O.GA J) ?_ | refine aK h λx J h=>eD (O.Gn J) ?_ | refine aK h λx J h=>eD (O.QV J) ?_)
  | ((with_reducible apply cN.bP (.call { callee:=.value _,args:=_,argTypes:=_ }) (some _)); first | (refine aK h λx J h=>Lu (cI.eM ?_ (bC.go J)) ?_; · (repeat' first | exact .nil | refine .cA .q ?_)) | (refine aK h λx J h=>Lu (cI.mE rfl ?_ (bC.go J)) ?_; · (repeat' first | exact .nil | refine .s ?_ | refine .c (View.nN rfl rfl) ?_ | refine .c (.row rfl) ?_ | refine .c (View.mK ?_) ?_ | refine .c (View.cl ?_) ?_)))
  | refine HB h (λau h=>?_) (λau h=>?_))
 | ((with_reducible apply cN.nl); first | refine Q' rfl rfl ?_ | refine Q_ h (by (repeat' first | exact .nil | refine .n rfl ?_ | refine .w rfl rfl .pH ?_ | refine .w rfl rfl .pG ?_ | refine .w rfl rfl (j5.obj (by (repeat' first | exact .nil | refine .f ?_ | refine .o ?_ | refine .i ?_))) ?_)))
 | ((with_reducible apply j3.dL); refine cL.dL rfl (by first | exact .w | exact .n | exact .c rfl .w rfl | exact .c rfl .n rfl) rfl rfl ?_)
 | ((with_reducible apply j3.sD); refine cL.sD rfl (by first | exact .w | exact .n | exact .c rfl .w rfl | exact .c rfl .n rfl) rfl rfl ?_)
 | ((with_reducible apply j3.et); first | refine cL.et h (λj h=>?_) (λj ag h=>?_) | refine cL.YF h (λj h=>?_) (λj ag h=>?_))
 | ((with_reducible apply j3.bW); first | refine cL.bW h (λj h=>?_) (λj ag h=>?_) | refine cL.YG h (λj h=>?_) (λj ag h=>?_))
 | ((with_reducible apply j3.rd); first | refine cL.rd ?_ | refine cL.YB ?_)
 | (with_reducible apply cL.rg)
 | (with_reducible apply cL.bE)
 | ((with_reducible apply j3.bB); first
  | refine cL.XB h (λj h=>?_) (λj ag h=>?_)
  | refine cL.b4 h (λau h=>?_) (λau h=>?_)
  | refine cL.ce h (λau h=>?_) (λau h=>?_)
  | refine cL.S6 ?_
  | refine cL.S5 ?_)
 | ((with_reducible apply j3.J2); refine cL.J2 h (λj h=>?_) (λj ag h=>?_))
 | (with_reducible apply cL.wO)
 | (with_reducible apply cL.b9)
 | (with_reducible apply cL.df)
 | (with_reducible apply cL.fm)
 | ((with_reducible apply cL.YN); first
  | (refine cL.KL h (by (repeat' first | exact .nil | refine .z rfl rfl ?_ ?_ | exact .refl | exact .CH | exact hZ.vw | refine fo.obj ?_ | refine .f ?_ | refine .o ?_ | refine .z ?_)) (by (repeat' first | exact .nil | refine .n rfl ?_ | refine .w rfl rfl .pH ?_ | refine .w rfl rfl .pG ?_ | refine .w rfl rfl (j5.obj (by (repeat' first | exact .nil | refine .f ?_ | refine .o ?_ | refine .i ?_))) ?_)))
  | (cases h; refine cL.hU rfl (by (repeat' first | exact .nil | refine .z rfl rfl ?_ ?_ | exact .refl | exact .CH | exact hZ.vw | refine fo.obj ?_ | refine .f ?_ | refine .o ?_ | refine .z ?_)) ?_; exact er.eR)
  | refine cL.Ds ?_)
 | (with_reducible apply er.bE)
 | (with_reducible apply er.fk)
 | (with_reducible apply er.jd)
 | (with_reducible apply er.b9)
 | (with_reducible apply er.fi)
 | (with_reducible apply er.mL)
 | ((with_reducible apply j3.Sw); refine er.Hm ?_)
 | ((with_reducible apply j3.Yq); first
  | refine er.go h (by (repeat' first | exact .nil | refine .n rfl ?_ | refine .w rfl rfl .pH ?_ | refine .w rfl rfl .pG ?_ | refine .w rfl rfl (j5.obj (by (repeat' first | exact .nil | refine .f ?_ | refine .o ?_ | refine .i ?_))) ?_))
  | refine er.a8 h (by (repeat' first | exact .nil | refine .n rfl ?_ | refine .w rfl rfl .pH ?_ | refine .w rfl rfl .pG ?_ | refine .w rfl rfl (j5.obj (by (repeat' first | exact .nil | refine .f ?_ | refine .o ?_ | refine .i ?_))) ?_))
  | refine er.x2 h (by (repeat' first | exact .nil | refine .n rfl ?_ | refine .w rfl rfl .pH ?_ | refine .w rfl rfl .pG ?_ | refine .w rfl rfl (j5.obj (by (repeat' first | exact .nil | refine .f ?_ | refine .o ?_ | refine .i ?_))) ?_))
  | refine er.lr h (by (repeat' first | exact .nil | refine .n rfl ?_ | refine .w rfl rfl .pH ?_ | refine .w rfl rfl .pG ?_ | refine .w rfl rfl (j5.obj (by (repeat' first | exact .nil | refine .f ?_ | refine .o ?_ | refine .i ?_))) ?_)))
 | ((with_reducible apply j3.Yt); refine er.dE h (by (repeat' first | exact .nil | refine .n rfl ?_ | refine .w rfl rfl .pH ?_ | refine .w rfl rfl .pG ?_ | refine .w rfl rfl (j5.obj (by (repeat' first | exact .nil | refine .f ?_ | refine .o ?_ | refine .i ?_))) ?_)))
 | ((with_reducible apply j3.eO); first
  | refine cL.eO h (λs o h=>?_) (λr aj h=>?_)
  | refine cL.fL h (λs o h=>?_) (λr h=>?_) (λr h=>?_))
 | ((with_reducible apply j3.rg); with_reducible apply cL.rt)
 | ((with_reducible apply j3.Yp); cases h; first | exact er.eR | exact er.fn)
 | refine HB h (λau h=>?_) (λau h=>?_)))):p:=h
class yU (P:Program) (N:c6) (Φ:Exit->aJ->Prop) (rs:outParam (List ResultVar)) (n:outParam Nat) (outs:outParam (List (Option ab))) (res:outParam ab):Prop where p:∀ g,pZ P N rs n outs res .ret g->Φ .ret g
instance:yU P N (pZ P N rs n outs res) rs n outs res:=⟨λ_ h=>h⟩
instance {Ψ:aJ->Prop}{Φ:Exit->aJ->Prop} [h:yU P N Φ rs n outs res]:yU P N (oX Ψ Φ) rs n outs res:=⟨λg bY=>h.p g bY⟩
instance {id:Nat}{Φ:Exit->aJ->Prop} [h:yU P N Φ rs n outs res]:yU P N (l6 id Φ) rs n outs res:=⟨λg bY=>h.p g bY⟩
class yT {S R gV:Type}(Φ:Exit->aJ->Prop) (F:outParam (S->List (Nat × ab))) (id:outParam Nat) (X:outParam (R->List (Nat × ab))) (Y:outParam (gV->List (Nat × ab))) (o:outParam (S ⊕ (R ⊕ gV))):Prop where p:∀ g,k8 F (A0 id X Y) o .ret g->Φ .ret g
section
variable {S R gV:Type}{F:S->List (Nat × ab)}{id:Nat}{X:R->List (Nat × ab)}{Y:gV->List (Nat × ab)}{o:S ⊕ (R ⊕ gV)}{Φ:Exit->aJ->Prop}
instance:yT (k8 F (A0 id X Y) o) F id X Y o:=⟨λ_ h=>h⟩
instance {Ψ:aJ->Prop} [h:yT Φ F id X Y o]:yT (oX Ψ Φ) F id X Y o:=⟨λg bY=>h.p g bY⟩
instance {i:Nat} [h:yT Φ F id X Y o]:yT (l6 i Φ) F id X Y o:=⟨λg bY=>h.p g bY⟩
theorem cL.KL {v:gV} [a1:yT Φ F id X Y o] (h:some (.inr (.inr v))=some o) (aX:nY ((Y v).map Prod.fst) (get G) (get (Y v)) (Y v)) (ar:Trim true (get (Y v)) (get (Y v)) (Y v)):cL E t P N .ret G Φ:=by
 cases h;exact W.dL _ aX (W.rt λg au=>a1.p g (aB.lr ar g au))
end
def YE:ResultVar->ab->Option (Nat × ab)
 | .tmp t,x=>some (t,x)
 | .cell s _,.agg cs=>some (s,.obj cs)
 | _,_=>none
def KJ:List ResultVar->List ab->List (Nat × ab)->Option (List (Nat × ab))
 | [],[],T=>some T
 | r::rs,x::xs,T=>match KJ rs xs T,YE r x with
  | some l,some p=>some (p::l)
  | _,_=>none
 | _,_,_=>none
def Ks:List Nat->List (Option ab)->Option (List (Nat × ab))
 | _,[]=>some []
 | j::ed,none::l=>Ks ed l
 | j::ed,some x::l=>match Ks ed l with
  | some r=>some ((j,x)::r)
  | none=>none
 | _,_=>none
def YD (rs:List ResultVar) (outs:List (Option ab)) (res:ab):Option (List (Nat × ab)) :=
 match Ks num outs with
 | none=>none
 | some T=>match rs,res with
  | [r],x=>KJ [r] [x] T
  | rs,.bX xs=>KJ rs xs T
  | _,_=>none
theorem hZ.vw {x y:ab} [aE:ch x] [hv:iY x y]:hZ x y:=.pC aE.bo (hv.v _)
inductive qM {α:Type}(en:bI α):Option Nat->ab->ab->Prop
 | w {El:bI α}{L:List α} [h:iY (ak El L) (ah en L)]:qM en none (ak El L) (ah en L)
 | n [h:iY .aN (ah en ([]:List α))]:qM en none .aN (ah en ([]:List α))
 | c {i:Nat}{cs cs':List ab}{x y:ab}(J:cs[i]?=some x) (h:qM en none x y) (he:oU cs i [y]=some cs'):qM en (some i) (.obj cs) (.obj cs')
theorem qM.one {α:Type}{en:bI α}{x y:ab}(h:qM en none x y):hZ x y/\np y:=by
 cases h with
 | @w El L h=>exact ⟨.pC (.own (pN El L)) (h.v _),⟨by intro _ _ _ _ _ e; cases e⟩⟩
 | @n h=>exact ⟨.pC .aN (h.v _),⟨by intro _ _ _ _ _ e; cases e⟩⟩
theorem qM.dL {α:Type}{en:bI α}{i:Option Nat}{x y:ab}(h:qM en i x y):hZ x y/\np y:=by
 cases h with
 | w=>exact qM.one .w
 | n=>exact qM.one .n
 | @c i cs cs' x y J h he =>
  obtain ⟨h1,af⟩:=lR he;subst h1;refine ⟨.obj (by simp [e8] at af ⊢; omega) λk a b aR au=>?_,⟨by simp⟩⟩;unfold e8 at au;simp only [List.length_singleton] at af au;by_cases hk:k<i
  ·rw [List.append_assoc,List.getElem?_append_left (by simp; omega),List.getElem?_take,if_pos hk,aR] at au;cases au; exact .refl
  ·by_cases f':k=i
   ·subst f';rw [List.append_assoc,List.getElem?_append_right (by rw [List.length_take]; exact Nat.min_le_left _ _),List.length_take,Nat.min_eq_left (by omega),Nat.sub_self] at au;simp at au;subst au;rw [J] at aR; cases aR;exact h.one.1
   ·rw [List.getElem?_append_right (by simp; omega)] at au;simp only [List.length_append,List.length_take,List.length_singleton,List.getElem?_drop] at au;rw [show i+1+(k - (min i cs.length+1))=k by omega,aR] at au;cases au; exact .refl
theorem KC {g g2:aJ}{s:Nat}:∀ {ks:List Nat}{G1:List (Nat × ab)},pick g ks=some G1->(ks.all λk=>![s].elem k)=true->(∀ e∈G1,cS e.2)->nY [s] g g2 G1
 | [],_,h,_,_=>by cases h; exact .nil
 | k::ks,G1,h,he,aE=>by
  obtain ⟨x,l,J,ai,rfl⟩:=Dl h;rw [List.all_cons,Bool.and_eq_true] at he;have:ch x:=⟨aE (k,x) (by simp)⟩;exact .n (by simpa using he.1) J (KC ai he.2 λe h=>aE e (by simp [h]))
def XA (id:Nat):Code->Bool
 | .seq (.region k _ _) _=>Nat.beq k id
 | .region k _ _=>Nat.beq k id
 | _=>false
theorem cL.dL {α:Type}{en:bI α}{id s:Nat}{i:Option Nat}{B:Code}{Φ:Exit->aJ->Prop}{x y:ab}{ks:List Nat}{ic:List (Nat × ab)}(aA:get G s=some x) (av:qM en i x y) (hk:sZ [s] G=some ks) (ar:pick (get G) ks=some ic) (h:cL E t P N B ((s,y)::ic) Φ) (acV:XA id B=true:=by rfl) (da:(ks.all λk=>![s].elem k)=true:=by rfl) [J:ch x] [aE:ix ic]:cL E (.dL id s i en t) P N B G Φ :=
 have:=av.dL.2
 W.dL [s] (.z (by simp) aA av.dL.1 (KC ar da aE.p)) h
theorem cL.sD {α:Type}{en:bI α}{s:Nat}{i:Option Nat}{c:Code}{Φ:Exit->aJ->Prop}{x y:ab}{ks:List Nat}{ic:List (Nat × ab)}(aA:get G s=some x) (av:qM en i x y) (hk:sZ [s] G=some ks) (ar:pick (get G) ks=some ic) (h:cL E t P N (.loop c) ((s,y)::ic) Φ) (da:(ks.all λk=>![s].elem k)=true:=by rfl) [J:ch x] [aE:ix ic]:cL E (.sD s i en t) P N (.loop c) G Φ :=
 have:=av.dL.2
 W.dL [s] (.z (by simp) aA av.dL.1 (KC ar da aE.p)) h
theorem cL.hU {Φ:Exit->aJ->Prop}{G1:List (Nat × ab)} [a1:yU P N Φ rs n outs res] (c9:YD rs outs res=some G1) (aX:nY (G1.map Prod.fst) (get G) (get G1) G1) (ar:er E t .ret (pZ P N rs n outs res) G1):cL E t P N .ret G Φ :=
 W.dL _ aX (W.rt λg au=>a1.p g (ar g au))
def FE:List Nat->Nat->List ab->Option (List (Nat × ab))
 | _,_,[]=>some []
 | [],_,_::_=>none
 | j::ed,k,x::l=>match FE ed (k+1) l with
  | none=>none
  | some r=>match s4 x,Nat.beq j k with
   | some y,true=>some ((j,y)::r)
   | _,_=>none
theorem Pn:∀ {l:List ab}{ed:List Nat}{k:Nat}{r:List (Nat × ab)},FE ed k l=some r->xV k l=r
 | [],ed,k,r,h=>by cases ed <;> (cases h; rfl)
 | x::l,[],k,r,h=>by cases h
 | x::l,j::ed,k,r,h=>by
  unfold FE at h
  split at h
  ·cases h
  ·rename_i cW aj
   split at h
   ·rename_i y av ag;cases h; rw [<- Pn aj,<- vO av,Nat.eq_of_beq_eq_true ag]; rfl
   ·cases h
def lits:List Nat:=[0,1,2,3,4,5,6,7,8,9,10,11,12]
theorem bR.bq {f:FuncId}{fn:Func}{c:Code}{args:List ab}{outs:List (Option ab)}{res:ab}(E:List Nat) (t:ly) (aW:P.funcs[f]?=some fn) (au:fn.body=some c) (bd:fn.ntmps=N.size) (aR:Nat.ble args.length N.size=true) (hlen:outs.length=args.length) (c9:FE lits 0 args=some G) (hw:cL E t P N c G (pZ P N fn.results.toList args.length outs res)):bR P f args outs res:=bR.go aW au bd aR hlen (W.fin (by rw [Pn c9]; exact hw))
end
end Go.Own
