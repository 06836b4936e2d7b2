/-
  Parts of the proof that the last text states. No condition of their own.
-/
import Derived.KernelRfl
import Derived.Test.YtdhblbniiokpmaaGreatE4
namespace Go.Proofs
open Go Go.Own Go.Sort
set_option maxRecDepth 100000
set_option linter.unusedVariables false
def vG (a b:b4):Bool:=decide (a.At<b.At)||(decide (a.At=b.At)&&decide (a.b8<b.b8))
theorem JW {a b:b4}:vG a b=true↔(a.At<b.At\/(a.At=b.At/\a.b8<b.b8)):=by simp [vG]
theorem JX {a b:b4}:vG a b=false↔¬ (a.At<b.At\/(a.At=b.At/\a.b8<b.b8)):=by
 rw [<- JW]; simp
theorem Po:Ord vG where
 swo:=⟨λx=>by rw [JX]; omega,λx y z h1 af=>by rw [JW] at *; omega,λx y z h1 af=>by rw [JX] at *; omega⟩
 jj x y h1 af:=by
  rw [JX] at h1 af;obtain ⟨a8,x2⟩:=x;obtain ⟨bw,y2⟩:=y;simp only at h1 af;have:a8=bw:=by omega
  have:x2=y2:=by omega
  subst_vars; rfl
theorem RX {α:Type} [DecidableEq α] {lt:α->α->Bool}(h:Ord lt) {l:List α}(aF:l.Nodup):fR lt (ia lt l):=by
 have h1:=E9 h.swo l;have af:(ia lt l).Nodup:=(sV lt l).nodup_iff.2 aF;refine List.Pairwise.imp (λ{a b} BD=>?_) (h1.and af);cases bY:lt a b with
 | true=>rfl
 | false=>exact absurd (h.jj _ _ bY (by simpa using BD.1)) BD.2
def wA (T:List bW) (p:b4):Prop:=∃ (k:Nat) (t:bW),T[k]?=some t/\0<t.bP/\p=⟨t.bP,(k:Int)⟩
theorem wA.val {T:List bW}{p:b4}(h:wA T p):∃ (k:Nat) (t:bW),T[k]?=some t/\p.b8=(k:Int)/\p.At=t.bP/\0<t.bP:=by
 obtain ⟨k,t,h1,af,rfl⟩:=h;exact ⟨k,t,h1,rfl,rfl,af⟩
theorem St (a b:Int):∃ v,uB a b=some v/\(v<0↔a<b)/\(v=0↔a=b):=by
 have e:∀ a,v8 a=some false:=λa=>by simp [v8]
 unfold uB;simp only [e,Option.bind_some,cond_false];by_cases h1:a<b
 ·exact ⟨-1,by simp [h1],by omega,by omega⟩
 ·by_cases af:b<a
  ·exact ⟨1,by simp [h1,af],by omega,by omega⟩
  ·exact ⟨0,by simp [h1,af],by omega,by omega⟩
theorem Sl (g:bN) (aO:uU g) (aj:g.ba.length<=1000):Tot (Ag g) λl=>fR vG l/\l.length<=1000/\∀ p,p∈l↔wA g.ba p:=by
 unfold Ag;refine .aA (Ξ:=λl:List b4=>(l.length<=1000/\∀ p,p∈l↔wA g.ba p)/\l.Pairwise λa b=>a.b8<b.b8) ?_ λl aj=>?_
 ·refine Tot.upto (λs=>s.2) g.ba.length (λk s=>(s.1.length<=k/\∀ p,p∈s.1↔(wA g.ba p/\p.b8<(k:Int)))/\s.1.Pairwise λa b=>a.b8<b.b8) rfl (by omega) ⟨⟨Nat.le_refl 0,λp=>⟨λh=>(by cases h),λh=>by obtain ⟨k,t,_,e,_⟩:=h.1.val; omega⟩⟩,.nil⟩ λk s hk he bf=>?_;obtain ⟨l,i⟩:=s;obtain ⟨⟨h1,af⟩,cG⟩:=bf;simp only at he h1 af cG ⊢;subst he;rw [eA k (by omega)];refine Tot.bp (λaT=>?_) (λdV=>.aq ⟨⟨by omega,λp=>(af p).trans ⟨λh=>h.1,λh=>⟨h,?_⟩⟩⟩,cG⟩)
  ·have aT:k<g.ba.length:=by omega
   rw [dX aT];have n':g.ba[k]?=some g.ba[k]:=List.getElem?_eq_getElem aT;refine .aA (Ξ:=λo:List b4=>(o.length<=k+1/\∀ p,p∈o↔(wA g.ba p/\p.b8<((k+1:Nat):Int)))/\o.Pairwise λa b=>a.b8<b.b8) ?_ λo a1=>.aq ⟨aT,rfl,a1⟩;simp only [Option.bind_some];refine .aA (Ξ:=λo:List b4=>(o.length<=k+1/\∀ p,p∈o↔(wA g.ba p/\p.b8<((k+1:Nat):Int)))/\o.Pairwise λa b=>a.b8<b.b8) ?_ λo a1=>.aq a1;refine Tot.bp (λau=>.aA (Ξ:=λ_=>True) (Tot.ap (by simp [lim]; omega) trivial) λ_ _=>.aq ⟨⟨by simp; omega,λp=>?_⟩,?_⟩) (λau=>.aq ⟨⟨by omega,λp=>?_⟩,cG⟩)
   ·rw [List.mem_append,List.mem_singleton,af];constructor
    ·rintro (h | rfl)
     ·exact ⟨h.1,by omega⟩
     ·exact ⟨⟨k,_,n',au,rfl⟩,by show (k:Int)<((k+1:Nat):Int); omega⟩
    ·rintro ⟨h,hv⟩;obtain ⟨j,t,aI,bF,rfl⟩:=h;simp only at hv;by_cases e:j=k
     ·subst e;rw [n'] at aI; cases aI;exact .inr rfl
     ·exact .inl ⟨⟨j,t,aI,bF,rfl⟩,by show (j:Int)<k; omega⟩
   ·refine List.pairwise_append.2 ⟨cG,List.pairwise_singleton ..,λa aP b av=>?_⟩;rw [List.mem_singleton.1 av];exact ((af a).1 aP).2
   ·rw [af];constructor
    ·rintro ⟨h,hv⟩;exact ⟨h,by omega⟩
    ·rintro ⟨h,hv⟩;obtain ⟨j,t,aI,bF,rfl⟩:=h;simp only at hv;refine ⟨⟨j,t,aI,bF,rfl⟩,?_⟩;show (j:Int)<k;by_cases e:j=k
     ·subst e;rw [n'] at aI; cases aI;exact absurd bF au
     ·omega
  ·obtain ⟨j,t,aI,_,rfl⟩:=h;have:=(List.getElem?_eq_some_iff.1 aI).1;show (j:Int)<k;omega
 ·obtain ⟨aj,I0⟩:=aj;have aB:pW (λa b=>C3 a b) l=some (ia vG l):=by
   refine Zd Po (λa aP b av=>?_) (by omega);obtain ⟨v,hv,h1,af⟩:=St a.At b.At;refine ⟨v,by unfold C3; rw [hv]; rfl,h1.trans ?_⟩;rw [JW];constructor
   ·exact .inl
   ·rintro (h | ⟨h,aR⟩)
    ·exact h
    ·exfalso;obtain ⟨i,s,cy,b9,rfl⟩:=(aj.2 a).1 aP;obtain ⟨j,t,fH,mR,rfl⟩:=(aj.2 b).1 av;simp only at h aR;have:=aO.un i j s t cy fH b9 h;omega
  rw [aB];refine .aq ⟨RX Po (I0.imp λ{a b} h e=>by subst e; omega),by rw [(sV vG l).length_eq]; exact aj.1,λp=>((sV vG l).mem_iff).trans (aj.2 p)⟩
open Go Go.Own
theorem K2:ya=some true:=by kernel_rfl
theorem PF {α:Type}(keep:α->Bool) (val:α->Int) {l:List α}(aj:l.length<=1000):lF (hL keep val l):=by
 refine ⟨λp au=>?_,?_⟩
 all_goals grind [O0,Ym]
theorem Mg (l:List Row) (aj:l.length<=200) (ao:∀ r∈l,lF r.fm/\r.fm.length<=1000):Tot (x3 l) λr=>r.1=l.map (·.Def)/\∀ a n,rl r.2 a n=some (q6 (l.map (·.fm)) a n):=by
 unfold x3;refine .aA (Ξ:=λs:List Int × List (List b4)=>s.1=l.map (·.Def)/\s.2=l.map (·.fm)) ?_ λs aB=>?_
 ·refine Tot.upto (λs=>s.2.2) l.length (λk s=>s.1=(l.take k).map (·.Def)/\s.2.1=(l.take k).map (·.fm)) rfl (by omega) ⟨rfl,rfl⟩ λk s hk he bf=>?_;obtain ⟨A,B,i⟩:=s;obtain ⟨h1,af⟩:=bf;simp only at he h1 af ⊢;subst he h1 af;rw [eA k (by omega)];refine Tot.bp (λaT=>?_) (λdV=>.aq ?_)
  ·have aT:k<l.length:=by omega
   rw [dX aT];refine Tot.aV (.aA (Ξ:=λ_=>True) (Tot.ap (by simp [lim]; omega) trivial) λ_ _=>.aA (Ξ:=λ_=>True) (Tot.ap (by simp [lim]; omega) trivial) λ_ _=>.aq ⟨aT,rfl,?_,?_⟩)
   all_goals grind [lz]
  grind
 ·obtain ⟨h1,af⟩:=aB;rw [af];have db:p_ (l.map (·.fm)):=⟨by simp; omega,λr ed=>by
   grind⟩
  have ff:D0 (l.map (·.fm)):=⟨by simp; omega,λr ed=>by
   grind⟩
  refine .aA (Sq _ ff) λc aa=>.aq ⟨h1,λa n=>?_⟩;obtain ⟨gX,o,hO,h8⟩:=aa.2 db;exact TV db hO h8 (h8.inv db (List.pairwise_reverse.2 hO.Ks)) gX a n
structure A2 (g:bN) (d:gT) (t:Tables):Prop where
 Ef:t.Def=d.cB.map λr=>gf (red r)
 gd:t.jn=(List.range g.b0.length).map λa=>gf (pos (dR d a))
 ac:∀ a n,rl t.cB a n=some (q6 (d.cB.map λr=>(ly r).fm) a n)
 go:∀ a n,rl t.gC a n=some (q6 ((List.range g.b0.length).map λa=>(k4 (dR d a)).fm) a n)
 le:t.Left=g.bh.map (·.Left)
 nh:t.mK=g.bh.map λp=>(p.eI.length:Int)
theorem jK (g:bN) (n:Nat) (d:gT) (aS:ss g n d) (hk:uU g):Tot (uy g d) (A2 g d):=by
 have aO:=aS.rT;have aw:=aO.kH;have kA:=aO.dy;have uf:=aO.h0;have kz:=aS.gJ;have sI:=aS.a;have xk:=aS.o;unfold uy;refine .aA (tF g n d aS) λa8 h1=>?_;subst h1;refine .aA (Mg _ (by simp; omega) λr ao=>?_) λx2 af=>.aA (Sk g n d aS) λa7 aI=>?_
 ·obtain ⟨q,bg,rfl⟩:=List.mem_map.1 ao;have aj:=(aS.jJ q bg).1;have:=s' (j0 (gf (red q))) lf q;exact ⟨PF _ _ (by omega),by show (hL _ _ q).length<=_; omega⟩
 subst aI;refine .aA (Mg _ (by simp; omega) λr ao=>?_) λbs bF=>?_
 ·obtain ⟨a,_,rfl⟩:=List.mem_map.1 ao;have aj:=u4 d a;have:=s' (jx (gf (pos (dR d a)))) id (dR d a);exact ⟨PF _ _ (by omega),by show (hL _ _ (dR d a)).length<=_; omega⟩
 refine .aA (Ξ:=λs:List Int × List Int=>s.1=g.bh.map (·.Left)/\s.2=g.bh.map λp=>(p.eI.length:Int)) ?_ λbx eh=>.aA (Sl g hk (by omega)) λet _=>.aq ?_
 ·refine Tot.upto (λs=>s.2.2) g.bh.length (λk s=>s.1=(g.bh.take k).map (·.Left)/\s.2.1=(g.bh.take k).map λp=>(p.eI.length:Int)) rfl (by omega) ⟨rfl,rfl⟩ λk s vn he bf=>?_;obtain ⟨A,B,i⟩:=s;obtain ⟨h1,af⟩:=bf;simp only at he h1 af ⊢;subst he h1 af;rw [eA k (by omega)];refine Tot.bp (λaT=>?_) (λdV=>.aq ?_)
  ·have aT:k<g.bh.length:=by omega
   rw [dX aT];refine Tot.aV (.aA (Ξ:=λ_=>True) (Tot.ap (by simp [lim]; omega) trivial) λ_ _=>.aA (Ξ:=λ_=>True) (Tot.ap (by simp [lim]; omega) trivial) λ_ _=>.aq ⟨aT,rfl,?_,?_⟩)
   all_goals grind [lz]
  grind
 ·refine ⟨?_,?_,λa m=>?_,λa m=>?_,eh.1,eh.2⟩
  ·show x2.1=_;rw [af.1,List.map_map];rfl
  ·show bs.1=_;rw [bF.1,List.map_map];rfl
  ·show rl x2.2 a m=_;rw [af.2,List.map_map];rfl
  ·show rl bs.2 a m=_;rw [bF.2,List.map_map];rfl
theorem Hb (s:Source) (av:rK s):Tot (sl s) λr=>r.2.2.2=true->(∃ n,ss r.1 n r.2.1)/\uU r.1:=by
 refine (Par.jj (Se s av) (Ψ:=λr=>r.2.2.2=true->uU r.1) ?_).use λr ao h=>⟨ao.1 h,ao.2 h⟩;have X7:Par (x7 s) λr=>r.2=true->uU r.1:=by
  unfold x7;exact .aA (X8 s av) λr ao=>.aq λh=>ao (of_decide_eq_true h)
 have X6:Par (x5 s) λr=>r.2.2=true->uU r.1:=by
  unfold x5;exact .aA X7 λr ao=>Par.bE (λ_=>.aq λh=>by cases h) (λh=>.aA (Ξ:=λ_=>True) (λ_ _=>trivial) λm _=>.aq λ_=>ao (by simpa using h))
 have X5:Par (vX s) λr=>r.2.2.2=true->uU r.1:=by
  unfold vX;exact .aA X6 λr ao=>Par.bE (λ_=>.aq λh=>by cases h) (λh=>.aA (Ξ:=λ_=>True) (λ_ _=>trivial) λqA _=>.aA (Ξ:=λ_=>True) (λ_ _=>trivial) λcs _=>.aq λ_=>ao (by simpa using h))
 unfold sl;exact .aA X5 λr ao=>Par.bE (λ_=>.aq λh=>by cases h) (λh=>.aA (Ξ:=λ_=>True) (λ_ _=>trivial) λ_ _=>.aA (Ξ:=λ_=>True) (λ_ _=>trivial) λ_ _=>.aq λ_=>ao (by simpa using h))
theorem get_at {α:Type}{keep:α->Bool}{val:α->Int}{l:List α}{k:Nat}{x:α}(aj:l.length<=1000) (hk:l[k]?=some x):kx (hL keep val l) (k:Int)=if keep x=true then (val x,true) else (0,false):=by
 have h1:=TX (keep:=keep) (val:=val) (by omega) hk
 grind [g19,s']
def wa (r:List Act) (k:Int):Option Act:=if (kx (ly r).fm k).2=true then x4 (kx (ly r).fm k).1 else some (if gf (red r)<0 then ⟨0,0⟩ else ⟨2,gf (red r)⟩)
theorem Hu {g:bN}{d:gT}{t:Tables}(h:A2 g d t) (s k:Int):oq t s k=match idx d.cB s with | some r=>wa r k | none=>some ⟨0,0⟩:=by
 unfold oq;rw [h.ac,Option.bind_some];have ED:t.Def.length=d.cB.length:=by rw [h.Ef]; simp
 cases aB:idx d.cB s with
 | none =>
  grind [idx,q6]
 | some r =>
  have av:=nb aB;have aY:idx (d.cB.map λr=>(ly r).fm) s=some (ly r).fm:=by
   grind [idx]
  have aco:idx t.Def s=some (gf (red r)):=by
   rw [h.Ef]
   grind [idx]
  grind [q6,wa]
theorem Yq {g:bN}{n:Nat}(aO:gB g) (aF:n<=150) {r:List Act}(aj:r.length<=1000) {k:Nat}{x:Act}(hk:r[k]?=some x) (J:oy g n x):wa r (k:Int)=some (if j0 (gf (red r)) x=true then x else if gf (red r)<0 then ⟨0,0⟩ else ⟨2,gf (red r)⟩):=by
 unfold wa;have e:kx (ly r).fm (k:Int)=if j0 (gf (red r)) x=true then (lf x,true) else (0,false):=get_at aj hk
 grind [j0,SO]
def Ax (c:List Int) (s:Int):Int:=if (kx (k4 c).fm s).2=true then (kx (k4 c).fm s).1 else gf (pos c)
theorem Hv {g:bN}{d:gT}{t:Tables}(h:A2 g d t) (s a:Int):s8 t s a=some (if 0<=a/\a<g.b0.length then Ax (dR d a.toNat) s else -1):=by
 unfold s8;rw [h.go,Option.bind_some];have BN:t.jn.length=g.b0.length:=by rw [h.gd]; simp
 by_cases aP:0<=a/\a<(g.b0.length:Int)
 ·obtain ⟨k,rfl⟩:∃ k:Nat,a=(k:Int):=⟨a.toNat,by omega⟩;have hk:k<g.b0.length:=by omega
  have aY:idx ((List.range g.b0.length).map λa=>(k4 (dR d a)).fm) (k:Int)=some (k4 (dR d k)).fm:=by
   unfold idx;rw [if_pos (by omega),Int.toNat_natCast,List.getElem?_map,List.getElem?_range hk]; rfl
  have hq:idx t.jn (k:Int)=some (gf (pos (dR d k))):=by
   rw [h.gd];unfold idx;rw [if_pos (by omega),Int.toNat_natCast,List.getElem?_map,List.getElem?_range hk]; rfl
  rw [if_pos aP,Int.toNat_natCast];unfold q6 Ax;rw [aY];simp only;by_cases af:(kx (k4 (dR d k)).fm s).2=true
  ·simp [af]
  ·have af:(kx (k4 (dR d k)).fm s).2=false:=by simpa using af
   have d1:decide ((k:Int)<0)=false:=decide_eq_false (by omega);have d2:decide ((t.jn.length:Int)<=(k:Int))=false:=decide_eq_false (by omega);rw [af,d1,d2,hq];simp
 ·have aY:idx ((List.range g.b0.length).map λa=>(k4 (dR d a)).fm) a=none:=by
   unfold idx;split
   ·rw [List.getElem?_eq_none];simp; omega
   ·rfl
  rw [if_neg aP];unfold q6;rw [aY];simp only [cond_false];by_cases aQ:a<0
  ·simp [aQ]
  ·have h1:(t.jn.length:Int)<=a:=by omega
   simp [aQ,h1]
theorem Ys {c:List Int}(aj:c.length<=1000) {q:Nat}{v:Int}(bg:c[q]?=some v):Ax c (q:Int)=if jx (gf (pos c)) v=true then v else gf (pos c):=by
 unfold Ax;have e:kx (k4 c).fm (q:Int)=if jx (gf (pos c)) v=true then (v,true) else (0,false):=get_at aj bg
 rw [e];by_cases h:jx (gf (pos c)) v=true
 ·rw [if_pos h,if_pos rfl,if_pos h]
 ·rw [if_neg h,if_neg (by simp),if_neg h]
theorem XQ {g:bN}{n:Nat}(aO:gB g) {r:List Act}(aj:r.length=g.ba.length) (h:∀ a∈r,oy g n a):oB (red r) (gf (red r)):=(zV (Kv aO aj h)).2.2
theorem Xx {r:List Act}{v:Int}(h:v∈red r):∃ a∈r,a.Kind=2/\a.N=v:=by
 unfold red at h;obtain ⟨a,aP,rfl⟩:=List.mem_map.1 h;rw [List.mem_filter] at aP;exact ⟨a,aP.1,of_decide_eq_true aP.2,rfl⟩
theorem XO {g:bN}{n:Nat}(aO:gB g) {r:List Act}(aj:r.length=g.ba.length) (h:∀ a∈r,oy g n a):gf (red r)=-1\/(0<=gf (red r)/\∃ a∈r,a.Kind=2/\a.N=gf (red r)):=by
 rcases XQ aO aj h with ⟨_,e⟩ | ⟨hm,_⟩
 ·exact .inl e
 ·obtain ⟨a,aP,hk,e⟩:=Xx hm;have:=((h a aP).oX hk).1;exact .inr ⟨by omega,a,aP,hk,e⟩
theorem XP {c:List Int}(aj:c.length<=150) (h:∀ v∈c,v<150):gf (pos c)=-1\/0<=gf (pos c):=by
 rcases (zV (Kq aj h)).2.2 with ⟨_,e⟩ | ⟨hm,_⟩
 ·exact .inl e
 ·unfold pos at hm;rw [List.mem_filter] at hm;exact .inr (of_decide_eq_true hm.2)
theorem RD {g:bN}{n:Nat}{x:Act}(J:oy g n x) {D:Int}(hq:D=-1\/0<=D):(if j0 D x=true then x else if D<0 then ⟨0,0⟩ else ⟨2,D⟩)=(if x.Kind=0/\D≠-1 then ⟨2,D⟩ else x):=by
 obtain ⟨k,m⟩:=x;have aQ:=J.gJ;simp only at aQ;unfold j0;by_cases hd:k=0
 ·subst hd;have:=aQ rfl;subst this;rcases hq with rfl | hq
  ·simp
  ·have h1:¬ D<0:=by omega
   have af:D≠-1:=by omega
   simp [h1,af]
 ·by_cases b9:k=2
  ·subst b9;by_cases MB:m=D
   ·subst MB;have af:=(J.oX rfl).1;have af:0<m:=af;have h1:¬ m<0:=by omega
    simp [h1]
   ·simp [MB]
  ·simp [hd,b9]
theorem t6 (s:Source):C4 s=some true:=by
 suffices h:Tot (C4 s) λr=>r=true by
  obtain ⟨r,ao,e⟩:=h; rw [ao,e]
 unfold C4;rw [K2];refine Tot.aV (.aA (t9 s) λy av=>.aA (Hb y av) λD aS=>Tot.bE (λ_=>.aq rfl) (λh=>?_));obtain ⟨⟨n,hq⟩,hk⟩:=aS (by simpa using h);generalize D.1=g at *;generalize D.2.1=d at *;have aO:=hq.rT;have kz:=hq.gJ;have aw:=aO.kH;have kA:=aO.dy;have sI:=hq.a;have xk:=hq.o;refine .aA (jK g n d hq hk) λt cn=>?_;have ED:t.Def.length=d.cB.length:=by rw [cn.Ef]; simp
 have BN:t.jn.length=g.b0.length:=by rw [cn.gd]; simp
 refine .aA (Ξ:=λc=>c=false) (Tot.pj (λh=>absurd (by rw [ED]) h) (λ_=>.aq (by rw [BN]; simp))) λc aa=>?_;subst aa;refine Tot.aV (.aA (Ξ:=hn (λ_=>True) (λ_:Bool=>False)) ?_ λx J=>by
  rcases x with x | x
  ·exact .aq rfl
  ·exact J.elim)
 refine Tot.upto (λs=>s) d.cB.length (λ_ _=>True) rfl (by omega) trivial λq s bg he _=>?_;subst he;rw [eA q (by omega)];refine Tot.bp (λaT=>?_) (λ_=>.aq trivial);have aT:q<d.cB.length:=by omega
 have ky:q<d.dT.length:=by omega
 have ao:=hq.jJ _ (List.getElem_mem aT);have kV:=hq.vN _ (List.getElem_mem ky);have Oe:idx d.cB (q:Int)=some d.cB[q]:=dX aT;have Ut:idx t.Def (q:Int)=some (gf (red d.cB[q])):=by
  rw [cn.Ef];have:q<(d.cB.map λr=>gf (red r)).length:=by simp; omega
  rw [dX this,List.getElem_map]
 refine .aA (Ξ:=hn (λ_=>True) (λ_:Bool=>False)) ?_ λx J=>?_
 ·refine Tot.upto (λs=>s) g.ba.length (λ_ _=>True) rfl (by omega) trivial λk s vn he _=>?_;subst he;rw [eA k (by omega)];refine Tot.bp (λq'=>?_) (λ_=>.aq trivial);have q':k<(d.cB[q]).length:=by omega
  have J:=ao.2 _ (List.getElem_mem q');have oR:(d.cB[q])[k]?=some (d.cB[q])[k]:=List.getElem?_eq_getElem q';have N6:=XO aO ao.1 ao.2;have e:=Hu cn (q:Int) (k:Int);rw [Oe] at e;have b9:=Yq aO kz.2 (by omega) oR J;rw [RD J (N6.imp id λh=>h.1)] at b9;have e:oq t (q:Int) (k:Int)=wa d.cB[q] (k:Int):=e;rw [b9] at e;rw [Oe];simp only [Option.bind_some];rw [dX q',Ut,e];generalize (d.cB[q])[k]=x at *;generalize gf (red d.cB[q])=D at *;refine Tot.aV (.aA (Ξ:=λc=>c=decide (x.Kind=0/\D≠-1)) ?_ λc aa=>?_)
  ·refine Tot.bp (λh=>.aq ?_) (λh=>.aq ?_)
   ·simp [h]
   ·simp [h]
  subst aa;by_cases hw:x.Kind=0/\D≠-1
  ·rw [decide_eq_true hw,if_pos hw];exact ⟨.inl ((k+1:Nat):Int),by simp,by omega,rfl,trivial⟩
  ·rw [decide_eq_false hw,if_neg hw];exact ⟨.inl ((k+1:Nat):Int),by simp,by omega,rfl,trivial⟩
 rcases x with x | x
 ·refine .aA (Ξ:=hn (λ_=>True) (λ_:Bool=>False)) ?_ λx J=>by
   rcases x with x | x
   ·exact .aq ⟨aT,rfl,trivial⟩
   ·exact J.elim
  refine Tot.upto (λs=>s) g.b0.length (λ_ _=>True) rfl (by omega) trivial λa s aP he _=>?_;subst he;rw [eA a (by omega)];refine Tot.bp (λEI=>?_) (λ_=>.aq trivial);have EI:a<g.b0.length:=by omega
  have IP:a<(d.dT[q]).length:=by omega
  have hv:=kV.2 _ (List.getElem_mem IP);have gX:=u4 d a;have Vq:=Hp hq EI;have Vw:(dR d a)[q]?=some (d.dT[q])[a]:=by
   unfold dR;rw [List.getElem?_map,List.getElem?_eq_getElem ky];show some ((d.dT[q]).getD a 0)=_;rw [List.getD_eq_getElem?_getD,List.getElem?_eq_getElem IP]; rfl
  have ud:=XP (c:=dR d a) (by omega) λv hv=>by have:=Vq v hv; omega
  have e:=Hv cn (q:Int) (a:Int);rw [if_pos ⟨by omega,by omega⟩,Int.toNat_natCast,Ys (by omega) Vw] at e;have Uz:idx t.jn (a:Int)=some (gf (pos (dR d a))):=by
   rw [cn.gd];have:a<((List.range g.b0.length).map λa=>gf (pos (dR d a))).length:=by simp; omega
   rw [dX this,List.getElem_map,List.getElem_range]
  rw [dX ky];simp only [Option.bind_some];rw [dX IP,Uz,e];generalize (d.dT[q])[a]=v at *;generalize gf (pos (dR d a))=G at *;simp only [Option.bind_some];by_cases hw:v=-1
  ·have IJ:¬ jx G v=true:=by subst hw; simp [jx]
   rw [if_neg IJ];exact ⟨.inl ((a+1:Nat):Int),by simp [hw],EI,rfl,trivial⟩
  ·have IJ:(if jx G v=true then v else G)=v:=by
    unfold jx;by_cases e:v=G
    ·simp [e]
    ·have:0<=v:=by omega
     simp [e,this]
   rw [IJ];exact ⟨.inl ((a+1:Nat):Int),by simp [hw],EI,rfl,trivial⟩
 ·exact J.elim
theorem Yr (r:List Act) (k:Int):∃ a,wa r k=some a:=by
 unfold wa;split
 ·obtain ⟨a,h,_⟩:=ZD (kx (ly r).fm k).1
  grind [Hw]
 grind
theorem Tr {g:bN}{d:gT}{t:Tables}(h:A2 g d t) (s k:Int):∃ a,oq t s k=some a:=by
 rw [Hu h];split
 ·exact Yr _ k
 grind
theorem Ts {g:bN}{n:Nat}{d:gT}{t:Tables}(hq:ss g n d) (h:A2 g d t) (s k:Int):vU d (d.cB.map ly) s k=oq t s k:=by
 have aw:=hq.rT.kH;rw [Hu h];unfold vU;cases aB:idx d.cB s with
 | none =>
  grind [idx]
 | some r =>
  have av:=nb aB;have aj:=(hq.jJ r av.2.2).1;have aY:idx (d.cB.map ly) s=some (ly r):=by
   grind [idx]
  have d1:decide (s<0)=false:=decide_eq_false (by omega);have d2:decide (((d.cB.map ly).length:Int)<=s)=false:=decide_eq_false (by simp; omega);have ue:(ly r).fm.length<=100000:=by
   have:=s' (j0 (gf (red r))) lf r;show (hL _ _ r).length<=_;omega
  grind [g19,wa,ly,Hw]
theorem t4 (x:th) (aD a2:Int):Kh x aD a2=some true:=by
 suffices h:Tot (Kh x aD a2) λr=>r=true by
  obtain ⟨r,ao,e⟩:=h
  grind
 unfold Kh;rw [K2];refine Tot.aV (.aA (t10 x) λy av=>.aA (Hb y av) λD aS=>Tot.bE (λ_=>.aq rfl) (λh=>?_));obtain ⟨⟨n,hq⟩,hk⟩:=aS (by simpa using h);generalize D.1=g at *;generalize D.2.1=d at *;have kz:=hq.gJ;have aw:=hq.rT.kH;have sI:=hq.a;refine .aA (jK g n d hq hk) λt cn=>.aA (tD g n d hq) λR aY=>?_;subst aY;have key:∀ s k:Int,∃ a,oq t s k=some a/\vU d (d.cB.map ly) s k=some a:=λs k=>by
  obtain ⟨a,aP⟩:=Tr cn s k
  grind [Ts]
 refine .aA (Ξ:=hn (λ_=>True) (λ_:Bool=>False)) ?_ λx J=>?_
 ·refine Tot.count (λs=>s) ((d.cB.length:Int)+1) (λs=>-1<=s) (Int.le_refl _) (by show (d.cB.length:Int)+1 - -1<_; omega) λs aB=>?_;refine Tot.bp (λhle=>?_) (λ_=>.aq trivial);have Jc:aJ (s+1)=s+1:=by rw [cA]; omega
  rw [Jc];refine .aA (Ξ:=hn (λ_=>True) (λ_:Bool=>False)) ?_ λx J=>?_
  ·have WK:aJ ((g.ba.length:Int)+2)=(g.ba.length:Int)+2:=by rw [cA]; omega
   rw [WK];refine Tot.count (λs=>s) ((g.ba.length:Int)+3) (λs=>-2<=s) (Int.le_refl _) (by show (g.ba.length:Int)+3 - -2<_; omega) λk fW=>?_;refine Tot.bp (λacY=>?_) (λ_=>.aq trivial);have qs:aJ (k+1)=k+1:=by rw [cA]; omega
   rw [qs];obtain ⟨a,cy,b9⟩:=key s k;rw [cy,b9];exact ⟨.inl (k+1),by simp,⟨by show -2<=k+1; omega,by show k<k+1; omega,by show k+1<=_; omega⟩⟩
  ·rcases x with x | x
   ·obtain ⟨a,cy,b9⟩:=key s a2;simp only [cy,b9,Option.bind_some];exact ⟨.inl (s+1),by simp,⟨by show -1<=s+1; omega,by show s<s+1; omega,by show s+1<=_; omega⟩⟩
   grind
 ·rcases x with x | x
  ·obtain ⟨a,cy,b9⟩:=key aD a2;simp only [cy,b9,Option.bind_some];exact ⟨true,by simp,rfl⟩
  grind
theorem t5 (x:th) (aD a2:Int):Kk x aD a2=some true:=by
 suffices h:Tot (Kk x aD a2) λr=>r=true by
  obtain ⟨r,ao,e⟩:=h
  grind
 unfold Kk;rw [K2];refine Tot.aV (.aA (t10 x) λy av=>.aA (Hb y av) λD aS=>Tot.bE (λ_=>.aq rfl) (λh=>?_));obtain ⟨⟨n,hq⟩,hk⟩:=aS (by simpa using h);generalize D.1=g at *;generalize D.2.1=d at *;have kz:=hq.gJ;have kA:=hq.rT.dy;have sI:=hq.a;have xk:=hq.o;refine .aA (jK g n d hq hk) λt cn=>.aA (ny g n d hq) λR aY=>?_;subst aY;have Ns:((List.range g.b0.length).map λa=>k4 (dR d a)).length=g.b0.length:=by simp
 refine .aA (Ξ:=hn (λ_=>True) (λ_:Bool=>False)) ?_ λx J=>?_
 ·refine Tot.count (λs=>s) ((g.b0.length:Int)+1) (λs=>-1<=s) (Int.le_refl _) (by show (g.b0.length:Int)+1 - -1<_; omega) λs aB=>?_;rw [Ns];refine Tot.bp (λhle=>?_) (λ_=>.aq trivial);have Jc:aJ (s+1)=s+1:=by rw [cA]; omega
  rw [Jc];refine .aA (Ξ:=λl:List Int=>l.length<=1000) ?_ λl aj=>?_
  ·refine Tot.upto (λs=>s.2) d.cB.length (λk s=>s.1.length=k+3) rfl (by omega) rfl λk s vn he bf=>?_;obtain ⟨L,i⟩:=s;simp only at he bf ⊢;subst he;rw [eA k (by omega)];refine Tot.bp (λaT=>?_) (λ_=>.aq (by show L.length<=1000; omega));refine .aA (Ξ:=λ_=>True) (Tot.ap (by simp [lim]; omega) trivial) λ_ _=>.aq ⟨by omega,rfl,by show (L++[_]).length=_; simp; omega⟩
  ·refine .aA (Ξ:=hn (λ_=>True) (λ_:Bool=>False)) ?_ λx J=>?_
   ·refine Tot.upto (λs=>s) l.length (λ_ _=>True) rfl (by omega) trivial λk i vn he _=>?_;subst he;rw [eA k (by omega)];refine Tot.bp (λaT=>?_) (λ_=>.aq trivial);have aT:k<l.length:=by omega
    rw [dX aT];generalize l[k]=q at *;have e:=Hv cn q s;refine .aA (Ξ:=λc:Bool=>c=decide (0<=s/\s<(g.b0.length:Int))) (Tot.bp (λh=>.aq (by simp [h])) (λh=>.aq (by simp [h]))) λc aa=>?_;subst aa;refine .aA (Ξ:=λv:Int=>v=if 0<=s/\s<(g.b0.length:Int) then Ax (dR d s.toNat) q else -1) (Tot.bp (λh=>?_) (λh=>.aq (if_neg h).symm)) λv hv=>?_
    ·rw [if_pos h];have aY:idx ((List.range g.b0.length).map λa=>k4 (dR d a)) s=some (k4 (dR d s.toNat)):=by
      grind [idx]
     have ue:(k4 (dR d s.toNat)).fm.length<=100000:=by
      have h1:=s' (jx (gf (pos (dR d s.toNat)))) id (dR d s.toNat);have af:=u4 d s.toNat;show (hL _ _ (dR d s.toNat)).length<=_;omega
     rw [aY];simp only [Option.bind_some];rw [g19 _ _ ue];unfold Ax;simp only [Option.bind_some];by_cases af:(kx (k4 (dR d s.toNat)).fm q).2=true
     ·rw [if_pos af,af];exact .aq rfl
     ·have aI:(kx (k4 (dR d s.toNat)).fm q).2=false:=by simpa using af
      rw [if_neg af,aI];exact .aq rfl
    ·subst hv;simp only [Option.bind_some,e];exact ⟨.inl ((k+1:Nat):Int),by simp,aT,rfl,trivial⟩
   ·rcases x with x | x
    ·exact .aq ⟨by show -1<=s+1; omega,by show s<s+1; omega,by show s+1<=_; omega⟩
    grind
 ·rcases x with x | x
  ·rw [Ns];have e:=Hv cn aD a2;refine .aA (Ξ:=λc:Bool=>c=true) ?_ λc aa=>.aq aa;refine Tot.bp (λh1=>Tot.bp (λaf=>.aq rfl) (λaf=>?_)) (λh1=>?_)
   ·rw [e,if_neg (λh=>af h.2)];exact .aq rfl
   ·rw [e,if_neg (λh=>h1 h.1)];exact .aq rfl
  grind
end Go.Proofs
namespace Go.Own
open Go
section
variable {P:Program}{N:c5}{ops:Array Oper}{bd:List (List Nat)}{g g0:aK}{K:aK->Prop}{l:List Oper}{acc:Acc}{d i j t':Nat}{op:Op}{ty:TypeId}{pos:String}{after:Array Edge}{x:ab}{b c:Bool}
theorem gD (av:c=!b) (hk:ar P N ops l (cV g d (.bV [])) K) (h:(ops[j]?).bind (·.dst)=some t':=by rfl) (aO:g t'=some (.lit (.bool c)):=by rfl) (bc:N.ok d=true:=by rfl) (aW:g d=none:=by rfl):ar P N ops (⟨some d,op,ty,pos,after,some (j,b)⟩::l) g K:=.ps h aO av bc aW hk
theorem DZ (hk:ar P N ops l (cV g d (.bV [])) K) (h:(ops[j]?).bind (·.dst)=some t':=by rfl) (aO:g t'=some (.bV []):=by rfl) (bc:N.ok d=true:=by rfl) (aW:g d=none:=by rfl):ar P N ops (⟨some d,op,ty,pos,after,some (j,b)⟩::l) g K:=.pu h aO bc aW hk
theorem ck (av:c=b) (au:ch P g op ty x) (hk:ar P N ops l (cV g d x) K) (h:(ops[j]?).bind (·.dst)=some t':=by rfl) (aO:g t'=some (.lit (.bool c)):=by rfl) (bc:N.ok d=true:=by rfl) (aW:g d=none:=by rfl):ar P N ops (⟨some d,op,ty,pos,after,some (j,b)⟩::l) g K:=.v au bc aW (.fr h aO av) hk
theorem Rh (hk:ar P N ops l (cV g d (.bV [])) K) (h:(ops[j]?).bind (·.dst)=some t':=by rfl) (aO:g t'=some (.lit (.bool c)):=by rfl) (av:c=!b:=by assumption) (bc:N.ok d=true:=by rfl) (aW:g d=none:=by rfl):ar P N ops (⟨some d,op,ty,pos,after,some (j,b)⟩::l) g K:=.ps h aO av bc aW hk
theorem fc (au:ch P g op ty x) (hk:ar P N ops l (cV g d x) K) (h:(ops[j]?).bind (·.dst)=some t':=by rfl) (aO:g t'=some (.lit (.bool c)):=by rfl) (av:c=b:=by assumption) (bc:N.ok d=true:=by rfl) (aW:g d=none:=by rfl):ar P N ops (⟨some d,op,ty,pos,after,some (j,b)⟩::l) g K:=.v au bc aW (.fr h aO av) hk
theorem ih (bG:Nat) (av:c=!b) (hk:bz P N ops bd g0 i ((bG,d,some (.bV []))::acc) l K) (h:(ops[j]?).bind (·.dst)=some t':=by rfl) (aO:jC bd g0 bG acc t'=some (a_ c):=by rfl) (ah:Nat.beq ops.size (bG+l.length+1)=true:=by rfl) (aW:g0 d=none:=by rfl) (aF:acc.all (λe=>!Nat.beq e.2.1 d)=true:=by rfl) (bc:N.ok d=true:=by rfl):bz P N ops bd g0 i acc (⟨some d,op,ty,pos,after,some (j,b)⟩::l) K:=.ps bG h aO av ah aW aF bc hk
theorem k8 (bG:Nat) (hk:bz P N ops bd g0 i ((bG,d,some (.bV []))::acc) l K) (h:(ops[j]?).bind (·.dst)=some t':=by rfl) (aO:jC bd g0 bG acc t'=some (.bV []):=by rfl) (ah:Nat.beq ops.size (bG+l.length+1)=true:=by rfl) (aW:g0 d=none:=by rfl) (aF:acc.all (λe=>!Nat.beq e.2.1 d)=true:=by rfl) (bc:N.ok d=true:=by rfl):bz P N ops bd g0 i acc (⟨some d,op,ty,pos,after,some (j,b)⟩::l) K:=.pu bG h aO ah aW aF bc hk
theorem iX (bG:Nat) (av:c=b) (au:ch P (jC bd g0 bG acc) op ty x) (hk:bz P N ops bd g0 i ((bG,d,some x)::acc) l K) (h:(ops[j]?).bind (·.dst)=some t':=by rfl) (aO:jC bd g0 bG acc t'=some (.lit (.bool c)):=by rfl) (ah:Nat.beq ops.size (bG+l.length+1)=true:=by rfl) (aW:g0 d=none:=by rfl) (aF:acc.all (λe=>!Nat.beq e.2.1 d)=true:=by rfl) (bc:N.ok d=true:=by rfl):bz P N ops bd g0 i acc (⟨some d,op,ty,pos,after,some (j,b)⟩::l) K:=.v bG au ah aW aF bc (.fr h aO av) hk
end
section
variable {P:Program}{N:c5}{ops:Array Oper}{g:aK}{K:aK->Prop}{l:List Oper}{A B:Code}{G G1:List (Nat × ab)}{Φ:Exit->aK->Prop}{t id:Nat}{b:Bool}{α:Type}{X Y o:α}
theorem W.cd (h:(bif b then X else Y)=o) (aa:get G t=some (a_ b)) (dM:b=true->X=o->W P N A (get G) Φ) (aN:b=false->Y=o->W P N B (get G) Φ):W P N (.cond (.tmp t) A B) (get G) Φ:=W.fG aa (λe=>dM e (SM e h)) (λe=>aN e (SL e h))
def pick (g:aK):List Nat->Option (List (Nat × ab))
 | []=>some []
 | k::ks=>match g k with
  | some x=>match pick g ks with
   | some l=>some ((k,x)::l)
   | none=>none
  | none=>none
class ix (l:List (Nat × ab)):Prop where p:∀ e∈l,cU e.2
instance:ix []:=⟨λ_ h=>by cases h⟩
instance {k:Nat}{x:ab}{l:List (Nat × ab)} [h:cf x] [aj:ix l]:ix ((k,x)::l):=⟨λe he=>by
 rcases List.mem_cons.1 he with rfl | he
 ·exact h.bl
 ·exact aj.p e he⟩
theorem uC {c:Bool}{g g2:aK}:∀ {ks:List Nat}{G1:List (Nat × ab)},pick g ks=some G1->(∀ e∈G1,cU e.2)->Trim c g g2 G1
 | [],_,h,_=>by cases h; exact .nil
 | k::ks,G1,h,aF=>by
  unfold pick at h
  split at h
  ·rename_i x J
   split at h
   ·rename_i l aj;cases h;have:cf x:=⟨aF (k,x) (by simp)⟩;exact .n J (uC aj λe he=>aF e (by simp [he]))
   ·cases h
  ·cases h
structure yR (ks:List Nat) (G1:List (Nat × ab)) (g':aK):Prop where p:kr g' (get G1)
theorem bM {ks:List Nat}(h:pick g ks=some G1) [aF:ix G1]:ar P N ops [] g (yR ks G1):=.nil ⟨(uC (c:=true) (g2:=get G1) h aF.p).eX⟩
theorem OS {l:List Oper}{ks:List Nat}(h:ar P N l.toArray l g (yR ks G1)):ar P N l.toArray l g λg'=>kr g' (get G1):=λi hi=>by
 obtain ⟨g',h1,af⟩:=h i hi;exact ⟨g',h1,af.p⟩
theorem ar.bX (ks:List Nat) (h:pick g ks=some G1) [aF:ix G1] (hk:ar P N ops l (get G1) K):ar P N ops l g K:=.Dl (uC h aF.p) hk
theorem W.bX {l:List Oper}(ks:List Nat) (h:ar P N l.toArray l (get G) (yR ks G1)) (hk:aC .normal Φ G1):W P N (.region id l.toArray false) (get G) Φ:=W.rx G1 (OS h) hk
theorem W.rs {l:List Oper}(G1:List (Nat × ab)) (h:ar P N l.toArray l (get G) λg'=>kr g' (get G1)) (hk:W P N B (get G1) Φ):W P N (.seq (.region id l.toArray false) B) (get G) Φ:=W.bI (W.rx G1 h (aC.bA hk))
theorem W.cR {l:List Oper}(ks:List Nat) (h:ar P N l.toArray l (get G) (yR ks G1)) (hk:W P N B (get G1) Φ):W P N (.seq (.region id l.toArray false) B) (get G) Φ:=W.rs G1 (OS h) hk
end
end Go.Own
namespace Go.Own
open Go
class fO (P:Program) (t:TypeId):Prop where p:jt P t=true:=by kernel_rfl
class iY (P:Program) (t:TypeId):Prop where p:o2 P t=true:=by kernel_rfl
class eo (P:Program) (t:TypeId) (e:outParam TypeId) (z:outParam Nat):Prop where p:fq P t e z=true:=by kernel_rfl
class c_ (P:Program) (s:TypeId) (f:Nat) (off:outParam Nat) (t:outParam TypeId):Prop where p:hP P s f off t=true:=by kernel_rfl
section
variable {P:Program}{N:c5}{ops:Array Oper}{g:aK}{K:aK->Prop}{l:List Oper}{ty t:TypeId}{a:Operand}{k r z n:Nat}{cs jL:List ab}
theorem O.oW {v:Value}(aB:g r=some (.obj cs)) (J:Rd g a (.ptr ⟨r,[]⟩ k)) (aw:jt P t=true) (aa:cs[k]?=some (.lit v)):ch P g (.load t a) ty (.lit v):=O.mA aB J aw aa rfl
theorem O.zL (aB:g r=some (.obj cs)) (J:Rd g a (.ptr ⟨r,[]⟩ k)) (aw:jt P t=true) (aa:cs[k]?=some (.bk z n jL)):ch P g (.load t a) ty (.bk z n jL):=O.mA aB J aw aa rfl
theorem O.zM (aB:g r=some (.obj cs)) (J:Rd g a (.ptr ⟨r,[]⟩ k)) (aw:jt P t=true) (aa:cs[k]?=some (.own z n jL)):ch P g (.load t a) ty (.a6 z ⟨r,[k]⟩ n):=O.mA aB J aw aa rfl
end
section
variable {P:Program}{N:c5}{ops:Array Oper}{g:aK}{K:aK->Prop}{l:List Oper}{t0 d:Nat}{t1 t2 ty:TypeId}{aD a2 a3:Operand}{nj:Nat}{v0:Value}{pos:String}{after:Array Edge}{op:Op}{ab8:Nat × Bool}
theorem ar.bO (op:Op) (u:Option (Nat × Bool)) (h:ar P N ops (⟨some d,op,ty,pos,after,u⟩::l) g K):ar P N ops (⟨some d,op,ty,pos,after,u⟩::l) g K:=h
theorem ar.nl (h:ar P N ops [] g K):ar P N ops [] g K:=h
theorem ar.bt (h:ar P N ops l g K:=by
(repeat' (first
 | exact gU .nil
 | exact .nil
 | refine .n rfl ?_
 | (first
  | ((with_reducible apply ar.bO (.move (.tmp _)) none); (first | refine b5 rfl ?_ | refine al (O.aZ (.bk rfl)) ?_ | refine al (O.aZ (.own rfl)) ?_ | refine al (O.aZ (.obj rfl)) ?_ | refine al (O.aZ (.cJ rfl)) ?_ | refine al (O.aZ (.ptr rfl)) ?_ | refine al (O.aZ (.a6 rfl)) ?_))
  | ((with_reducible apply ar.bO (.load _ _) none); (first | refine al (O.oW rfl (.ptr rfl) fO.p rfl) ?_ | refine al (O.Ct (.cJ rfl) fO.p rfl) ?_ | refine al (O.zL rfl (.ptr rfl) fO.p rfl) ?_ | refine al (O.oW rfl (.obj rfl) fO.p rfl) ?_ | refine al (O.zL rfl (.obj rfl) fO.p rfl) ?_ | refine al (O.zM rfl (.ptr rfl) fO.p rfl) ?_ | refine al (O.zM rfl (.obj rfl) fO.p rfl) ?_))
  | ((with_reducible apply ar.bO (.fieldAddr _ _ _) none); (first | refine al (O.kv rfl (.obj rfl) c_.p rfl) ?_ | refine al (O.Bo (.cJ rfl) c_.p) ?_ | refine al (O.kv rfl (.ptr rfl) c_.p rfl) ?_))
  | ((with_reducible apply ar.bO (.assign (.tmp _)) none); (first | refine nv rfl ?_ | refine al (O.az (.bk rfl)) ?_ | refine al (O.az (.own rfl)) ?_ | refine al (O.az (.obj rfl)) ?_ | refine al (O.az (.cJ rfl)) ?_ | refine al (O.az (.ptr rfl)) ?_ | refine al (O.az (.a6 rfl)) ?_))
  | ((with_reducible apply ar.bO (.assign (.const _)) none); (first | refine LI rfl ?_ | refine al (O.az .xL) ?_))
  | ((with_reducible apply ar.bO (.indexAddr _ _ _) none); (first | refine al (O.rh (.bk rfl) (.lit rfl) eo.p (by assumption)) ?_ | refine al (O.rh (.bk rfl) (.k rfl) eo.p (by assumption)) ?_))
  | ((with_reducible apply ar.bO (.binOp .add _ _ _ _) none); (first | refine al (O.add (.lit rfl) (.k rfl)) ?_ | refine al (O.add (.lit rfl) (.lit rfl)) ?_ | refine al (O.add (.k rfl) (.lit rfl)) ?_))
  | ((with_reducible apply ar.bO (.binOp .lss _ _ _ _) none); (first | refine al (O.lss (.lit rfl) (.k rfl)) ?_ | refine al (O.lss (.lit rfl) (.lit rfl)) ?_ | refine al (O.lss (.k rfl) (.lit rfl)) ?_))
  | ((with_reducible apply ar.bO (.binOp .eql _ _ _ _) none); (first | refine al (O.eql (.lit rfl) (.k rfl)) ?_ | refine al (O.eql (.lit rfl) (.lit rfl)) ?_ | refine al (O.eql (.k rfl) (.lit rfl)) ?_ | refine al (O.qg (.lit rfl) (.lit rfl)) ?_ | refine al (O.qg (.lit rfl) (.k rfl)) ?_))
  | ((with_reducible apply ar.bO (.binOp .neq _ _ _ _) none); (first | refine al (O.neq (.lit rfl) (.k rfl)) ?_ | refine al (O.neq (.lit rfl) (.lit rfl)) ?_ | refine al (O.neq (.k rfl) (.lit rfl)) ?_ | refine al (O.oo (.lit rfl) (.lit rfl)) ?_ | refine al (O.oo (.lit rfl) (.k rfl)) ?_))
  | ((with_reducible apply ar.bO (.binOp .geq _ _ _ _) none); (first | refine al (O.geq (.lit rfl) (.k rfl)) ?_ | refine al (O.geq (.lit rfl) (.lit rfl)) ?_ | refine al (O.geq (.k rfl) (.lit rfl)) ?_))
  | ((with_reducible apply ar.bO (.binOp .gtr _ _ _ _) none); (first | refine al (O.gtr (.lit rfl) (.k rfl)) ?_ | refine al (O.gtr (.lit rfl) (.lit rfl)) ?_ | refine al (O.gtr (.k rfl) (.lit rfl)) ?_))
  | ((with_reducible apply ar.bO (.binOp .sub _ _ _ _) none); (first | refine al (O.sub (.lit rfl) (.k rfl)) ?_ | refine al (O.sub (.lit rfl) (.lit rfl)) ?_ | refine al (O.sub (.k rfl) (.lit rfl)) ?_))
  | ((with_reducible apply ar.bO (.binOp .leq _ _ _ _) none); (first | refine al (O.leq (.lit rfl) (.k rfl)) ?_ | refine al (O.leq (.lit rfl) (.lit rfl)) ?_ | refine al (O.leq (.k rfl) (.lit rfl)) ?_))
  | ((with_reducible apply ar.bO (.pick _ _ _) none); (first | refine al (O.hU (.lit rfl) rfl (.lit rfl)) ?_ | refine al (O.dB (.lit rfl) rfl (.lit rfl)) ?_ | refine al (O.hU (.lit rfl) rfl (.k rfl)) ?_ | refine al (O.dB (.lit rfl) rfl (.k rfl)) ?_ | refine al (O.hU (.lit rfl) (by assumption) (.lit rfl)) ?_ | refine al (O.dB (.lit rfl) (by assumption) (.lit rfl)) ?_ | refine al (O.hU (.lit rfl) (by assumption) (.k rfl)) ?_ | refine al (O.dB (.lit rfl) (by assumption) (.k rfl)) ?_))
  | ((with_reducible apply ar.bO (.call { callee:=.builtin .len,args:=#[_],argTypes:=#[_] }) none); (first | refine al (O.kC (.bk rfl) eo.p) ?_ | refine al (O.mB (.a6 rfl) eo.p) ?_ | refine al (O.mB (.own rfl) eo.p) ?_ | refine al (O.uv (.lit rfl) iY.p) ?_))
  | ((with_reducible apply ar.bO (.unOp .not _ _) none); (first | refine al (O.not (.lit rfl)) ?_))
  | ((with_reducible apply ar.bO (.nilCheck _) none); (first | refine al (O.eT (.ptr rfl)) ?_ | refine al (O.xR (.cJ rfl)) ?_ | refine al (O.eT (.obj rfl)) ?_))
  | ((with_reducible apply ar.bO (.index _ _ _) none); (first | refine al (O.ml (.lit rfl) (.lit rfl) iY.p (by assumption)) ?_))
  | ((with_reducible apply ar.bO (.move (.const _)) none); (first | refine al (O.aZ (.k rfl)) ?_ | refine al (O.aZ .xL) ?_)))
 | ((with_reducible apply ar.nl); first | exact bM rfl | refine gU ?_)
 | ((with_reducible apply ar.bO _ (some _)); first
  | (first | refine gD rfl ?_ | refine Rh ?_ | refine DZ ?_)
  | ((with_reducible apply ar.bO (.move (.tmp _)) (some _)); (first | refine ck rfl (O.aZ (.lit rfl)) ?_ | refine fc (O.aZ (.lit rfl)) ?_ | refine ck rfl (O.aZ (.bk rfl)) ?_ | refine fc (O.aZ (.bk rfl)) ?_ | refine ck rfl (O.aZ (.own rfl)) ?_ | refine fc (O.aZ (.own rfl)) ?_ | refine ck rfl (O.aZ (.obj rfl)) ?_ | refine fc (O.aZ (.obj rfl)) ?_ | refine ck rfl (O.aZ (.cJ rfl)) ?_ | refine fc (O.aZ (.cJ rfl)) ?_ | refine ck rfl (O.aZ (.ptr rfl)) ?_ | refine fc (O.aZ (.ptr rfl)) ?_ | refine ck rfl (O.aZ (.a6 rfl)) ?_ | refine fc (O.aZ (.a6 rfl)) ?_))
  | ((with_reducible apply ar.bO (.load _ _) (some _)); (first | refine ck rfl (O.oW rfl (.ptr rfl) fO.p rfl) ?_ | refine fc (O.oW rfl (.ptr rfl) fO.p rfl) ?_ | refine ck rfl (O.Ct (.cJ rfl) fO.p rfl) ?_ | refine fc (O.Ct (.cJ rfl) fO.p rfl) ?_ | refine ck rfl (O.zL rfl (.ptr rfl) fO.p rfl) ?_ | refine fc (O.zL rfl (.ptr rfl) fO.p rfl) ?_ | refine ck rfl (O.oW rfl (.obj rfl) fO.p rfl) ?_ | refine fc (O.oW rfl (.obj rfl) fO.p rfl) ?_ | refine ck rfl (O.zL rfl (.obj rfl) fO.p rfl) ?_ | refine fc (O.zL rfl (.obj rfl) fO.p rfl) ?_ | refine ck rfl (O.zM rfl (.ptr rfl) fO.p rfl) ?_ | refine fc (O.zM rfl (.ptr rfl) fO.p rfl) ?_ | refine ck rfl (O.zM rfl (.obj rfl) fO.p rfl) ?_ | refine fc (O.zM rfl (.obj rfl) fO.p rfl) ?_))
  | ((with_reducible apply ar.bO (.fieldAddr _ _ _) (some _)); (first | refine ck rfl (O.kv rfl (.obj rfl) c_.p rfl) ?_ | refine fc (O.kv rfl (.obj rfl) c_.p rfl) ?_ | refine ck rfl (O.Bo (.cJ rfl) c_.p) ?_ | refine fc (O.Bo (.cJ rfl) c_.p) ?_ | refine ck rfl (O.kv rfl (.ptr rfl) c_.p rfl) ?_ | refine fc (O.kv rfl (.ptr rfl) c_.p rfl) ?_))
  | ((with_reducible apply ar.bO (.indexAddr _ _ _) (some _)); (first | refine ck rfl (O.rh (.bk rfl) (.lit rfl) eo.p (by assumption)) ?_ | refine fc (O.rh (.bk rfl) (.lit rfl) eo.p (by assumption)) ?_ | refine ck rfl (O.rh (.bk rfl) (.k rfl) eo.p (by assumption)) ?_ | refine fc (O.rh (.bk rfl) (.k rfl) eo.p (by assumption)) ?_))
  | ((with_reducible apply ar.bO (.binOp .add _ _ _ _) (some _)); (first | refine ck rfl (O.add (.lit rfl) (.k rfl)) ?_ | refine fc (O.add (.lit rfl) (.k rfl)) ?_ | refine ck rfl (O.add (.lit rfl) (.lit rfl)) ?_ | refine fc (O.add (.lit rfl) (.lit rfl)) ?_ | refine ck rfl (O.add (.k rfl) (.lit rfl)) ?_ | refine fc (O.add (.k rfl) (.lit rfl)) ?_))
  | ((with_reducible apply ar.bO (.binOp .lss _ _ _ _) (some _)); (first | refine ck rfl (O.lss (.lit rfl) (.k rfl)) ?_ | refine fc (O.lss (.lit rfl) (.k rfl)) ?_ | refine ck rfl (O.lss (.lit rfl) (.lit rfl)) ?_ | refine fc (O.lss (.lit rfl) (.lit rfl)) ?_ | refine ck rfl (O.lss (.k rfl) (.lit rfl)) ?_ | refine fc (O.lss (.k rfl) (.lit rfl)) ?_))
  | ((with_reducible apply ar.bO (.binOp .eql _ _ _ _) (some _)); (first | refine ck rfl (O.eql (.lit rfl) (.k rfl)) ?_ | refine fc (O.eql (.lit rfl) (.k rfl)) ?_ | refine ck rfl (O.eql (.lit rfl) (.lit rfl)) ?_ | refine fc (O.eql (.lit rfl) (.lit rfl)) ?_ | refine ck rfl (O.eql (.k rfl) (.lit rfl)) ?_ | refine fc (O.eql (.k rfl) (.lit rfl)) ?_ | refine ck rfl (O.qg (.lit rfl) (.lit rfl)) ?_ | refine fc (O.qg (.lit rfl) (.lit rfl)) ?_ | refine ck rfl (O.qg (.lit rfl) (.k rfl)) ?_ | refine fc (O.qg (.lit rfl) (.k rfl)) ?_))
  | ((with_reducible apply ar.bO (.binOp .neq _ _ _ _) (some _)); (first | refine ck rfl (O.neq (.lit rfl) (.k rfl)) ?_ | refine fc (O.neq (.lit rfl) (.k rfl)) ?_ | refine ck rfl (O.neq (.lit rfl) (.lit rfl)) ?_ | refine fc (O.neq (.lit rfl) (.lit rfl)) ?_ | refine ck rfl (O.neq (.k rfl) (.lit rfl)) ?_ | refine fc (O.neq (.k rfl) (.lit rfl)) ?_ | refine ck rfl (O.oo (.lit rfl) (.lit rfl)) ?_ | refine fc (O.oo (.lit rfl) (.lit rfl)) ?_ | refine ck rfl (O.oo (.lit rfl) (.k rfl)) ?_ | refine fc (O.oo (.lit rfl) (.k rfl)) ?_))
  | ((with_reducible apply ar.bO (.binOp .geq _ _ _ _) (some _)); (first | refine ck rfl (O.geq (.lit rfl) (.k rfl)) ?_ | refine fc (O.geq (.lit rfl) (.k rfl)) ?_ | refine ck rfl (O.geq (.lit rfl) (.lit rfl)) ?_ | refine fc (O.geq (.lit rfl) (.lit rfl)) ?_ | refine ck rfl (O.geq (.k rfl) (.lit rfl)) ?_ | refine fc (O.geq (.k rfl) (.lit rfl)) ?_))
  | ((with_reducible apply ar.bO (.binOp .gtr _ _ _ _) (some _)); (first | refine ck rfl (O.gtr (.lit rfl) (.k rfl)) ?_ | refine fc (O.gtr (.lit rfl) (.k rfl)) ?_ | refine ck rfl (O.gtr (.lit rfl) (.lit rfl)) ?_ | refine fc (O.gtr (.lit rfl) (.lit rfl)) ?_ | refine ck rfl (O.gtr (.k rfl) (.lit rfl)) ?_ | refine fc (O.gtr (.k rfl) (.lit rfl)) ?_))
  | ((with_reducible apply ar.bO (.binOp .sub _ _ _ _) (some _)); (first | refine ck rfl (O.sub (.lit rfl) (.k rfl)) ?_ | refine fc (O.sub (.lit rfl) (.k rfl)) ?_ | refine ck rfl (O.sub (.lit rfl) (.lit rfl)) ?_ | refine fc (O.sub (.lit rfl) (.lit rfl)) ?_ | refine ck rfl (O.sub (.k rfl) (.lit rfl)) ?_ | refine fc (O.sub (.k rfl) (.lit rfl)) ?_))
  | ((with_reducible apply ar.bO (.binOp .leq _ _ _ _) (some _)); (first | refine ck rfl (O.leq (.lit rfl) (.k rfl)) ?_ | refine fc (O.leq (.lit rfl) (.k rfl)) ?_ | refine ck rfl (O.leq (.lit rfl) (.lit rfl)) ?_ | refine fc (O.leq (.lit rfl) (.lit rfl)) ?_ | refine ck rfl (O.leq (.k rfl) (.lit rfl)) ?_ | refine fc (O.leq (.k rfl) (.lit rfl)) ?_))
  | ((with_reducible apply ar.bO (.call { callee:=.builtin .len,args:=#[_],argTypes:=#[_] }) (some _)); (first | refine ck rfl (O.kC (.bk rfl) eo.p) ?_ | refine fc (O.kC (.bk rfl) eo.p) ?_ | refine ck rfl (O.mB (.a6 rfl) eo.p) ?_ | refine fc (O.mB (.a6 rfl) eo.p) ?_ | refine ck rfl (O.mB (.own rfl) eo.p) ?_ | refine fc (O.mB (.own rfl) eo.p) ?_ | refine ck rfl (O.uv (.lit rfl) iY.p) ?_ | refine fc (O.uv (.lit rfl) iY.p) ?_))
  | ((with_reducible apply ar.bO (.unOp .not _ _) (some _)); (first | refine ck rfl (O.not (.lit rfl)) ?_ | refine fc (O.not (.lit rfl)) ?_))
  | ((with_reducible apply ar.bO (.nilCheck _) (some _)); (first | refine ck rfl (O.eT (.ptr rfl)) ?_ | refine fc (O.eT (.ptr rfl)) ?_ | refine ck rfl (O.xR (.cJ rfl)) ?_ | refine fc (O.xR (.cJ rfl)) ?_ | refine ck rfl (O.eT (.obj rfl)) ?_ | refine fc (O.eT (.obj rfl)) ?_))
  | ((with_reducible apply ar.bO (.index _ _ _) (some _)); (first | refine ck rfl (O.ml (.lit rfl) (.lit rfl) iY.p (by assumption)) ?_ | refine fc (O.ml (.lit rfl) (.lit rfl) iY.p (by assumption)) ?_)))))):ar P N ops l g K:=h
theorem W.RH {id:Nat}{l:List Oper}{G G1:List (Nat × ab)}{Φ:Exit->aK->Prop}(ks:List Nat) (hk:aC .normal Φ G1) (h:ar P N l.toArray l (get G) (yR ks G1):=by exact ar.bt):W P N (.region id l.toArray false) (get G) Φ:=W.bX ks h hk
theorem W.cC {id:Nat}{l:List Oper}{B:Code}{G G1:List (Nat × ab)}{Φ:Exit->aK->Prop}(ks:List Nat) (hk:W P N B (get G1) Φ) (h:ar P N l.toArray l (get G) (yR ks G1):=by exact ar.bt):W P N (.seq (.region id l.toArray false) B) (get G) Φ:=W.cR ks h hk
end
end Go.Own
namespace Go.Own
open Go
section
variable {P:Program}{N:c5}{G:List (Nat × ab)}{g':aK}
theorem i' {rs:List ResultVar}{ys xs:List ab}{res:ab}{outs:List (Option ab)}{n:Nat}(h:j7 P (get G) rs ys xs g') (he:qF xs=res:=by rfl) (a1:qV g' N.pins 0 outs:=by (repeat' first | exact .nil | refine .no ?_)) (fp:(rs.filterMap fun | .cell t _=>some t | _=>none).Nodup:=by exact of_decide_eq_true (by kernel_rfl)) (aj:outs.length=n:=by rfl):aC .ret (p5 P N rs n outs res) G:=aC.fin (Fin.ro h he fp a1 aj (.inr rfl))
end
end Go.Own
namespace Go.Own
open Go
section
variable {P:Program}{N:c5}{G:List (Nat × ab)}{g':aK}{S R:Type}
theorem aM {α β:Type}{x:Option α}{f:α->Option β}{r:β}{G:Prop}(h:x.bind f=some r) (k:∀ a,x=some a->f a=some r->G):G:=by
 obtain ⟨a,h1,af⟩:=lb h
 grind
theorem Rd.bn {g:aK}{t:Nat}{v:Value}(h:g t=some (.lit v):=by rfl):Rd g (.tmp t) (.lit v):=.lit h
theorem Rd.z2 {g:aK}{t z n:Nat}{cs:List ab}(h:g t=some (.bk z n cs):=by rfl):Rd g (.tmp t) (.bk z n cs):=.bk h
theorem Rd.z3 {g:aK}{t z n:Nat}{cs:List ab}(h:g t=some (.own z n cs):=by rfl):Rd g (.tmp t) (.a6 z ⟨t,[]⟩ n):=.own h
theorem Rd.z4 {g:aK}{t:Nat}{c:ab}{cs:List ab}(h:g t=some (.obj (c::cs)):=by rfl):Rd g (.tmp t) (.ptr ⟨t,[]⟩ 0):=.obj h
theorem Rd.z5 {g:aK}{t k:Nat}{p:Place}(h:g t=some (.ptr p k):=by rfl):Rd g (.tmp t) (.ptr p k):=.ptr h
theorem Rd.dj {g:aK}{t z n:Nat}{p:Place}(h:g t=some (.a6 z p n):=by rfl):Rd g (.tmp t) (.a6 z p n):=.a6 h
theorem Rd.nZ {g:aK}{t:Nat}{cs:List ab}(h:g t=some (.cJ cs):=by rfl):Rd g (.tmp t) (.cJ cs):=.cJ h
theorem Rd.cN {g:aK}{v:Value}(h:ofConst v=.lit v:=by rfl):Rd g (.const v) (.lit v):=.k h
theorem aC.eb {G1:List (Nat × ab)}(h:Trim true (get G) (get G1) G1:=by (repeat' first | exact .nil | refine .n rfl ?_)):aC .normal (λe g=>e=.normal/\ig g G1) G:=aC.dA h
theorem aC.gt {s:S}{F:S->List (Nat × ab)}{Ψ:R->Exit->aK->Prop}(h:Trim true (get G) (get (F s)) (F s):=by (repeat' first | exact .nil | refine .n rfl ?_)):aC .normal (k' F Ψ (.inl s)) G:=aC.go h
theorem aC.t1 {id:Nat}{r:R}{F:S->List (Nat × ab)}{mf:R->List (Nat × ab)}(h:Trim true (get G) (get (mf r)) (mf r):=by (repeat' first | exact .nil | refine .n rfl ?_)):aC (.exit id) (k' F (λr e g=>e=.exit id/\ig g (mf r)) (.inr r)) G:=aC.a8 h
theorem rH {rs:List ResultVar}{ys xs:List ab}{res:ab}{outs:List (Option ab)}{n:Nat}(h:j7 P (get G) rs ys xs g':=by exact .f rfl rfl .nil) (he:qF xs=res:=by rfl) (a1:qV g' N.pins 0 outs:=by (repeat' first | exact .nil | refine .no ?_)) (fp:(rs.filterMap fun | .cell t _=>some t | _=>none).Nodup:=by exact of_decide_eq_true (by kernel_rfl)) (aj:outs.length=n:=by rfl):aC .ret (p5 P N rs n outs res) G:=by grind [i']
end
end Go.Own
namespace Go.Own
open Go
section
variable {α:Type}{P:Program}{g:aK}{ty t:TypeId}{a b:Operand}{k r z n:Nat}{cs cs':List ab}{x y:ab}{p:Place}{m:Int}{sW:IntKind}{e:TypeId}{N:c5}{ops:Array Oper}
theorem O.bw {cT f off:Nat} [h:c_ P cT f off t] (J:Rd g a (.ptr ⟨r,[]⟩ k):=by exact .obj rfl) (aB:g r=some (.obj cs):=by rfl) (aj:Nat.blt (k+off) cs.length=true:=by rfl):ch P g (.fieldAddr cT a f) ty (.ptr ⟨r,[]⟩ (k+off)):=O.kv aB J h.p aj
theorem O.y2 {cT f off:Nat} [h:c_ P cT f off t] (J:Rd g a (.ptr ⟨r,[]⟩ k):=by exact .ptr rfl) (aB:g r=some (.obj cs):=by rfl) (aj:Nat.blt (k+off) cs.length=true:=by rfl):ch P g (.fieldAddr cT a f) ty (.ptr ⟨r,[]⟩ (k+off)):=O.kv aB J h.p aj
theorem O.ee {v:Value} [h:fO P t] (J:Rd g a (.ptr ⟨r,[]⟩ k):=by exact .ptr rfl) (aB:g r=some (.obj cs):=by rfl) (aa:cs[k]?=some (.lit v):=by rfl):ch P g (.load t a) ty (.lit v):=O.oW aB J h.p aa
theorem O.eQ {en:bK α}{L:List α}{y:α}{bC:Nat}(h:idx L m=some y) [aI:eo P t e bC] (J:Rd g a (.bk en.z L.length (bo en L)):=by exact .bk rfl) (ax:Rd g b (.lit (.int sW m)):=by exact .lit rfl) (aX:bC=en.z:=by rfl):ch P g (.indexAddr t a b) ty (.cJ (en.cells y++bo en (L.drop (m.toNat+1)))):=O.rh J ax (aX ▸ aI.p) h
theorem O.c7 [h:fO P t] (J:Rd g a (.ptr ⟨r,[]⟩ k):=by exact .ptr rfl) (aB:g r=some (.obj cs):=by rfl) (aa:cs[k]?=some x:=by rfl) (ax:gw 0 ⟨r,[k]⟩ x=y:=by rfl):ch P g (.load t a) ty y:=O.mA aB J h.p aa ax
theorem O.fN [h:fO P t] (J:Rd g a (.cJ cs):=by exact .cJ rfl) (aa:cs.head?=some x:=by rfl):ch P g (.load t a) ty x:=O.Ct J h.p aa
theorem O.iV {cT f off:Nat} [h:c_ P cT f off t] (J:Rd g a (.cJ cs):=by exact .cJ rfl):ch P g (.fieldAddr cT a f) ty (.cJ (cs.drop off)):=O.Bo J h.p
theorem O.iW {bC:Nat} [h:eo P t e bC] (J:Rd g a (.bk z n cs):=by exact .bk rfl):ch P g (.call { callee:=.builtin .len,args:=#[a],argTypes:=#[t] }) ty (ae n):=O.kC J h.p
theorem cK.fC {xs:List Operand}{gq:Array TypeId}{f:FuncId}{ys:List ab}{outs:List (Option ab)}{res:ab}(J:qU g xs ys) (gQ:bU P f ys outs res) [ao:cf res] (aW:gO P f=true:=by kernel_rfl) (a1:sj outs=true:=by rfl):cK P g (.call { callee:=.value (.func f),args:=xs.toArray,argTypes:=gq }) res:=by grind [cK.go]
theorem cK.pY {xs:List Operand}{gq:Array TypeId}{f:FuncId}{ys args:List ab}{outs:List (Option ab)}{res:ab}(J:gp g xs=some ys) (hv:oE g ys args) (gQ:bU P f args outs res) [ao:p6 res] (aW:gO P f=true:=by kernel_rfl) (a1:sj outs=true:=by rfl):cK P g (.call { callee:=.value (.func f),args:=xs.toArray,argTypes:=gq }) res:=by grind [cK.vw]
end
section
variable {P:Program}{N:c5}{ops:Array Oper}{bd:List (List Nat)}{K:aK->Prop}{i:Nat}{acc:Acc}{l:List Oper}{d:Nat}
theorem bz.hG (bG:Nat) {G G2:List (Nat × ab)}{o:Oper}(he:bm P N (dg (get G) (λ_=>true) acc) o (get G2)) (hk:bz P N ops bd (get G2) (bG+1) [] l K) (aO:o.guard=none:=by rfl) (gR:ri ((acc.filterMap j2).map Place.root)=true:=by rfl) (fI:l' G=true:=by rfl) (ah:Nat.beq ops.size (bG+l.length+1)=true:=by rfl) (aP:(List.range bG).all (λk=>(bd.getD bG []).contains k)=true:=by kernel_rfl) (av:(List.range ops.size).all (λk=>Nat.ble k bG||(bd.getD k []).contains bG)=true:=by kernel_rfl):bz P N ops bd (get G) i acc (o::l) K:=.wN bG he aO gR fI ah aP av hk
theorem bz.D' (bG:Nat) {G G2:List (Nat × ab)}{o:Oper}{x:ab}(he:bm P N (dg (get G) (λ_=>true) acc) o (cV (get G2) d x)) (hk:bz P N ops bd (get ((d,x)::G2)) (bG+1) [] l K) (aO:o.guard=none:=by rfl) (gR:ri ((acc.filterMap j2).map Place.root)=true:=by rfl) (fI:l' G=true:=by rfl) (ah:Nat.beq ops.size (bG+l.length+1)=true:=by rfl) (aP:(List.range bG).all (λk=>(bd.getD bG []).contains k)=true:=by kernel_rfl) (av:(List.range ops.size).all (λk=>Nat.ble k bG||(bd.getD k []).contains bG)=true:=by kernel_rfl):bz P N ops bd (get G) i acc (o::l) K:=.bv bG he aO gR fI ah aP av hk
end
end Go.Own
namespace Go.Own
open Go
set_option linter.unusedVariables false
def o1:List ab->Nat->List ab->Option (List ab)
 | [],0,[]=>some []
 | [],_,_=>none
 | x::l,0,[]=>some (x::l)
 | _::l,0,y::c=>match o1 l 0 c with
  | some r=>some (y::r)
  | none=>none
 | x::l,k+1,c=>match o1 l k c with
  | some r=>some (x::r)
  | none=>none
theorem lV:∀ {l:List ab}{k:Nat}{c r:List ab},o1 l k c=some r->e5 l k c=r/\k+c.length<=l.length
 | [],0,[],r,h=>by cases h; exact ⟨rfl,Nat.le_refl _⟩
 | [],0,_::_,_,h=>by cases h
 | [],_+1,_,_,h=>by cases h
 | x::l,0,[],r,h=>by cases h; exact ⟨by simp [e5],by simp⟩
 | x::l,0,y::c,r,h=>by
  unfold o1 at h
  split at h
  ·rename_i dm ao;cases h;obtain ⟨h1,af⟩:=lV ao;subst h1;exact ⟨by simp [e5],by simp at af ⊢; omega⟩
  ·cases h
 | x::l,k+1,c,r,h=>by
  unfold o1 at h
  split at h
  ·rename_i dm ao;cases h;obtain ⟨h1,af⟩:=lV ao;subst h1;exact ⟨by simp [e5,Nat.add_right_comm],by simp; omega⟩
  ·cases h
theorem Dg {g g2:aK}{r:Nat}{cs2:List ab}:∀ {ks:List Nat}{G1:List (Nat × ab)},pick (cV g r (.obj cs2)) ks=some G1->(∀ e∈G1,cU e.2)->la g g2 r cs2 G1
 | [],_,h,_=>by cases h; exact .nil
 | k::ks,G1,h,aF=>by
  unfold pick at h
  split at h
  ·rename_i x J
   split at h
   ·rename_i l aj;cases h;have aw:=Dg (g2:=g2) aj λe he=>aF e (by simp [he]);by_cases e:k=r
    ·subst e;have e:x=.obj cs2:=by simpa [cV] using J.symm
     subst e;have J:cU (.obj cs2):=aF (k,.obj cs2) (by simp);have:dp cs2:=⟨by cases J; assumption⟩;exact .b rfl aw
    ·have:cf x:=⟨aF (k,x) (by simp)⟩;exact .n (by rw [<- Bool.not_eq_true,Nat.beq_eq]; exact e) (by simpa [cV,e] using J) aw
   ·cases h
  ·cases h
theorem Ko {g g2:aK}{ex:List Nat}:∀ {ks:List Nat}{G1:List (Nat × ab)},pick g ks=some G1->(ks.all λk=>!ex.elem k)=true->(∀ e∈G1,cU e.2)->mN ex g g2 G1
 | [],_,h,_,_=>by cases h; exact .nil
 | k::ks,G1,h,he,aF=>by
  unfold pick at h;rw [List.all_cons,Bool.and_eq_true] at he
  split at h
  ·rename_i x J
   split at h
   ·rename_i l aj;cases h;have:cf x:=⟨aF (k,x) (by simp)⟩;exact .n (by simpa using he.1) J (Ko aj he.2 λe h=>aF e (by simp [h]))
   ·cases h
  ·cases h
def Fm:List ab->Option (List ab)
 | []=>some []
 | x::l=>match Fm l with
  | some r=>some (x::r)
  | none=>none
theorem O7:∀ {l r:List ab},Fm l=some r->l=r
 | [],r,h=>by cases h; rfl
 | x::l,r,h=>by
  unfold Fm at h
  split at h
  ·rename_i dm ao;cases h; rw [O7 ao]
  ·cases h
def Fo:ab->Option ab
 | .obj cs=>match Fm cs with
  | some r=>some (.obj r)
  | none=>none
 | .own z n cs=>some (.own z n cs)
 | _=>none
theorem O8 {x y:ab}(h:Fo x=some y):x=y:=by
 unfold Fo at h
 grind [O7]
theorem Kp {g g2:aK}{r:Nat}{x2:ab}:∀ {ks:List Nat}{G1:List (Nat × ab)},pick (cV g r x2) ks=some G1->(∀ e∈G1,cU e.2)->kN g g2 r x2 G1
 | [],_,h,_=>by cases h; exact .nil
 | k::ks,G1,h,aF=>by
  unfold pick at h
  split at h
  ·rename_i x J
   split at h
   ·rename_i l aj;cases h;have aw:=Kp (g2:=g2) aj λe he=>aF e (by simp [he]);by_cases e:k=r
    ·subst e;have e:x=x2:=by simpa [cV] using J.symm
     subst e;have:cf x:=⟨aF (k,x) (by simp)⟩;exact .b rfl aw
    ·have:cf x:=⟨aF (k,x) (by simp)⟩;exact .n (by rw [<- Bool.not_eq_true,Nat.beq_eq]; exact e) (by simpa [cV,e] using J) aw
   ·cases h
  ·cases h
section
variable {P:Program}{N:c5}{ops:Array Oper}{g:aK}{K:aK->Prop}{l:List Oper}{d r k0:Nat}{ty t:TypeId}{pos:String}{after:Array Edge}{a b x:Operand}{cs cs' cs2:List ab}{y:ab}{G2:List (Nat × ab)}{u:Option (Nat × Bool)}{p q:Place}
theorem Rd.QP {α:Type}{en:bK α}{L:List α}{t:Nat}(h:g t=some (ag en L)):Rd g (.tmp t) (ag en L):=.bk h
theorem bm.gL (ks:List Nat) (aP:Rd g a (.ptr ⟨r,[]⟩ k0):=by (first | exact .obj rfl | exact .ptr rfl)) (aB:g r=some (.obj cs):=by rfl) (av:Rd g b (.agg cs'):=by (first | exact .dJ rfl rfl | exact .JM rfl)) (he:o1 cs k0 cs'=some cs2:=by rfl) (au:pick (cV g r (.obj cs2)) ks=some G2:=by rfl) (aX:hs P t cs'.length=true:=by kernel_rfl) (aQ:Nat.blt 0 cs'.length=true:=by rfl) (ao:(get G2 r).isSome=true:=by rfl) [aF:dp cs'] [e8:dp cs] [aO:ix G2]:bm P N g ⟨none,.store t a b,ty,pos,after,none⟩ (get G2) :=
 .jh rfl rfl aB aP av rfl aX (Nat.ble_eq_true_of_le (lV he).2) aQ (lV he).1 ao (Dg au aO.p)
theorem bm.nq (ks:List Nat) (aP:Rd g a (.ptr ⟨r,[]⟩ k0):=by (first | exact .ptr rfl | exact .obj rfl)) (aB:g r=some (.obj cs):=by rfl) (av:Rd g b y:=by (first | exact .lit rfl | exact .k rfl | exact .QP rfl | exact .xL | exact .bk rfl)) (aa:oJ y=some [y]:=by rfl) (he:o1 cs k0 [y]=some cs2:=by rfl) (au:pick (cV g r (.obj cs2)) ks=some G2:=by rfl) (aX:hs P t 1=true:=by kernel_rfl) (ao:(get G2 r).isSome=true:=by rfl) [aF:cf y] [e8:dp cs] [aO:ix G2]:bm P N g ⟨none,.store t a b,ty,pos,after,none⟩ (get G2) :=
 .jh rfl rfl aB aP av aa aX (Nat.ble_eq_true_of_le (lV he).2) rfl (lV he).1 ao (Dg au aO.p)
theorem bm.jJ {α:Type}{en:bK α}{L:List α}(ks:List Nat) (J:Rd g x (.a6 en.z p L.length):=by (first | exact .own rfl | exact .a6 rfl)) (au:bB g p=some (ak en L):=by rfl) (hk:pick g ks=some G2:=by rfl) (dq:(ks.all λk=>![p.root].elem k)=true:=by rfl) (aO:get G2 d=none:=by rfl) (bc:N.ok d=true:=by rfl) [aF:ix G2]:bm P N g ⟨some d,.assign x,ty,pos,after,u⟩ (cV (get G2) d (ak en L)) :=
 .y3 rfl rfl J au (Ko hk dq aF.p) aO bc
theorem bm.wG {α:Type}{en:bK α}{L M:List α}{s:Nat}(ks:List Nat) (J:Rd g x (.a6 en.z ⟨s,[]⟩ (L.length+M.length)):=by exact .bL rfl) (aB:g s=some (.bL en.z q L.length M.length (bo en M)):=by rfl) (au:bB g q=some (ak en L):=by rfl) (hk:pick g ks=some G2:=by rfl) (dq:(ks.all λk=>![s,q.root].elem k)=true:=by rfl) (bg:Nat.beq q.root s=false:=by rfl) (aO:get G2 d=none:=by rfl) (bc:N.ok d=true:=by rfl) [aF:ix G2]:bm P N g ⟨some d,.assign x,ty,pos,after,u⟩ (cV (get G2) d (ak en (L++M))) :=
 .LK rfl rfl J aB au bg (Ko hk dq aF.p) aO bc
theorem bm.sp {α:Type}{en:bK α}{L M:List α}{s:Nat}{ju:List ab}(ks:List Nat) (av:Rd g b (.a6 en.z ⟨s,[]⟩ (L.length+M.length)):=by exact .bL rfl) (qo:g s=some (.bL en.z q L.length M.length (bo en M)):=by rfl) (au:bB g q=some (ak en L):=by rfl) (aP:Rd g a (.ptr ⟨r,[]⟩ k0):=by (first | exact .ptr rfl | exact .obj rfl)) (aB:cu (cu g ⟨s,[]⟩ .dead) q .dead r=some (.obj ju):=by rfl) (he:o1 ju k0 [ak en (L++M)]=some cs2:=by rfl) (hk:pick (cV (cu (cu g ⟨s,[]⟩ .dead) q .dead) r (.obj cs2)) ks=some G2:=by rfl) (bg:Nat.beq q.root s=false:=by rfl) (aX:hs P t 1=true:=by kernel_rfl) (ao:(get G2 r).isSome=true:=by rfl) [e8:dp ju] [aO:ix G2]:bm P N g ⟨none,.store t a b,ty,pos,after,none⟩ (get G2) :=
 .F9 rfl rfl aP av qo au bg .kE .h2 rfl rfl aX aB (Nat.ble_eq_true_of_le (lV he).2) (lV he).1 ao (Dg hk aO.p)
theorem bm.tf {α:Type}{en:bK α}{L:List α}{ju:List ab}(ks:List Nat) (av:Rd g b (.a6 en.z p L.length):=by (first | exact .own rfl | exact .a6 rfl)) (au:bB g p=some (ak en L):=by rfl) (aP:Rd g a (.ptr ⟨r,[]⟩ k0):=by (first | exact .ptr rfl | exact .obj rfl)) (aB:cu g p .dead r=some (.obj ju):=by rfl) (he:o1 ju k0 [ak en L]=some cs2:=by rfl) (hk:pick (cV (cu g p .dead) r (.obj cs2)) ks=some G2:=by rfl) (aX:hs P t 1=true:=by kernel_rfl) (ao:(get G2 r).isSome=true:=by rfl) [e8:dp ju] [aO:ix G2]:bm P N g ⟨none,.store t a b,ty,pos,after,none⟩ (get G2) :=
 .pX rfl rfl aP av (.r au .nil) .refl rfl aX aB (Nat.ble_eq_true_of_le (lV he).2) rfl (lV he).1 ao (Dg hk aO.p)
theorem bm.rB {α:Type}{en:bK α}{L:List α}{jk y2:α}{m:Int}{o:Nat}{eB x2 y0:ab}(ks:List Nat) (h:idx L m=some jk) (aP:Rd g a (.ptr p (m.toNat * en.z+o)):=by exact .ptr rfl) (au:bB g p=some (ak en L):=by rfl) (av:Rd g b y:=by (first | exact .lit rfl | exact .k rfl | exact .QP rfl | exact .xL | exact .bk rfl | exact .dJ rfl rfl)) (aa:oJ y=some cs':=by rfl) (he:e5 (en.cells jk) o cs'=en.cells y2:=by rfl) (iF:cu g p (ak en (L.set m.toNat y2)) p.root=some eB:=by rfl) (iu:Fo eB=some x2:=by rfl) (hk:pick (cV g p.root x2) ks=some G2:=by rfl) (aX:hs P t cs'.length=true:=by kernel_rfl) (hlen:Nat.ble (o+cs'.length) en.z=true:=by rfl) (aQ:Nat.blt 0 cs'.length=true:=by rfl) (ao:(get G2 p.root).isSome=true:=by rfl) (rf:g p.root=some y0:=by rfl) [aF:cf y] [e8:cf y0] [aO:ix G2]:bm P N g ⟨none,.store t a b,ty,pos,after,none⟩ (get G2) :=
 .te rfl rfl aP av au h aX aa he hlen aQ (by rw [iF,O8 iu]) ao rf (Kp hk aO.p)
theorem ar.eL {o:Oper}(he:bm P N g o (get G2)) (hk:ar P N ops l (get G2) K) (aO:o.guard=none:=by rfl):ar P N ops (o::l) g K:=.kS aO he hk
theorem ar.ca {o:Oper}(he:bm P N g o (cV (get G2) d y)) (hk:ar P N ops l (cV (get G2) d y) K) (aO:o.guard=none:=by rfl):ar P N ops (o::l) g K:=.q5 aO he hk
end
section
variable {S R:Type}{P:Program}{N:c5}{A B c:Code}{G:List (Nat × ab)}{Φ:Exit->aK->Prop}{id:Nat}
theorem W.fY {G1:List (Nat × ab)}(ks:List Nat) (L:List (Nat × ab)) (h:W P N c (get G) λe g=>e=.normal/\ig g G1) (hk:aC .normal Φ G1) (au:pick (get (L++G)) ks=some G1:=by rfl):W P N c (get G) Φ:=W.dA _ h hk
theorem W.k5 {G1:List (Nat × ab)}{l:List Oper}(ks:List Nat) (L:List (Nat × ab)) (h:ar P N l.toArray l (get G) λg'=>kr g' (get G1)) (hk:W P N B (get G1) Φ) (au:pick (get (L++G)) ks=some G1:=by rfl):W P N (.seq (.region id l.toArray false) B) (get G) Φ:=W.rs _ h hk
theorem W.gS {f:S->Option (S ⊕ R)}{r:R}{c8:S->List (Nat × ab)}{mj:R->List (Nat × ab)}(s:S) (F:S->List (Nat × ab)) (ks:List Nat) (id:Nat) (X:R->List (Nat × ab)) (sh:List Nat) (h:b2 f s=some r) (av:∀ s o,f s=some o->W P N c (get (c8 s)) (k' c8 (λr e g=>e=.exit id/\ig g (mj r)) o)) (hk:aC (.exit id) Φ (mj r))
  (aN:∀ s,pick (get (F s++G)) ks=some (c8 s):=by intro s; rfl) (tQ:∀ s,pick (get (X s++G)) sh=some (mj s):=by intro s; rfl) (aw:Trim true (get G) (get (c8 s)) (c8 s):=by (repeat' first | exact .nil | refine .n rfl ?_ | refine .w rfl rfl .pP ?_ | refine .w rfl rfl .pO ?_ | refine .w rfl rfl (j'.obj (by (repeat' first | exact .nil | refine .f ?_ | refine .o ?_ | refine .i ?_))) ?_)):W P N (.loop c) (get G) Φ :=
 W.dD aw (W.zN c8 id mj h av hk)
theorem W.gn {hc:Type}{f:S->Option (S ⊕ (R ⊕ hc))}{r:R ⊕ hc}{c8:S->List (Nat × ab)}{mj:R->List (Nat × ab)}{tv:hc->List (Nat × ab)}(s:S) (F:S->List (Nat × ab)) (ks:List Nat) (id:Nat) (X:R->List (Nat × ab)) (sh:List Nat) (Y:hc->List (Nat × ab)) (Cr:List Nat) (h:b2 f s=some r)
  (av:∀ s o,f s=some o->W P N c (get (c8 s)) (k' c8 (λ(r:R ⊕ hc) e g=>match r with | .inl r=>e=.exit id/\ig g (mj r) | .inr r=>e=.ret/\ig g (tv r)) o))
  (J:∀ x,r=.inl x->aC (.exit id) Φ (mj x)) (ao:∀ x,r=.inr x->aC .ret Φ (tv x))
  (aN:∀ s,pick (get (F s++G)) ks=some (c8 s):=by intro s; rfl) (tQ:∀ s,pick (get (X s++G)) sh=some (mj s):=by intro s; rfl) (w6:∀ s,pick (get (Y s++G)) Cr=some (tv s):=by intro s; rfl) (aw:Trim true (get G) (get (c8 s)) (c8 s):=by (repeat' first | exact .nil | refine .n rfl ?_ | refine .w rfl rfl .pP ?_ | refine .w rfl rfl .pO ?_ | refine .w rfl rfl (j'.obj (by (repeat' first | exact .nil | refine .f ?_ | refine .o ?_ | refine .i ?_))) ?_)):W P N (.loop c) (get G) Φ :=
 W.dD aw (W.OW c8 id mj tv h av J ao)
end
end Go.Own
namespace Go.Own
open Go
set_option linter.unusedVariables false
inductive lC:Type 1
 | e
 | b (x y:lC)
 | eO {S R:Type}(F:S->List (Nat × ab)) (ks:List Nat) (id:Nat) (X:R->List (Nat × ab)) (sh:List Nat) (x y:lC)
 | gn {S R hc:Type}(F:S->List (Nat × ab)) (ks:List Nat) (id:Nat) (X:R->List (Nat × ab)) (sh:List Nat) (Y:hc->List (Nat × ab)) (Cr:List Nat) (x y z:lC)
 | dA {α:Type}(ks:List Nat) (L:α->List (Nat × ab)) (x y:lC)
 | ei {α:Type}(id:Nat) (ks:List Nat) (L:α->List (Nat × ab)) (y:lC)
 | rd (id:Nat) (bd:List (List Nat)) (y:lC)
 | bX {α:Type}(id:Nat) (bd:List (List Nat)) (ks:List Nat) (L:α->List (Nat × ab)) (y:lC)
 | p (y:lC)
 | dO {α:Type}(id s:Nat) (i:Option Nat) (en:bK α) (y:lC)
 | sC {α:Type}(s:Nat) (i:Option Nat) (en:bK α) (y:lC)
def OQ:ab->Bool
 | .lit _ | .aL | .bk .. | .own .. | .obj _ | .cJ _ | .cX .. | .mp _ | .imp _=>true
 | .agg cs=>cs.all λx=>match x with | .ptr .. | .a6 .. | .sub .. | .gz _ | .bL .. | .dead=>false | _=>true
 | _=>false
def sX (ex:List Nat):List (Nat × ab)->Option (List Nat)
 | []=>some []
 | (k,x)::l=>match sX (k::ex) l with
  | none=>none
  | some r=>match !ex.elem k&&OQ x with
   | true=>some (k::r)
   | false=>some r
def JO (E ex:List Nat):List (Nat × ab)->Option (List Nat)
 | []=>some []
 | (k,x)::l=>match JO E (k::ex) l with
  | none=>none
  | some r=>match E.elem k&&(!ex.elem k&&OQ x) with
   | true=>some (k::r)
   | false=>some r
def roots (G:List (Nat × ab)):Operand->List Nat
 | .tmp s=>match get G s with
  | some (.own ..)=>[s]
  | some (.obj _)=>[s]
  | some (.a6 _ p _)=>[s,p.root]
  | some (.ptr p _)=>[s,p.root]
  | some (.bL _ q _ _ _)=>match get G q.root with
   | some (.bL _ FK _ _ _)=>[s,q.root,FK.root]
   | _=>[s,q.root]
  | _=>[s]
 | _=>[]
def Pp (F:List (Nat × ab)) (s:Nat):Nat->List ab->Option (List ab)
 | _,[]=>some []
 | i,x::l=>match Pp F s (i+1) l with
  | none=>none
  | some r=>match get F (1000 * (i+1)+s) with
   | some y=>some (y::r)
   | none=>some (x::r)
def pR (F G:List (Nat × ab)):aK:=λs=>match get F s with
 | some x=>some x
 | none=>match get G s with
  | some (.obj cs)=>match Pp F s 0 cs with
   | some r=>some (.obj r)
   | none=>none
  | x=>x
def cM (E:List Nat) (t:lC) (P:Program) (N:c5) (c:Code) (G:List (Nat × ab)) (Φ:Exit->aK->Prop):Prop:=W P N c (get G) Φ
def ep (E:List Nat) (t:lC) (e:Exit) (Φ:Exit->aK->Prop) (G:List (Nat × ab)):Prop:=aC e Φ G
def yQ (E:List Nat) (t:lC) (Ψ:lC->List (Nat × ab)->Prop) (g':aK):Prop:=∃ G1,kr g' (get G1)/\Ψ t G1
def rG {α:Type}(F:α->List (Nat × ab)) (j:α) (e:Exit) (g:aK):Prop:=e=.normal/\ig g (F j)
def Lw {R:Type}(id:Nat) (X:R->List (Nat × ab)) (r:R) (e:Exit) (g:aK):Prop:=e=.exit id/\ig g (X r)
def AY {R hc:Type}(id:Nat) (X:R->List (Nat × ab)) (Y:hc->List (Nat × ab)) (r:R ⊕ hc) (e:Exit) (g:aK):Prop:=match r with | .inl r=>e=.exit id/\ig g (X r) | .inr r=>e=.ret/\ig g (Y r)
class bD (P:Program) (f:FuncId) (p:Prop) (args:outParam (List ab)) (outs:outParam (List (Option ab))) (res:outParam ab):Prop where go:p->bU P f args outs res
section
variable {P:Program}{N:c5}{E:List Nat}{t x y z:lC}{A B c:Code}{G G1:List (Nat × ab)}{Φ ox:Exit->aK->Prop}{Ψ:aK->Prop}{id k s:Nat}{b:Bool}{α β:Type}{l:List Oper}
theorem cM.rg (h:ar P N l.toArray l (get G) (yQ E t λt G1=>cM E t P N B G1 Φ)):cM E t P N (.seq (.region id l.toArray false) B) G Φ :=
 W.seq (W.AA λi hi=>by
  obtain ⟨g',h1,G1,af,aI⟩:=h i hi;exact ⟨g',h1,W.weaken af aI⟩)
theorem cM.rt (h:ar P N l.toArray l (get G) (yQ E t λt G1=>ep E t .normal Φ G1)):cM E t P N (.region id l.toArray false) G Φ :=
 W.AA λi hi=>by
  obtain ⟨g',h1,G1,af,aI⟩:=h i hi;exact ⟨g',h1,aI g' (.eX af .h2)⟩
theorem cM.bA (h:cM E t P N A G (o4 (λg1=>W P N B g1 Φ) Φ)):cM E t P N (.seq A B) G Φ:=W.seq h
theorem cM.b' (h:cM E t P N A G (l_ id Φ)):cM E t P N (.block id A) G Φ:=W.b' h
theorem cM.wN (h:cM E t P N A G (l_ id Φ)):cM E (.p t) P N (.block id A) G Φ:=W.b' h
theorem cM.de (h:ep E t .normal Φ G):cM E t P N .skip G Φ:=W.de h
theorem cM.fk (h:ep E t (.exit k) Φ G):cM E t P N (.exit k) G Φ:=W.fk h
theorem cM.Dl (h:ep E t .ret Φ G):cM E t P N .ret G Φ:=W.rt h
theorem cM.cd {X Y o:α}(h:(bif b then X else Y)=o) (dM:b=true->X=o->cM E x P N A G Φ) (aN:b=false->Y=o->cM E y P N B G Φ) (aa:get G s=some (a_ b):=by rfl):cM E (.b x y) P N (.cond (.tmp s) A B) G Φ:=W.cd h aa dM aN
theorem cM.ce {X Y o:α}(h:(bif b then X else Y)=o) (dM:b=true->X=o->cM E .e P N A G Φ) (aN:b=false->Y=o->cM E .e P N B G Φ) (aa:get G s=some (a_ b):=by rfl):cM E .e P N (.cond (.tmp s) A B) G Φ:=W.cd h aa dM aN
theorem cM.SJ (h:cM E t P N A G Φ) (aa:get G s=some (a_ b):=by rfl) (av:b=true:=by (first | rfl | assumption)):cM E t P N (.cond (.tmp s) A B) G Φ:=W.fG aa (λ_=>h) (λe=>by rw [av] at e; cases e)
theorem cM.SI (h:cM E t P N B G Φ) (aa:get G s=some (a_ b):=by rfl) (av:b=false:=by (first | rfl | assumption)):cM E t P N (.cond (.tmp s) A B) G Φ:=W.fG aa (λe=>by rw [av] at e; cases e) (λ_=>h)
theorem cM.Xp {o:Operand}{m:Option α}{f:α->Option β}{r:β}{ks:List Nat}{L c8:α->List (Nat × ab)}(h:m.bind f=some r) (h1:∀ j,m=some j->cM E x P N (.cond o A B) G (rG c8 j)) (af:∀ j,m=some j->f j=some r->ep E y .normal Φ (c8 j))
  (aN:∀ j,pick (pR (L j) G) ks=some (c8 j):=by intro j; rfl):cM E (.dA ks L x y) P N (.cond o A B) G Φ:=by
 obtain ⟨j,ah,h⟩:=lb h;exact W.dA _ (h1 j ah) (af j ah h)
theorem cM.JJ {m:Option α}{f:α->Option β}{r:β}{ks:List Nat}{L c8:α->List (Nat × ab)}(h:m.bind f=some r) (h1:∀ j,m=some j->cM E x P N (.block id A) G (rG c8 j)) (af:∀ j,m=some j->f j=some r->ep E y .normal Φ (c8 j))
  (aN:∀ j,pick (pR (L j) G) ks=some (c8 j):=by intro j; rfl):cM E (.dA ks L x y) P N (.block id A) G Φ:=by
 obtain ⟨j,ah,h⟩:=lb h;exact W.dA _ (h1 j ah) (af j ah h)
theorem cM.eO {S R:Type}{f:S->Option (S ⊕ R)}{s:S}{g:R->Option β}{r:β}{F c8:S->List (Nat × ab)}{ks sh:List Nat}{X mj:R->List (Nat × ab)}(h:(b2 f s).bind g=some r)
  (av:∀ s o,f s=some o->cM E x P N c (c8 s) (k' c8 (Lw id mj) o)) (hk:∀ dm,b2 f s=some dm->g dm=some r->ep E y (.exit id) Φ (mj dm))
  (aN:∀ s,pick (pR (F s) G) ks=some (c8 s):=by intro s; rfl) (tQ:∀ s,pick (pR (X s) G) sh=some (mj s):=by intro s; rfl) (aw:Trim true (get G) (get (c8 s)) (c8 s):=by (repeat' first | exact .nil | refine .n rfl ?_ | refine .w rfl rfl .pP ?_ | refine .w rfl rfl .pO ?_ | refine .w rfl rfl (j'.obj (by (repeat' first | exact .nil | refine .f ?_ | refine .o ?_ | refine .i ?_))) ?_)) :
  cM E (.eO F ks id X sh x y) P N (.loop c) G Φ:=by
 obtain ⟨dm,aj,h⟩:=lb h;exact W.dD aw (W.zN c8 id mj aj av (hk dm aj h))
theorem ep.bA (h:cM E t P N B G Φ):ep E t .normal (o4 (λg1=>W P N B g1 Φ) ox) G:=aC.bA h
theorem ep.fh (h:ep E t (.exit k) Φ G):ep E t (.exit k) (o4 Ψ Φ) G:=aC.fh h
theorem ep.ji (h:ep E t .ret Φ G):ep E t .ret (o4 Ψ Φ) G:=aC.ji h
theorem ep.b' (h:ep E t .normal Φ G):ep E t .normal (l_ id Φ) G:=aC.b' h
theorem ep.fe (h:ep E t .normal Φ G):ep E t (.exit id) (l_ id Φ) G:=aC.fe h
theorem ep.G9 (h:ep E t (.exit k) Φ G) (hk:Nat.beq k id=false:=by rfl):ep E t (.exit k) (l_ id Φ) G:=aC.G9 hk h
theorem ep.mP (h:ep E t .ret Φ G):ep E t .ret (l_ id Φ) G:=aC.mP h
theorem ep.dA {F:α->List (Nat × ab)}{j v:α}(h:some v=some j) (aw:Trim true (get G) (get (F v)) (F v)):ep E t .normal (rG F j) G:=by
 cases h; exact aC.dA aw
theorem ep.go {S R:Type}{s:S}{o:S ⊕ R}{F:S->List (Nat × ab)}{Ψ:R->Exit->aK->Prop}(h:some (.inl s)=some o) (aw:Trim true (get G) (get (F s)) (F s)):ep E t .normal (k' F Ψ o) G:=by
 cases h; exact aC.go aw
theorem ep.a8 {S R:Type}{r:R}{o:S ⊕ R}{F:S->List (Nat × ab)}{X:R->List (Nat × ab)}(h:some (.inr r)=some o) (aw:Trim true (get G) (get (X r)) (X r)):ep E t (.exit id) (k' F (Lw id X) o) G:=by
 cases h; exact aC.a8 aw
variable {ops:Array Oper}{K:aK->Prop}{d:Nat}{op:Op}{ty:TypeId}{pos:String}{after:Array Edge}{v v2:ab}{ks:List Nat}{g:aK}{j cT:Nat}{cD:Bool}
theorem pn {G:List (Nat × ab)}{d:Nat}{v:ab}:cV (get G) d v=get ((d,v)::G):=sD.symm
theorem ez (au:ch P (get G) op ty v) (hk:ar P N ops l (get ((d,v)::G)) K) (bc:N.ok d=true:=by rfl) (aW:get G d=none:=by rfl):ar P N ops (⟨some d,op,ty,pos,after,none⟩::l) (get G) K:=al au (pn ▸ hk) bc aW
theorem GQ (lO:sX [d] G=some ks) (aO:pick (get G) ks=some G1) [aF:ix G1] (au:ch P (get G1) op ty v) (hk:ar P N ops l (get ((d,v)::G1)) K) (bc:N.ok d=true:=by rfl) (aW:get G1 d=none:=by rfl):ar P N ops (⟨some d,op,ty,pos,after,none⟩::l) (get G) K:=ar.bX ks aO (al au (pn ▸ hk) bc aW)
theorem LH (au:cK P (get G) op v) (hk:ar P N ops l (get ((d,v)::G)) K) (bc:N.ok d=true:=by rfl) (aW:get G d=none:=by rfl):ar P N ops (⟨some d,op,ty,pos,after,none⟩::l) (get G) K:=gM au (pn ▸ hk) bc aW
theorem eH (au:ch P (get G) op ty v) (hk:ar P N ops l (get ((d,v)::G)) K) (h:(ops[j]?).bind (·.dst)=some cT:=by rfl) (aO:get G cT=some (.lit (.bool cD)):=by rfl) (av:cD=b:=by (first | rfl | assumption)) (bc:N.ok d=true:=by rfl) (aW:get G d=none:=by rfl):ar P N ops (⟨some d,op,ty,pos,after,some (j,b)⟩::l) (get G) K:=.v au bc aW (.fr h aO av) (pn ▸ hk)
theorem Ls (au:cK P (get G) op v) (hk:ar P N ops l (get ((d,v)::G)) K) (h:(ops[j]?).bind (·.dst)=some cT:=by rfl) (aO:get G cT=some (.lit (.bool cD)):=by rfl) (av:cD=b:=by (first | rfl | assumption)) (bc:N.ok d=true:=by rfl) (aW:get G d=none:=by rfl):ar P N ops (⟨some d,op,ty,pos,after,some (j,b)⟩::l) (get G) K:=.c au bc aW (.fr h aO av) (pn ▸ hk)
theorem qR (hk:ar P N ops l (get ((d,.bV [])::G)) K) (h:(ops[j]?).bind (·.dst)=some cT:=by rfl) (aO:get G cT=some (.lit (.bool cD)):=by rfl) (av:cD=!b:=by (first | rfl | assumption)) (bc:N.ok d=true:=by rfl) (aW:get G d=none:=by rfl):ar P N ops (⟨some d,op,ty,pos,after,some (j,b)⟩::l) (get G) K:=.ps h aO av bc aW (pn ▸ hk)
theorem Rb (hk:ar P N ops l (get ((d,.bV [])::G)) K) (h:(ops[j]?).bind (·.dst)=some cT:=by rfl) (aO:get G cT=some (.bV []):=by rfl) (bc:N.ok d=true:=by rfl) (aW:get G d=none:=by rfl):ar P N ops (⟨some d,op,ty,pos,after,some (j,b)⟩::l) (get G) K:=.pu h aO bc aW (pn ▸ hk)
theorem Hm {p:Prop}{X Y o:α}(h:(bif b then X else Y)=o) (dM:b=true->X=o->p) (aN:b=false->Y=o->p):p:=by
 cases b
 ·exact aN rfl h
 ·exact dM rfl h
theorem GK {DL:lC->List (Nat × ab)->Prop}(lO:JO E [] G=some ks) (au:pick (get G) ks=some G1) [aF:ix G1] (hk:DL t G1):ar P N ops [] (get G) (yQ E t DL):=.nil ⟨G1,(uC (c:=true) (g2:=get G1) au aF.p).eX,hk⟩
theorem cM.ei {m:Option α}{f:α->Option β}{r:β}{ks:List Nat}{L c8:α->List (Nat × ab)}(h:m.bind f=some r) (h1:∀ j,m=some j->ar P N l.toArray l (get G) (rG c8 j .normal)) (af:∀ j,m=some j->f j=some r->cM E y P N B (c8 j) Φ)
  (aN:∀ j,pick (pR (L j) G) ks=some (c8 j):=by intro j; rfl):cM E (.ei id ks L y) P N (.seq (.region id l.toArray false) B) G Φ:=by
 obtain ⟨j,ah,h⟩:=lb h;exact W.seq (W.AA λi hi=>by
  obtain ⟨g',cy,_,fH⟩:=h1 j ah i hi;exact ⟨g',cy,W.be (af j ah h) fH⟩)
theorem Q_ {F:α->List (Nat × ab)}{j v:α}(h:some v=some j) (aw:Trim true (get G) (get (F v)) (F v)):ar P N ops [] (get G) (rG F j .normal):=by
 cases h; exact .nil ⟨rfl,.eX aw.eX .h2⟩
end
end Go.Own
namespace Go.Own
open Go
set_option linter.unusedVariables false
def J3:ab->Option ab
 | .lit v=>some (.lit v)
 | .aL=>some .aL
 | .bk z n cs=>some (.bk z n cs)
 | .own z n cs=>some (.own z n cs)
 | .obj cs=>some (.obj cs)
 | .agg cs=>some (.agg cs)
 | .bV cs=>some (.bV cs)
 | .cJ cs=>some (.cJ cs)
 | .ptr p k=>some (.ptr p k)
 | .a6 z p n=>some (.a6 z p n)
 | .sub z p l n=>some (.sub z p l n)
 | .bL z p n m c=>some (.bL z p n m c)
 | .cX f a b=>some (.cX f a b)
 | .mp p=>some (.mp p)
 | .gz p=>some (.gz p)
 | .imp p=>some (.imp p)
 | .dead=>some .dead
theorem O_ {x y:ab}(h:J3 x=some y):x=y:=by cases x <;> (cases h; rfl)
def Fp:List ab->Option (List ab)
 | []=>some []
 | x::l=>match Fp l with
  | none=>none
  | some r=>match J3 x with
   | none=>none
   | some y=>some (y::r)
theorem O9:∀ {l r:List ab},Fp l=some r->l=r
 | [],r,h=>by cases h; rfl
 | x::l,r,h=>by
  unfold Fp at h
  split at h
  ·cases h
  ·rename_i dm ao
   split at h
   ·cases h
   ·rename_i y ax;cases h; rw [O9 ao,O_ ax]
def s0:ab->Option ab
 | .agg cs=>match Fp cs with
  | some r=>some (.agg r)
  | none=>none
 | x=>J3 x
theorem vH {x y:ab}(h:s0 x=some y):x=y:=by
 unfold s0 at h
 split at h
 ·split at h
  ·rename_i ao;cases h; rw [O9 ao]
  ·cases h
 ·exact O_ h
def lp:List ab->Option (List ab)
 | []=>some []
 | x::l=>match lp l with
  | none=>none
  | some r=>match s0 x with
   | none=>none
   | some y=>some (y::r)
theorem xQ:∀ {l r:List ab},lp l=some r->l=r
 | [],r,h=>by cases h; rfl
 | x::l,r,h=>by
  unfold lp at h
  split at h
  ·cases h
  ·rename_i dm ao
   split at h
   ·cases h
   ·rename_i y ax;cases h; rw [xQ ao,vH ax]
def yg (f:Nat->ab->ab):Nat->List Nat->List ab->Option (List ab)
 | _,_,[]=>some []
 | _,[],_::_=>none
 | k,j::ef,x::l=>match yg f (k+1) ef l with
  | none=>none
  | some r=>match Nat.beq j k,s0 (f j x) with
   | true,some y=>some (y::r)
   | _,_=>none
theorem Dm {f:Nat->ab->ab}:∀ {l:List ab}{ef:List Nat}{k:Nat}{r:List ab},yg f k ef l=some r->(l.mapIdx λi x=>f (k+i) x)=r
 | [],ef,k,r,h=>by cases ef <;> (cases h; rfl)
 | x::l,[],k,r,h=>by cases h
 | x::l,j::ef,k,r,h=>by
  unfold yg at h
  split at h
  ·cases h
  ·rename_i dm ao
   split at h
   ·rename_i y ah ax;cases h;have:=Nat.eq_of_beq_eq_true ah;subst this;rw [List.mapIdx_cons,<- Dm ao,<- vH ax];simp [Nat.add_comm,Nat.add_left_comm]
   ·cases h
def num:List Nat:=0::1::2::3::4::5::6::7::8::9::10::11::12::13::14::15::16::17::18::19::20::21::22::23::24::25::26::27::28::29::30::31::32::33::34::35::36::37::38::39::40::41::42::43::44::45::46::47::48::49::50::51::52::53::54::55::56::57::58::59::60::61::62::63::64::65::66::67::68::69::70::71::72::73::74::75::76::77::78::79::[]
def FM (g:aK):Operand->Option ab
 | .tmp t=>match g t with
  | some (.lit v)=>some (.lit v)
  | some .aL=>some .aL
  | some (.bk z n cs)=>some (.bk z n cs)
  | some (.own z n _)=>some (.a6 z ⟨t,[]⟩ n)
  | some (.obj (_::_))=>some (.ptr ⟨t,[]⟩ 0)
  | some (.cJ cs)=>some (.cJ cs)
  | some (.agg cs)=>match yg (λi x=>gw 1 ⟨t,[i]⟩ x) 0 num cs with
   | some r=>some (.agg r)
   | none=>none
  | some (.bV cs)=>match yg (λi x=>gw 1 ⟨t,[i]⟩ x) 0 num cs with
   | some r=>some (.bV r)
   | none=>none
  | some (.ptr p k)=>some (.ptr p k)
  | some (.a6 z p n)=>some (.a6 z p n)
  | some (.sub z p l n)=>some (.sub z p l n)
  | some (.bL z _ n m _)=>some (.a6 z ⟨t,[]⟩ (n+m))
  | some (.cX fn [] cs)=>some (.cX fn [] cs)
  | some (.mp _)=>some (.gz ⟨t,[]⟩)
  | some (.gz p)=>some (.gz p)
  | some (.imp q)=>some (.imp q)
  | _=>none
 | .const v=>match ofConst v with
  | .lit v=>some (.lit v)
  | .agg cs=>some (.agg cs)
  | .aL=>match v with
   | .slice none 0 0=>some .aL
   | _=>none
  | _=>none
 | .func f=>some (.cX (.func f) [] [])
 | .global _=>none
theorem XJ {v u:Value}(h:ofConst v=.lit u):u=v:=by
 cases v <;> simp only [ofConst,lR] at h <;> first | (cases h; rfl) | (split at h <;> cases h <;> rfl) | cases h
theorem Rd.q {g:aK}{a:Operand}{y:ab}(h:FM g a=some y:=by rfl):Rd g a y:=by
 unfold FM at h
 split at h
 ·split at h <;> first | (split at h <;> cases h <;> first | exact .agg ‹_› (by have:=Dm ‹_›; simpa [Place.push] using this) | exact .bV ‹_› (by have:=Dm ‹_›; simpa [Place.push] using this)) | skip
  all_goals cases h
  all_goals first | exact .lit ‹_› | exact .aL ‹_› | exact .bk ‹_› | exact .own ‹_› | exact .obj ‹_› | exact .cJ ‹_› | exact .ptr ‹_› | exact .a6 ‹_› | exact .sub ‹_› | exact .bL ‹_› | exact .cX ‹_› | exact .mp ‹_› | exact .gz ‹_› | exact .imp ‹_›
 ·split at h
  ·rename_i e; cases h; have:=XJ e; subst this; exact .k e
  ·rename_i e; cases h; exact .JM e
  ·split at h <;> cases h
   exact .xL
  ·cases h
 ·cases h; exact .func
 ·cases h
def FO (g:aK) (t:Nat):Option ab :=
 match g t with
 | some (.lit v)=>some (.lit v)
 | some .aL=>some .aL
 | some (.bk z n cs)=>some (.bk z n cs)
 | some (.cJ cs)=>some (.cJ cs)
 | some (.cX fn [] cs)=>some (.cX fn [] cs)
 | some (.imp q)=>some (.imp q)
 | _=>none
theorem Rd.Au {g:aK}{t:Nat}{y:ab}(h:FO g t=some y:=by rfl):Rd g (.tmp t) y:=by
 unfold FO at h
 split at h <;> cases h <;> first | exact .lit ‹_› | exact .aL ‹_› | exact .bk ‹_› | exact .cJ ‹_› | exact .cX ‹_› | exact .imp ‹_›
class hB (P:Program) (t:TypeId) (α:outParam Type) (en:outParam (bK α)):Prop where p:True:=trivial
class ti {α:Type}(en:bK α) (cs:List ab) (y:outParam α):Prop where p:en.cells y=cs
instance {a:Int}:ti ai [ae a] a:=⟨rfl⟩
instance {a:Int}:ti qf [qY a] a:=⟨rfl⟩
instance {a:Bool}:ti cp [a_ a] a:=⟨rfl⟩
instance {a:ByteArray}:ti dv [ay a] a:=⟨rfl⟩
instance {α:Type}{en:bK α}{l:List α}:ti (bq en) [.bk en.z l.length (bo en l)] l:=⟨rfl⟩
class o_ {α:Type}(en:bK α) (ys:List ab) (L:outParam (List α)):Prop where p:mm ys=some (bo en L)/\ys.all (λy=>match jT y with | some c=>Nat.beq c.length en.z | none=>false)=true/\L.length=ys.length
instance {α:Type}{en:bK α}:o_ en [] []:=⟨⟨rfl,rfl,rfl⟩⟩
theorem o_.cons {α:Type}{en:bK α}{y:ab}{cs:List ab}{ys:List ab}{a:α}{L:List α}(av:jT y=some cs) [h:ti en cs a] [aj:o_ en ys L]:o_ en (y::ys) (a::L):=by
 refine ⟨⟨?_,?_,?_⟩⟩
 ·simp [mm,av,aj.p.1,bo,h.p]
 ·simp only [List.all_cons,av,aj.p.2.1,Bool.and_true];rw [<- h.p,en.len]; exact Nat.beq_refl _
 ·simp [aj.p.2.2]
instance {α:Type}{en:bK α}{cs ys:List ab}{a:α}{L:List α} [h:ti en cs a] [aj:o_ en ys L]:o_ en (.agg cs::ys) (a::L):=.cons rfl
instance {α:Type}{en:bK α}{v:Value}{ys:List ab}{a:α}{L:List α} [h:ti en [.lit v] a] [aj:o_ en ys L]:o_ en (.lit v::ys) (a::L):=.cons rfl
instance {α:Type}{en:bK α}{z n:Nat}{cs:List ab}{ys:List ab}{a:α}{L:List α} [h:ti en [.bk z n cs] a] [aj:o_ en ys L]:o_ en (.bk z n cs::ys) (a::L):=.cons rfl
def we (d:Nat):List Oper->Bool
 | []=>false
 | o::l=>(match o.op with
  | .call { callee:=.value _,args:=xs,argTypes:=_ }=>xs.toList.any λx=>match x with | .tmp t=>Nat.beq t d | _=>false
  | .call { callee:=.builtin .append,args:=xs,argTypes:=_ }=>match xs.toList with | [_,.tmp t]=>Nat.beq t d | _=>false
  | .convert _ _ (.tmp t)=>Nat.beq t d
  | .build _ ps=>ps.toList.any λx=>match x.2 with | .tmp t=>Nat.beq t d | _=>false
  | .buildSlice _ _ ps=>ps.toList.any λx=>match x.2 with | .tmp t=>Nat.beq t d | _=>false
  | _=>false)||we d l
class AU (P:Program):Prop where p:P.follows .mixedOrders=true:=by kernel_rfl
class ko (P:Program) (t:TypeId) (k:outParam Nat):Prop where p:iz P t k=true:=by kernel_rfl
class h4 (P:Program) (t:TypeId) (z:outParam Value):Prop where p:(P.info? t).bind (·.zero)=some z:=by kernel_rfl
class kp (P:Program) (t:TypeId) (pl:outParam (List (Nat × Nat))):Prop where p:kG P t pl=true:=by kernel_rfl
class jl (P:Program) (t:TypeId) (e z b:outParam Nat):Prop where p:jI P t e z b=true:=by kernel_rfl
class AV (P:Program) (t:TypeId) (k:outParam IntKind):Prop where p:xz P t k=true:=by kernel_rfl
class yJ (P:Program) (t:TypeId) (b:outParam Nat):Prop where p:(P.info? t).map (·.bytes)=some b:=by kernel_rfl
section
variable {α β:Type}{P:Program}{g:aK}{ty t t2:TypeId}{a b:Operand}{k r z n:Nat}{cs cs':List ab}{x y:ab}{p q:Place}{m:Int}{sW JN:IntKind}{e:TypeId}{N:c5}{ops:Array Oper}{gN:Nat}
theorem O.Gc (J:Rd g a y:=by exact .q) (aa:(jT y).bind lp=some cs:=by rfl):ch P g (.box e a) ty (.obj cs):=by
 cases av:jT y with
 | none=>rw [av] at aa; cases aa
 | some c=>rw [av] at aa; have:=xQ aa; subst this; exact O.box J av
theorem O.ic {v:Value} [h:fO P t] (J:Rd g a (.ptr ⟨r,[]⟩ k):=by exact .q) (aB:g r=some (.obj cs):=by rfl) (aa:cs[k]?=some (.lit v):=by rfl):ch P g (.load t a) ty (.lit v):=O.oW aB J h.p aa
theorem O.hA [h:fO P t] (J:Rd g a (.cJ cs):=by exact .q) (aa:cs.head?.bind s0=some x:=by rfl):ch P g (.load t a) ty x:=by
 cases av:cs.head? with
 | none=>rw [av] at aa; cases aa
 | some c=>rw [av] at aa; have:=vH aa; subst this; exact O.Ct J h.p av
theorem O.AI [h:fO P t] (J:Rd g a (.ptr ⟨r,[]⟩ k):=by exact .q) (aB:g r=some (.obj cs):=by rfl) (aa:cs[k]?=some x:=by rfl) (ax:s0 (gw 0 ⟨r,[k]⟩ x)=some y:=by rfl):ch P g (.load t a) ty y:=O.mA aB J h.p aa (vH ax)
theorem O.AJ [h:ko P t z] (J:Rd g a (.ptr ⟨r,[]⟩ k):=by exact .q) (aB:g r=some (.obj cs):=by rfl) (hk:Nat.ble (k+z) cs.length=true:=by rfl) (aa:yg (λi x=>gw 0 ⟨r,[i]⟩ x) k (num.drop k) ((cs.drop k).take z)=some cs':=by rfl):ch P g (.load t a) ty (.agg cs'):=O.eS aB J h.p hk (Dm aa)
theorem O.Gi [h:ko P t z] (J:Rd g a (.cJ cs):=by exact .q) (aa:lp (cs.take z)=some cs':=by rfl) (aX:cs'.length=z:=by rfl):ch P g (.load t a) ty (.agg cs'):=O.ng J h.p (xQ aa) aX
theorem O.Gm {en:bK α}{L:List α}{y:α}{o:Nat}{x x':ab} [aw:fO P t] (J:Rd g a (.ptr p (m.toNat * en.z+o)):=by exact .q) (au:bB g p=some (ak en L):=by rfl) (h:idx L m=some y:=by assumption) (aa:(en.cells y)[o]?=some x:=by rfl) (ao:s0 (gw 0 (p.push (m.toNat * en.z+o)) x)=some x':=by rfl):ch P g (.load t a) ty x':=O.iR au J aw.p h aa (vH ao)
theorem O.Gx {en:bK α}{L:List α}{y:α}{o:Nat} [aw:ko P t z] (J:Rd g a (.ptr p (m.toNat * en.z+o)):=by exact .q) (au:bB g p=some (ak en L):=by rfl) (h:idx L m=some y:=by assumption) (aX:Nat.ble (o+z) en.z=true:=by rfl) (aa:lp ((((en.cells y).drop o).take z).mapIdx (λi x=>gw 0 (p.push (m.toNat * en.z+o+i)) x))=some cs':=by rfl):ch P g (.load t a) ty (.agg cs'):=O.Xt au J aw.p h aX (xQ aa)
theorem O.Ge {cT f off:Nat} [h:c_ P cT f off t] (J:Rd g a (.ptr ⟨r,[]⟩ k):=by exact .q) (aB:g r=some (.obj cs):=by rfl) (aj:Nat.blt (k+off) cs.length=true:=by rfl):ch P g (.fieldAddr cT a f) ty (.ptr ⟨r,[]⟩ (k+off)):=O.kv aB J h.p aj
theorem O.Gf {cT f off:Nat} [h:c_ P cT f off t] (J:Rd g a (.cJ cs):=by exact .q):ch P g (.fieldAddr cT a f) ty (.cJ (cs.drop off)):=O.Bo J h.p
theorem O.wf {en:bK α}{L:List α}{y:α}{cT f off o gm:Nat} [aW:c_ P cT f off t] (J:Rd g a (.ptr p (m.toNat * en.z+o)):=by exact .q) (au:bB g p=some (ak en L):=by rfl) (h:idx L m=some y:=by assumption) (a1:o+off=gm:=by rfl) (aT:Nat.blt gm en.z=true:=by rfl):ch P g (.fieldAddr cT a f) ty (.ptr p (m.toNat * en.z+gm)):=O.kc au J aW.p h a1 aT
theorem O.Gh {en:bK α}{L:List α}{y:α}{bC:Nat}(h:idx L m=some y) [aI:eo P t e bC] (J:Rd g a (.bk en.z L.length (bo en L)):=by exact .q) (ax:Rd g b (.lit (.int sW m)):=by exact .q) (aX:bC=en.z:=by rfl):ch P g (.indexAddr t a b) ty (.cJ (en.cells y++bo en (L.drop (m.toNat+1)))):=O.rh J ax (aX ▸ aI.p) h
theorem O.yx {en:bK α}{L:List α}{y:α}{bC:Nat}(h:idx L m=some y) [aI:eo P t e bC] (J:Rd g a (.a6 en.z p L.length):=by exact .q) (au:bB g p=some (ak en L):=by rfl) (ax:Rd g b (.lit (.int sW m)):=by exact .q) (aX:bC=en.z:=by rfl) (aQ:Nat.blt 0 en.z=true:=by rfl):ch P g (.indexAddr t a b) ty (.ptr p (m.toNat * en.z+0)):=O.gl au J ax (aX ▸ aI.p) h aQ
theorem O.Gv {p i:Nat}{cs:List ab}{x y:ab}(J:g p=some (.bV cs):=by rfl) (ax:cs[i]?=some x:=by rfl) (ao:s0 (gw 1 (Place.push ⟨p,[]⟩ i) x)=some y:=by rfl):ch P g (.extract (.tmp p) i) ty y:=O.ex J ax (vH ao)
theorem O.Gl [h1:AV P t sW] [af:AV P t2 JN] (J:Rd g a (.lit (.int sW m)):=by exact .q):ch P g (.convert t t2 a) ty (.lit (.int JN (JN.wrap m))):=O.Tl J h1.p af.p
theorem O.Gk {L:List Int}(J:Rd g a (.bk qf.z L.length (bo qf L)):=by exact .q) (aw:wQ P t t2=true:=by kernel_rfl):ch P g (.convert t t2 a) ty (ay (strOfNums L)):=O.Tk J aw
theorem O.Gj {dI:Value} [h:h4 P e dI] (h1:dI.cells.toList.all Value.oneCell'=true:=by rfl) (aa:lp (dI.cells.toList.map lR)=some cs:=by rfl):ch P g (.alloc e) ty (.obj cs):=O.fF h.p h1 (xQ aa)
theorem O.Gu {parts:Array (Nat × Operand)}{pl:List (Nat × Nat)}{dI:Value}{ps:List (Nat × List ab)} [aw:kp P t pl] [aX:h4 P t dI] (h1:dI.cells.toList.all Value.oneCell'=true:=by rfl)
  (au:rk g parts.toList=some ps:=by rfl) (aa:(u6 (λi=>pl[i]?) (dI.cells.toList.map lR) ps).bind lp=some cs:=by rfl):ch P g (.build t parts) ty (.agg cs):=by
 cases av:u6 (λi=>pl[i]?) (dI.cells.toList.map lR) ps with
 | none=>rw [av] at aa; cases aa
 | some c=>rw [av] at aa; have:=xQ aa; subst this; exact O.ek aw.p aX.p h1 au av
theorem O.wd {cT f off:Nat} [h:c_ P cT f off t] [aw:fO P t] (J:Rd g a (.agg cs):=by exact .agg rfl rfl) (ax:cs[off]?.bind s0=some x:=by rfl):ch P g (.field cT a f) ty x:=by
 cases av:cs[off]? with
 | none=>rw [av] at ax; cases ax
 | some c=>rw [av] at ax; have:=vH ax; subst this; exact O.fd J h.p aw.p av
theorem O.wp {en:bK α}{L M r:List α}{bC:Nat}(h:c' L M=some r) [aw:jl P t e bC gN] (aB:Rd g a (.a6 en.z p L.length):=by exact .q) (au:bB g p=some (ak en L):=by rfl) (J:Rd g b y:=by exact .q) (hm:n2 g en y M:=by (first | exact .i | exact .n | exact .o rfl rfl)) (aX:bC=en.z:=by rfl) (av:Nat.ble gN 128=true:=by rfl) [e8:qT g]:ch P g (.call { callee:=.builtin .append,args:=#[a,b],argTypes:=#[t,t] }) ty (.bL en.z p L.length M.length (bo en M)) :=
 O.ap aB au J hm (aX ▸ aw.p) av h
def xN:List ab->Option (List Value)
 | []=>some []
 | .lit v::l=>match xN l with
  | some r=>some (v::r)
  | none=>none
 | _=>none
theorem Cw:∀ {l:List ab}{r:List Value},xN l=some r->l=r.map .lit
 | [],r,h=>by cases h; rfl
 | x::l,r,h=>by
  unfold xN at h
  split at h
  ·rename_i e; cases e
  ·rename_i e;cases e
   split at h
   ·rename_i dm ao;cases h; rw [Cw ao]; rfl
   ·cases h
  ·cases h
def yn:List Value->Option (List n1)
 | []=>some []
 | v::l=>match yn l,mb v with
  | some r,some u=>some (u::r)
  | _,_=>none
theorem Dp:∀ {l:List Value}{r:List n1},yn l=some r->l.map mb=r.map some
 | [],r,h=>by cases h; rfl
 | v::l,r,h=>by
  unfold yn at h
  split at h
  ·rename_i v' u ao aB;cases h; simp [Dp ao,aB]
  ·cases h
theorem O.ov {Bd ka:List ab}{va vb:List Value}{eP:List n1}(J:Rd g a (.agg Bd):=by exact .q) (ax:Rd g b (.agg ka):=by exact .q) (zE:xN Bd=some va:=by rfl) (Cc:xN ka=some vb:=by rfl) (aP:yn va=some eP:=by rfl) (av:yn vb=some eP:=by rfl) (aw:tJ P t eP=true:=by kernel_rfl):ch P g (.binOp .eql t a b t2) ty (a_ (lL va vb)):=O.Bl (Cw zE ▸ J) (Cw Cc ▸ ax) (Dp aP) (Dp av) aw
theorem O.wn {Bd ka:List ab}{va vb:List Value}{eP:List n1}(J:Rd g a (.agg Bd):=by exact .q) (ax:Rd g b (.agg ka):=by exact .q) (zE:xN Bd=some va:=by rfl) (Cc:xN ka=some vb:=by rfl) (aP:yn va=some eP:=by rfl) (av:yn vb=some eP:=by rfl) (aw:tJ P t eP=true:=by kernel_rfl):ch P g (.binOp .neq t a b t2) ty (a_ (!lL va vb)):=O.XF (Cw zE ▸ J) (Cw Cc ▸ ax) (Dp aP) (Dp av) aw
theorem O.Gp {en:bK α}{z0:α}{r:List α}{bC:Nat}{dI:Value}(h:ni m z0=some r) [het:hB P t α en] [aw:eo P t e bC] [hzero:h4 P e dI] [iN:yJ P e gN] (J:Rd g a (.lit (.int sW m)):=by exact .q) (ax:Rd g b (.lit (.int .i64 m)):=by exact .q) (h1:dI.cells.toList.all Value.oneCell'=true:=by rfl) (aa:dI.cells.toList.map lR=en.cells z0:=by rfl) (aX:bC=en.z:=by rfl) (av:Nat.ble gN 128=true:=by rfl):ch P g (.makeSlice t a b) ty (ak en r) :=
 O.mk (aX ▸ aw.p) J ax hzero.p h1 aa h iN.p av
theorem O.wl {en:bK α}{bC:Nat} [het:hB P t α en] [aw:eo P t e bC] (aX:bC=en.z:=by rfl) (hzero:ie P e en.z=true:=by kernel_rfl):ch P g (.buildSlice t 0 #[]) ty (ak en ([]:List α)) :=
 O.df (ys:=[]) en [] (aX ▸ aw.p) rfl rfl rfl rfl rfl rfl hzero (by rw [Nat.zero_mul]; rfl) rfl
theorem O.Gq {en:bK α}{M r:List α}{bC:Nat}(h:c' [] M=some r) [aw:jl P t e bC gN] (aB:Rd g a .aL:=by exact .q) (J:Rd g b y:=by exact .q) (hm:n2 g en y M:=by (first | exact .i | exact .n | exact .o rfl rfl)) (aX:bC=en.z:=by rfl) (av:Nat.ble gN 128=true:=by rfl):ch P g (.call { callee:=.builtin .append,args:=#[a,b],argTypes:=#[t,t] }) ty (ak en M) :=
 O.RQ aB J hm (aX ▸ aw.p) av h
theorem O.Gr {en:bK α}{L r:List α}{c:Operand}{n:Int}{k:IntKind}{bC:Nat}(h:nU L 0 n=some r) [aw:eo P t e bC] (J:Rd g a (.bk en.z L.length (bo en L)):=by exact .q) (bY:Rd g c (.lit (.int k n)):=by exact .q) (aX:bC=en.z:=by rfl):ch P g (.slice t a none (some c) none) ty (ag en r):=O.Y3 J bY (aX ▸ aw.p) h
theorem O.Gs {en:bK α}{L r:List α}{k:IntKind}{bC:Nat}(h:nU L m L.length=some r) [aw:eo P t e bC] (J:Rd g a (.bk en.z L.length (bo en L)):=by exact .q) (aj:Rd g b (.lit (.int k m)):=by exact .q) (aX:bC=en.z:=by rfl):ch P g (.slice t a (some b) none none) ty (ag en r):=O.Y4 J aj (aX ▸ aw.p) h
theorem O.Gt {en:bK α}{L r:List α}{c:Operand}{n:Int}{k oV:IntKind}{bC:Nat}(h:nU L m n=some r) [aw:eo P t e bC] (J:Rd g a (.bk en.z L.length (bo en L)):=by exact .q) (aj:Rd g b (.lit (.int k m)):=by exact .q) (bY:Rd g c (.lit (.int oV n)):=by exact .q) (aX:bC=en.z:=by rfl):ch P g (.slice t a (some b) (some c) none) ty (ag en r):=O.Y2 J aj bY (aX ▸ aw.p) h
def Fc:List Nat->List Nat->Bool
 | [],[]=>true
 | a::l,b::m=>Nat.beq a b&&Fc l m
 | _,_=>false
def FI (p q:Place):Bool:=!(Nat.beq p.root q.root&&Fc p.path q.path)
theorem OU:∀ (l:List Nat),Fc l l=true
 | []=>rfl
 | a::l=>by unfold Fc; rw [OU l,Nat.beq_refl]; rfl
theorem PC {p q:Place}(h:FI p q=true):p≠q:=by
 rintro rfl;unfold FI at h;rw [Nat.beq_refl,OU] at h;cases h
def vJ (p:Place):List (Nat × ab)->Bool
 | []=>true
 | (_,.bL _ q _ _ _)::l=>FI p q&&vJ p l
 | _::l=>vJ p l
theorem J4 {p:Place}:∀ {G:List (Nat × ab)},vJ p G=true->∀ t z n m new,get G t≠some (.bL z p n m new)
 | [],_,t,z,n,m,new,e=>by cases e
 | (s,x)::G,h,t,z,n,m,new,e=>by
  simp only [get] at e
  split at e
  ·cases e;unfold vJ at h;rw [Bool.and_eq_true] at h;exact PC h.1 rfl
  ·refine J4 (G:=G) ?_ t z n m new e;unfold vJ at h
   split at h
   ·rename_i b9; cases b9
   ·rename_i b9; cases b9; rw [Bool.and_eq_true] at h; exact h.2
   ·rename_i b9; cases b9; exact h
def xS (p:Place):Acc->Bool
 | []=>true
 | (_,_,some (.bL _ q _ _ _))::l=>FI p q&&xS p l
 | _::l=>xS p l
theorem O' {p:Place}{G:List (Nat × ab)}{A:Nat->Bool}(c9:vJ p G=true):∀ {acc:Acc},xS p acc=true->∀ t z n m new,dg (get G) A acc t≠some (.bL z p n m new)
 | [],_,t,z,n,m,new,e=>J4 c9 t z n m new e
 | (k,d,r)::acc,h,t,z,n,m,new,e=>by
  have af:xS p acc=true:=by
   unfold xS at h
   split at h
   ·rename_i b9; cases b9
   ·rename_i b9; cases b9; rw [Bool.and_eq_true] at h; exact h.2
   ·rename_i b9; cases b9; exact h
  simp only [dg] at e
  split at e
  ·split at e
   ·subst e;unfold xS at h;rw [Bool.and_eq_true] at h;exact PC h.1 rfl
   ·cases e
  ·exact O' c9 af t z n m new e
theorem O.wr {en:bK α}{L M r:List α}{bC:Nat}{G:List (Nat × ab)}(h:c' L M=some r) [aw:jl P t e bC gN] (aB:Rd (get G) a (.a6 en.z p L.length):=by exact .q) (au:bB (get G) p=some (ak en L):=by rfl) (J:Rd (get G) b y:=by exact .q) (hm:n2 (get G) en y M:=by (first | exact .i | exact .n | exact .o rfl rfl)) (aX:bC=en.z:=by rfl) (av:Nat.ble gN 128=true:=by rfl) (bg:vJ p G=true:=by rfl):ch P (get G) (.call { callee:=.builtin .append,args:=#[a,b],argTypes:=#[t,t] }) ty (.bL en.z p L.length M.length (bo en M)) :=
 O.tx aB au J hm (aX ▸ aw.p) av h (J4 bg)
theorem O.QH {en:bK α}{L M r:List α}{bC:Nat}{G:List (Nat × ab)}{A:Nat->Bool}{acc:Acc}(h:c' L M=some r) [aw:jl P t e bC gN] (aB:Rd (dg (get G) A acc) a (.a6 en.z p L.length):=by exact .q) (au:bB (dg (get G) A acc) p=some (ak en L):=by rfl) (J:Rd (dg (get G) A acc) b y:=by exact .q) (hm:n2 (dg (get G) A acc) en y M:=by (first | exact .i | exact .n | exact .o rfl rfl)) (aX:bC=en.z:=by rfl) (av:Nat.ble gN 128=true:=by rfl) (bg:vJ p G=true:=by rfl) (Wa:xS p acc=true:=by rfl):ch P (dg (get G) A acc) (.call { callee:=.builtin .append,args:=#[a,b],argTypes:=#[t,t] }) ty (.bL en.z p L.length M.length (bo en M)) :=
 O.tx aB au J hm (aX ▸ aw.p) av h (O' bg Wa)
instance {s:Nat}{x:ab}{G:List (Nat × ab)} [h:pc s (get G)]:pc s (get ((s,x)::G)):=(pn (G:=G) (d:=s) (v:=x)) ▸ (inferInstance:pc s (cV (get G) s x))
instance {s d:Nat}{x:ab}{G:List (Nat × ab)} [h:pc s (get G)] [J:ns x]:pc s (get ((d,x)::G)):=(pn (G:=G) (d:=d) (v:=x)) ▸ (inferInstance:pc s (cV (get G) d x))
theorem O.Gd {en:bK α}{L M M2 r:List α}{bC s:Nat}(h:c' (L++M) M2=some r) [aw:jl P t e bC gN] (aB:Rd g a (.a6 en.z ⟨s,[]⟩ (L.length+M.length)):=by exact .q) (qo:g s=some (.bL en.z q L.length M.length (bo en M)):=by rfl) (au:bB g q=some (ak en L):=by rfl) (J:Rd g b y:=by exact .q) (hm:n2 g en y M2:=by (first | exact .i | exact .n | exact .o rfl rfl)) (aX:bC=en.z:=by rfl) (av:Nat.ble gN 128=true:=by rfl) [e8:pc s g]:ch P g (.call { callee:=.builtin .append,args:=#[a,b],argTypes:=#[t,t] }) ty (.bL en.z ⟨s,[]⟩ (L.length+M.length) M2.length (bo en M2)) :=
 O.D5 aB qo au J hm (aX ▸ aw.p) av h
theorem O.Gw {en:bK β}{r:List (List β)}{bC:Nat}{dI:Value}(h:ni m ([]:List β)=some r) [het:hB P t (List β) (bq en)] [aw:eo P t e bC] [hzero:h4 P e dI] [iN:yJ P e gN] (J:Rd g a (.lit (.int sW m)):=by exact .q) (ax:Rd g b (.lit (.int .i64 m)):=by exact .q) (h1:dI.cells.toList.all Value.oneCell'=true:=by rfl) (aa:dI.cells.toList.map lR=[.aL]:=by rfl) (aX:bC=(bq en).z:=by rfl) (av:Nat.ble gN 128=true:=by rfl):ch P g (.makeSlice t a b) ty (ak (bq en) r) :=
 O.XA (aX ▸ aw.p) J ax hzero.p h1 aa h iN.p av
theorem O.eX {en:bK α}{L:List α}{y:α}{bC:Nat} [aI:eo P t e bC] (J:Rd g a (.bk en.z L.length (bo en L)):=by exact .q) (ax:Rd g b (.lit (.int sW m)):=by exact .q) (aX:bC=en.z:=by rfl) (h:idx L m=some y:=by assumption):ch P g (.indexAddr t a b) ty (.cJ (en.cells y++bo en (L.drop (m.toNat+1)))):=O.rh J ax (aX ▸ aI.p) h
theorem O.Gn {en:bK α}{L:List α}{y:α}{bC:Nat} [aI:eo P t e bC] (J:Rd g a (.a6 en.z p L.length):=by exact .q) (au:bB g p=some (ak en L):=by rfl) (ax:Rd g b (.lit (.int sW m)):=by exact .q) (aX:bC=en.z:=by rfl) (aQ:Nat.blt 0 en.z=true:=by rfl) (h:idx L m=some y:=by assumption):ch P g (.indexAddr t a b) ty (.ptr p (m.toNat * en.z+0)):=O.gl au J ax (aX ▸ aI.p) h aQ
end
def Cq (GM:List (Nat × ab)) (ex:List Nat) (Qi:List Nat):List (Nat × ab)->Option (List Nat)
 | []=>some []
 | (k,x)::l=>match Cq GM ex (k::Qi) l with
  | none=>none
  | some r=>match !ex.elem k&&!Qi.elem k&&(match x with | .ptr ⟨q,[]⟩ _=>!ex.elem q&&(match get GM q with | some (.obj _)=>true | _=>false) | _=>false) with
   | true=>some (k::r)
   | false=>some r
def lr (g g2:aK) (r:Nat):List (Nat × ab)->Bool
 | []=>true
 | (s,.ptr ⟨q,[]⟩ k)::l=>!Nat.beq s r&&(match g q,g2 q with | some (.obj cs),some (.obj ku)=>Nat.blt k cs.length&&Nat.blt k ku.length | _,_=>false)&&lr g g2 r l
 | _=>false
theorem Pl {g g2:aK}{r:Nat}{s:Nat}{x:ab}{l:List (Nat × ab)}(h:lr g g2 r ((s,x)::l)=true):(∃ q k cs ku,x=.ptr ⟨q,[]⟩ k/\Nat.beq s r=false/\g q=some (.obj cs)/\Nat.blt k cs.length=true/\g2 q=some (.obj ku)/\Nat.blt k ku.length=true)/\lr g g2 r l=true:=by
 unfold lr at h
 split at h
 ·rename_i e; cases e
 ·rename_i cT q k vF e;cases e;rw [Bool.and_eq_true,Bool.and_eq_true] at h;obtain ⟨⟨h1,af⟩,aI⟩:=h
  split at af
  ·rename_i cs ku cy b9;rw [Bool.and_eq_true] at af;exact ⟨⟨q,k,cs,ku,rfl,by simpa using h1,cy,af.1,b9,af.2⟩,aI⟩
  ·cases af
 ·cases h
theorem M4 {g:aK}{r s:Nat}{x y:ab}(h:Nat.beq s r=false) (J:cV g r x s=some y):g s=some y:=by
 unfold cV at J;rw [if_neg (by rintro rfl; rw [Nat.beq_refl] at h; cases h)] at J;exact J
theorem Df {g:aK}{k:Nat}{ks:List Nat}{G1:List (Nat × ab)}(h:pick g (k::ks)=some G1):∃ x l,g k=some x/\pick g ks=some l/\G1=(k,x)::l:=by
 unfold pick at h
 split at h
 ·rename_i x J
  split at h
  ·rename_i l aj;cases h; exact ⟨x,l,J,aj,rfl⟩
  ·cases h
 ·cases h
theorem Aq {g g2:aK}{r:Nat}{cs2:List ab}{T:List (Nat × ab)}(dM:la g g2 r cs2 T):∀ {ks:List Nat}{G1:List (Nat × ab)},pick (cV g r (.obj cs2)) ks=some G1->(∀ e∈G1,cU e.2)->la g g2 r cs2 (G1++T)
 | [],_,h,_=>by cases h; exact dM
 | k::ks,G1,h,aF=>by
  obtain ⟨x,l,J,aj,rfl⟩:=Df h;have aU:=Aq dM aj λe h=>aF e (by simp [h]);have gj:=aF (k,x) (by simp);by_cases e:Nat.beq k r=true
  ·have:=Nat.eq_of_beq_eq_true e;subst this;simp only [cV,if_true] at J;cases J;have:dp cs2:=⟨by cases gj with | obj h=>exact h⟩;exact .b rfl aU
  ·have:cf x:=⟨gj⟩;have e:=Bool.eq_false_iff.2 e;exact .n e (M4 e J) aU
theorem Ar {g g2:aK}{r:Nat}{cs2:List ab}:∀ {ks:List Nat}{G1:List (Nat × ab)},pick (cV g r (.obj cs2)) ks=some G1->lr g g2 r G1=true->la g g2 r cs2 G1
 | [],_,h,_=>by cases h; exact .nil
 | k::ks,G1,h,aF=>by
  obtain ⟨x,l,J,aj,rfl⟩:=Df h;obtain ⟨⟨q,j,cs,ku,rfl,h1,af,aI,bF,cG⟩,eh⟩:=Pl aF;exact .p h1 (M4 h1 J) af aI bF cG (Ar aj eh)
theorem FF {g g2:aK}{ex:List Nat}{T:List (Nat × ab)}(dM:mN ex g g2 T):∀ {ks:List Nat}{G1:List (Nat × ab)},pick g ks=some G1->(ks.all λk=>!ex.elem k)=true->(∀ e∈G1,cU e.2)->mN ex g g2 (G1++T)
 | [],_,h,_,_=>by cases h; exact dM
 | k::ks,G1,h,he,aF=>by
  obtain ⟨x,l,J,aj,rfl⟩:=Df h;rw [List.all_cons,Bool.and_eq_true] at he;have:cf x:=⟨aF (k,x) (by simp)⟩;exact .n (by simpa using he.1) J (FF dM aj he.2 λe h=>aF e (by simp [h]))
theorem FG {g g2:aK}{ex:List Nat}{r:Nat}:∀ {ks:List Nat}{G1:List (Nat × ab)},pick g ks=some G1->(ks.all λk=>!ex.elem k)=true->lr g g2 r G1=true->mN ex g g2 G1
 | [],_,h,_,_=>by cases h; exact .nil
 | k::ks,G1,h,he,aF=>by
  obtain ⟨x,l,J,aj,rfl⟩:=Df h;rw [List.all_cons,Bool.and_eq_true] at he;obtain ⟨⟨q,j,cs,ku,rfl,h1,af,aI,bF,cG⟩,eh⟩:=Pl aF;exact .p (by simpa using he.1) J bF cG (FG aj he.2 eh)
def rL:List (Nat × ab)->List (Nat × ab)->Option (List (Nat × ab))
 | [],T=>some T
 | p::l,T=>match rL l T with
  | some r=>some (p::r)
  | none=>none
theorem tz:∀ {l T r:List (Nat × ab)},rL l T=some r->r=l++T
 | [],_,_,h=>by cases h; rfl
 | p::l,T,r,h=>by
  unfold rL at h
  split at h
  ·rename_i dm ao;cases h; rw [tz ao]; rfl
  ·cases h
theorem rN {m:Option (List ab)}{ys:List ab}(h:m.bind lp=some ys):m=some ys:=by
 cases av:m with
 | none=>rw [av] at h; cases h
 | some c=>rw [av] at h; rw [xQ h]
theorem cK.mH {P:Program}{g:aK}{xs:List Operand}{gq:Array TypeId}{f:FuncId}{ys args:List ab}{outs:List (Option ab)}{res:ab}(J:(gp g xs).bind lp=some ys) (hv:oE g ys args) (gQ:bU P f args outs res) [ao:p6 res] (aW:gO P f=true:=by kernel_rfl) (a1:sj outs=true:=by rfl):cK P g (.call { callee:=.value (.func f),args:=xs.toArray,argTypes:=gq }) res:=cK.vw (rN J) hv gQ aW a1
def oz (ks hS:List Nat) (P:Program) (N:c5) (g:aK) (o:Oper) (g':aK):Prop:=bm P N g o g'
section
variable {α:Type}{P:Program}{N:c5}{ops:Array Oper}{g:aK}{K:aK->Prop}{l:List Oper}{d r k0 s:Nat}{ty t:TypeId}{pos:String}{after:Array Edge}{a b x:Operand}{cs cs' ju cs2:List ab}{y:ab}{G2 ij h6:List (Nat × ab)}{u:Option (Nat × Bool)}{p q:Place}{ks hS:List Nat}{en:bK α}{L M:List α}
theorem hX.gL (aP:Rd g a (.ptr ⟨r,[]⟩ k0):=by exact .q) (aB:g r=some (.obj cs):=by rfl) (av:Rd g b (.agg cs'):=by exact .q) (he:o1 cs k0 cs'=some cs2:=by rfl) (au:pick (cV g r (.obj cs2)) ks=some ij:=by rfl) (bg:pick (cV g r (.obj cs2)) hS=some h6:=by rfl) (c9:rL ij h6=some G2:=by rfl) (db:lr g (get G2) r h6=true:=by rfl) (aX:hs P t cs'.length=true:=by kernel_rfl) (aQ:Nat.blt 0 cs'.length=true:=by rfl) (ao:(get G2 r).isSome=true:=by rfl) [aF:dp cs'] [e8:dp cs] [aO:ix ij]:oz ks hS P N g ⟨none,.store t a b,ty,pos,after,none⟩ (get G2) :=
 .jh rfl rfl aB aP av rfl aX (Nat.ble_eq_true_of_le (lV he).2) aQ (lV he).1 ao (by have:=tz c9; subst this; exact Aq (Ar bg db) au aO.p)
theorem hX.nq (aP:Rd g a (.ptr ⟨r,[]⟩ k0):=by exact .q) (aB:g r=some (.obj cs):=by rfl) (av:Rd g b y:=by exact .q) (aa:oJ y=some [y]:=by rfl) (he:o1 cs k0 [y]=some cs2:=by rfl) (au:pick (cV g r (.obj cs2)) ks=some ij:=by rfl) (bg:pick (cV g r (.obj cs2)) hS=some h6:=by rfl) (c9:rL ij h6=some G2:=by rfl) (db:lr g (get G2) r h6=true:=by rfl) (aX:hs P t 1=true:=by kernel_rfl) (ao:(get G2 r).isSome=true:=by rfl) [aF:cf y] [e8:dp cs] [aO:ix ij]:oz ks hS P N g ⟨none,.store t a b,ty,pos,after,none⟩ (get G2) :=
 .jh rfl rfl aB aP av aa aX (Nat.ble_eq_true_of_le (lV he).2) rfl (lV he).1 ao (by have:=tz c9; subst this; exact Aq (Ar bg db) au aO.p)
theorem hX.jJ (J:Rd g x (.a6 en.z p L.length):=by exact .q) (au:bB g p=some (ak en L):=by rfl) (hk:pick g ks=some ij:=by rfl) (dq:(ks.all λk=>![p.root].elem k)=true:=by rfl) (bg:pick g hS=some h6:=by rfl) (c9:rL ij h6=some G2:=by rfl) (BT:(hS.all λk=>![p.root].elem k)=true:=by rfl) (db:lr g (get G2) 1000000 h6=true:=by rfl) (aO:get G2 d=none:=by rfl) (bc:N.ok d=true:=by rfl) [aF:ix ij]:oz ks hS P N g ⟨some d,.assign x,ty,pos,after,u⟩ (cV (get G2) d (ak en L)) :=
 .y3 rfl rfl J au (by have:=tz c9; subst this; exact FF (FG bg BT db) hk dq aF.p) aO bc
theorem hX.RF (J:Rd g x y:=by exact .q) (hk:pick g ks=some G2:=by rfl) (aO:get G2 d=none:=by rfl) (bc:N.ok d=true:=by rfl) [ax:cf y] [aF:ix G2]:oz ks hS P N g ⟨some d,.assign x,ty,pos,after,u⟩ (cV (get G2) d y) :=
 .A8 rfl rfl J (.f .nil) .refl (uC hk aF.p) aO bc
theorem hX.wG (J:Rd g x (.a6 en.z ⟨s,[]⟩ (L.length+M.length)):=by exact .q) (aB:g s=some (.bL en.z q L.length M.length (bo en M)):=by rfl) (au:bB g q=some (ak en L):=by rfl) (hk:pick g ks=some ij:=by rfl) (dq:(ks.all λk=>![s,q.root].elem k)=true:=by rfl) (I1:pick g hS=some h6:=by rfl) (c9:rL ij h6=some G2:=by rfl) (BT:(hS.all λk=>![s,q.root].elem k)=true:=by rfl) (db:lr g (get G2) 1000000 h6=true:=by rfl) (bg:Nat.beq q.root s=false:=by rfl) (aO:get G2 d=none:=by rfl) (bc:N.ok d=true:=by rfl) [aF:ix ij]:oz ks hS P N g ⟨some d,.assign x,ty,pos,after,u⟩ (cV (get G2) d (ak en (L++M))) :=
 .LK rfl rfl J aB au bg (by have:=tz c9; subst this; exact FF (FG I1 BT db) hk dq aF.p) aO bc
theorem hX.rB {jk y2:α}{m:Int}{o:Nat}{eB x2 y0:ab}(aP:Rd g a (.ptr p (m.toNat * en.z+o)):=by exact .q) (au:bB g p=some (ak en L):=by rfl) (h:idx L m=some jk:=by assumption) (av:Rd g b y:=by exact .q) (aa:oJ y=some cs':=by rfl) (he:e5 (en.cells jk) o cs'=en.cells y2:=by rfl) (iF:cu g p (ak en (L.set m.toNat y2)) p.root=some eB:=by rfl) (iu:Fo eB=some x2:=by rfl) (hk:pick (cV g p.root x2) ks=some G2:=by rfl) (aX:hs P t cs'.length=true:=by kernel_rfl) (hlen:Nat.ble (o+cs'.length) en.z=true:=by rfl) (aQ:Nat.blt 0 cs'.length=true:=by rfl) (ao:(get G2 p.root).isSome=true:=by rfl) (rf:g p.root=some y0:=by rfl) [aF:cf y] [e8:cf y0] [aO:ix G2]:oz ks hS P N g ⟨none,.store t a b,ty,pos,after,none⟩ (get G2) :=
 .te rfl rfl aP av au h aX aa he hlen aQ (by rw [iF,O8 iu]) ao rf (Kp hk aO.p)
theorem hX.Qa {g1:aK}{bw:ab}(av:Rd g b y) (aw:e7 g [y] [bw] g1) (aP:Rd g a (.ptr ⟨r,[]⟩ k0):=by exact .q) (aa:oJ bw=some cs':=by rfl) (aB:g1 r=some (.obj ju):=by rfl) (he:o1 ju k0 cs'=some cs2:=by rfl) (hk:pick (cV g1 r (.obj cs2)) ks=some ij:=by rfl) (fW:pick (cV g1 r (.obj cs2)) hS=some h6:=by rfl) (c9:rL ij h6=some G2:=by rfl) (db:lr g1 (get G2) r h6=true:=by rfl) (aX:hs P t cs'.length=true:=by kernel_rfl) (aQ:Nat.blt 0 cs'.length=true:=by rfl) (ao:(get G2 r).isSome=true:=by rfl) [e8:dp ju] [aO:ix ij]:oz ks hS P N g ⟨none,.store t a b,ty,pos,after,none⟩ (get G2) :=
 .pX rfl rfl aP av aw .refl aa aX aB (Nat.ble_eq_true_of_le (lV he).2) aQ (lV he).1 ao (by have:=tz c9; subst this; exact Aq (Ar fW db) hk aO.p)
theorem hX.mO {g1:aK}{bw:ab}(av:Rd g x y) (aw:e7 g [y] [bw] g1) (hk:pick g1 ks=some G2:=by rfl) (aO:get G2 d=none:=by rfl) (bc:N.ok d=true:=by rfl) [aF:ix G2]:oz ks hS P N g ⟨some d,.assign x,ty,pos,after,u⟩ (cV (get G2) d bw) :=
 .A8 rfl rfl av aw .refl (uC hk aF.p) aO bc
theorem hX.D5 {M2:List α}{s2:Nat}(J:Rd g x (.a6 en.z ⟨s,[]⟩ (L.length+M2.length+M.length)):=by exact .q) (aB:g s=some (.bL en.z ⟨s2,[]⟩ (L.length+M2.length) M.length (bo en M)):=by rfl) (ln:g s2=some (.bL en.z q L.length M2.length (bo en M2)):=by rfl) (au:bB g q=some (ak en L):=by rfl) (bg:Nat.beq q.root s=false:=by rfl) (ug:Nat.beq q.root s2=false:=by rfl) (B8:Nat.beq s s2=false:=by rfl) (hk:pick g ks=some ij:=by rfl) (dq:(ks.all λk=>![s,s2,q.root].elem k)=true:=by rfl) (I1:pick g hS=some h6:=by rfl) (c9:rL ij h6=some G2:=by rfl) (BT:(hS.all λk=>![s,s2,q.root].elem k)=true:=by rfl) (db:lr g (get G2) 1000000 h6=true:=by rfl) (aO:get G2 d=none:=by rfl) (bc:N.ok d=true:=by rfl) [aF:ix ij]:oz ks hS P N g ⟨some d,.assign x,ty,pos,after,u⟩ (cV (get G2) d (ak en (L++M2++M))) :=
 .Ru rfl rfl J aB ln au bg ug B8 (by have:=tz c9; subst this; exact FF (FG I1 BT db) hk dq aF.p) aO bc
theorem hX.sp (av:Rd g b (.a6 en.z ⟨s,[]⟩ (L.length+M.length)):=by exact .q) (qo:g s=some (.bL en.z q L.length M.length (bo en M)):=by rfl) (au:bB g q=some (ak en L):=by rfl) (aP:Rd g a (.ptr ⟨r,[]⟩ k0):=by exact .q) (aB:cu (cu g ⟨s,[]⟩ .dead) q .dead r=some (.obj ju):=by rfl) (he:o1 ju k0 [ak en (L++M)]=some cs2:=by rfl) (hk:pick (cV (cu (cu g ⟨s,[]⟩ .dead) q .dead) r (.obj cs2)) ks=some ij:=by rfl) (fW:pick (cV (cu (cu g ⟨s,[]⟩ .dead) q .dead) r (.obj cs2)) hS=some h6:=by rfl) (c9:rL ij h6=some G2:=by rfl) (db:lr (cu (cu g ⟨s,[]⟩ .dead) q .dead) (get G2) r h6=true:=by rfl) (bg:Nat.beq q.root s=false:=by rfl) (aX:hs P t 1=true:=by kernel_rfl) (ao:(get G2 r).isSome=true:=by rfl) [e8:dp ju] [aO:ix ij]:oz ks hS P N g ⟨none,.store t a b,ty,pos,after,none⟩ (get G2) :=
 .F9 rfl rfl aP av qo au bg .kE .h2 rfl rfl aX aB (Nat.ble_eq_true_of_le (lV he).2) (lV he).1 ao (by have:=tz c9; subst this; exact Aq (Ar fW db) hk aO.p)
theorem hX.tf (av:Rd g b (.a6 en.z p L.length):=by exact .q) (au:bB g p=some (ak en L):=by rfl) (aP:Rd g a (.ptr ⟨r,[]⟩ k0):=by exact .q) (aB:cu g p .dead r=some (.obj ju):=by rfl) (he:o1 ju k0 [ak en L]=some cs2:=by rfl) (hk:pick (cV (cu g p .dead) r (.obj cs2)) ks=some ij:=by rfl) (fW:pick (cV (cu g p .dead) r (.obj cs2)) hS=some h6:=by rfl) (c9:rL ij h6=some G2:=by rfl) (db:lr (cu g p .dead) (get G2) r h6=true:=by rfl) (aX:hs P t 1=true:=by kernel_rfl) (ao:(get G2 r).isSome=true:=by rfl) [e8:dp ju] [aO:ix ij]:oz ks hS P N g ⟨none,.store t a b,ty,pos,after,none⟩ (get G2) :=
 .pX rfl rfl aP av (.r au .nil) .refl rfl aX aB (Nat.ble_eq_true_of_le (lV he).2) rfl (lV he).1 ao (by have:=tz c9; subst this; exact Aq (Ar fW db) hk aO.p)
end
def Ff:Nat->List (Option ab)->Option (Nat × List ab)
 | _,[]=>none
 | k,some (.obj cs)::_=>some (k,cs)
 | k,none::l=>Ff (k+1) l
 | _,_=>none
def JS (g:aK) (xs:List Operand) (k:Nat):Option Nat :=
 match xs[k]? with
 | some (.tmp t)=>match g t with
  | some (.ptr ⟨r,[]⟩ 0)=>some r
  | some (.obj _)=>some t
  | _=>none
 | _=>none
theorem hX.nh {P:Program}{N:c5}{g:aK}{d r k0:Nat}{ty:TypeId}{pos:String}{after:Array Edge}{u:Option (Nat × Bool)}{f:FuncId}{xs:List Operand}{gq:Array TypeId}{ys args cs cs':List ab}{outs:List (Option ab)}{res:ab}{ks:List Nat}{G2:List (Nat × ab)}
  (gQ:bU P f args outs res) (aj:Ff 0 outs=some (k0,cs')) (ao:JS g xs k0=some r) (au:pick (cu g ⟨r,[]⟩ .dead) ks=some G2) (J:(gp g xs).bind lp=some ys) (aP:nr r cs k0 0 ys args) (aB:g r=some (.obj cs):=by rfl) (he:outs=uw args.length k0 (.obj cs'):=by rfl) (lO:Nat.blt k0 ys.length=true:=by rfl) (aW:gO P f=true:=by kernel_rfl) (aO:get G2 d=none:=by rfl) (r7:Nat.beq r d=false:=by rfl) (B1:pick (get ((r,.obj cs')::G2)) ks=some G2:=by rfl) (bc:N.ok d=true:=by rfl) [e8:dp cs] [ed:cf res] [BU:dp cs'] [aF:ix G2] :
  bm P N g ⟨some d,.call { callee:=.value (.func f),args:=xs.toArray,argTypes:=gq },ty,pos,after,u⟩ (get ((d,res)::(r,.obj cs')::G2)) :=
 .call rfl bc (hM.nh (A:=[]) rfl rfl (rN J) aB aP lO (he ▸ gQ) aW (uC au aF.p) aO r7 (uC B1 aF.p) .nil bc)
def q1:Acc->List (Nat × ab)->List (Nat × ab)
 | [],G=>G
 | (_,d,some x)::acc,G=>(d,x)::q1 acc G
 | (_,_,none)::acc,G=>q1 acc G
def cO (ef:List Nat) (P:Program) (N:c5) (ops:Array Oper) (bd:List (List Nat)) (g0:aK) (i:Nat) (acc:Acc) (l:List Oper) (K:aK->Prop):Prop:=bz P N ops bd g0 i acc l K
section
variable {α β:Type}{P:Program}{N:c5}{ops:Array Oper}{bd:List (List Nat)}{acc:Acc}{E ks:List Nat}{t x y z:lC}{A B c:Code}{G G1 G2:List (Nat × ab)}{g:aK}{g':aK}{Φ ox:Exit->aK->Prop}{Ψ:aK->Prop}{K:aK->Prop}{id k s d i bG j cT:Nat}{b cD:Bool}{l:List Oper}{o:Oper}{op:Op}{ty yu:TypeId}{pos:String}{after:Array Edge}{v y':ab}{u:Option (Nat × Bool)}{a aD a2:Operand}
theorem cM.YH (h:cM E t P N .ret G Φ):cM E t P N .ret G Φ:=h
theorem ar.ts (h:ar P N ops (⟨none,.store ty aD a2,yu,pos,after,u⟩::l) g K):ar P N ops (⟨none,.store ty aD a2,yu,pos,after,u⟩::l) g K:=h
theorem cO.ts {ef:List Nat}(h:cO ef P N ops bd g i acc (⟨none,.store ty aD a2,yu,pos,after,u⟩::l) K):cO ef P N ops bd g i acc (⟨none,.store ty aD a2,yu,pos,after,u⟩::l) K:=h
theorem cO.bO (op:Op) (u:Option (Nat × Bool)) {ef:List Nat}(h:cO ef P N ops bd g i acc (⟨some d,op,ty,pos,after,u⟩::l) K):cO ef P N ops bd g i acc (⟨some d,op,ty,pos,after,u⟩::l) K:=h
theorem cO.nl {ef:List Nat}(h:cO ef P N ops bd g i acc [] K):cO ef P N ops bd g i acc [] K:=h
def FN (g:aK) (d:Nat):Operand->Option ab
 | .tmp t=>bif Nat.beq t d then none else FO g t
 | .const v=>FM g (.const v)
 | _=>none
theorem Rd.pR {g:aK}{a:Operand}{y:ab}(h:FN g d a=some y):Rd (del g d) a y:=by
 unfold FN at h
 split at h
 ·rename_i t;cases av:Nat.beq t d with
  | true=>rw [av] at h; cases h
  | false =>
   rw [av] at h;have dq:t≠d:=Nat.ne_of_beq_eq_false av;refine Rd.Au ?_;unfold FO at h ⊢;simpa [del,dq] using h
 ·exact .q (by unfold FM at h ⊢; exact h)
 ·cases h
theorem Rm {y':ab}(J:FN (get G) d a=some v) (aW:get G d=some y') (aj:leaf y'=true) (hk:ar P N ops l (get ((d,v)::G)) K) (bc:N.ok d=true:=by rfl):ar P N ops (⟨some d,.assign a,ty,pos,after,none⟩::l) (get G) K:=.over (.assign (Rd.pR J).br) bc aW aj (pn ▸ hk)
theorem Rn {y':ab}(J:FN (get G) d a=some v) (aW:get G d=some y') (aj:leaf y'=true) (hk:ar P N ops l (get ((d,v)::G)) K) (bc:N.ok d=true:=by rfl):ar P N ops (⟨some d,.move a,ty,pos,after,none⟩::l) (get G) K:=.over (.move (Rd.pR J).br) bc aW aj (pn ▸ hk)
theorem Q9 {hS:List Nat}(lO:sX [] G=some ks) (hh:Cq G [] [] G=some hS) (he:oz ks hS P N (get G) o (get G2)) (hk:ar P N ops l (get G2) K) (aO:o.guard=none:=by rfl):ar P N ops (o::l) (get G) K:=.kS aO he hk
theorem Q7 {f:FuncId}{xs:List Operand}{gq:Array TypeId}{ys args cs cs':List ab}{outs:List (Option ab)}{res:ab}{r k0:Nat}(gQ:bU P f args outs res) (aj:Ff 0 outs=some (k0,cs')) (ao:JS (get G) xs k0=some r) (hk:sX [r,d] G=some ks) (au:pick (cu (get G) ⟨r,[]⟩ .dead) ks=some G2) (J:(gp (get G) xs).bind lp=some ys) (aP:nr r cs k0 0 ys args) (di:ar P N ops l (get ((d,res)::(r,.obj cs')::G2)) K) (aB:get G r=some (.obj cs):=by rfl) (he:outs=uw args.length k0 (.obj cs'):=by rfl) (lO:Nat.blt k0 ys.length=true:=by rfl) (aW:gO P f=true:=by kernel_rfl) (aO:get G2 d=none:=by rfl) (r7:Nat.beq r d=false:=by rfl) (B1:pick (get ((r,.obj cs')::G2)) ks=some G2:=by rfl) (bc:N.ok d=true:=by rfl) [e8:dp cs] [ed:cf res] [BU:dp cs'] [aF:ix G2] :
  ar P N ops (⟨some d,.call { callee:=.value (.func f),args:=xs.toArray,argTypes:=gq },ty,pos,after,none⟩::l) (get G) K:=.kS rfl (hX.nh gQ aj ao au J aP aB he lO aW aO r7 B1 bc) di
theorem Q0 {ef:List Nat}{f:FuncId}{xs:List Operand}{gq:Array TypeId}{ys args cs cs':List ab}{outs:List (Option ab)}{res:ab}{r k0:Nat}(gQ:bU P f args outs res) (aj:Ff 0 outs=some (k0,cs')) (ao:JS (dg (get G) (λ_=>true) acc) xs k0=some r) (hk:sX [r,d] (q1 acc G)=some ks) (au:pick (cu (dg (get G) (λ_=>true) acc) ⟨r,[]⟩ .dead) ks=some G2) (J:(gp (dg (get G) (λ_=>true) acc) xs).bind lp=some ys) (aP:nr r cs k0 0 ys args) (di:cO ef P N ops bd (get ((d,res)::(r,.obj cs')::G2)) (bG+1) [] l K) (aB:dg (get G) (λ_=>true) acc r=some (.obj cs):=by rfl) (he:outs=uw args.length k0 (.obj cs'):=by rfl) (lO:Nat.blt k0 ys.length=true:=by rfl) (aW:gO P f=true:=by kernel_rfl) (aO:get G2 d=none:=by rfl) (r7:Nat.beq r d=false:=by rfl) (B1:pick (get ((r,.obj cs')::G2)) ks=some G2:=by rfl) (bc:N.ok d=true:=by rfl) [e8:dp cs] [ed:cf res] [BU:dp cs'] [aF:ix G2] (gR:ri ((acc.filterMap j2).map Place.root)=true:=by rfl) (fI:l' G=true:=by rfl) (ah:Nat.beq ops.size (bG+l.length+1)=true:=by rfl)
  (zo:(List.range bG).all (λk=>(bd.getD bG []).contains k)=true:=by kernel_rfl) (av:(List.range ops.size).all (λk=>Nat.ble k bG||(bd.getD k []).contains bG)=true:=by kernel_rfl) :
  cO (bG::ef) P N ops bd (get G) i acc (⟨some d,.call { callee:=.value (.func f),args:=xs.toArray,argTypes:=gq },ty,pos,after,none⟩::l) K:=bz.wN bG (hX.nh gQ aj ao au J aP aB he lO aW aO r7 B1 bc) rfl gR fI ah zo av di
theorem Q8 {hS:List Nat}(lO:sX (d::roots G a) G=some ks) (hh:Cq G (d::roots G a) [] G=some hS) (he:oz ks hS P N (get G) ⟨some d,.assign a,ty,pos,after,none⟩ (cV (get G2) d v)) (hk:ar P N ops l (get ((d,v)::G2)) K):ar P N ops (⟨some d,.assign a,ty,pos,after,none⟩::l) (get G) K:=.q5 rfl he (pn ▸ hk)
theorem Rj {L:List α}{f:List α->Option β}{KD:β}{M:List α}{e dy bC:Nat}{hj:TypeId}{parts:Array (Nat × Operand)}{ys:List ab}{en:bK α}(h:(c' L M).bind f=some KD) [het:hB P hj α en] [aw:eo P hj e bC] (hk:ar P N ops l (get ((d,ag en M)::G)) K) (J:(gp (get G) (parts.toList.map (·.2))).bind lp=some ys:=by rfl) (aa:mm ys=some (bo en M):=by rfl) (aX:ys.all (λy=>match jT y with | some c=>Nat.beq c.length en.z | none=>false)=true:=by rfl) (au:parts.toList=(parts.toList.map (·.2)).mapIdx (λi x=>(i,x)):=by rfl) (kA:(parts.toList.map (·.2)).length=dy:=by rfl) (aj:M.length=dy:=by rfl) (nG:bC=en.z:=by rfl) (hzero:ie P e en.z=true:=by kernel_rfl) (av:Nat.ble (dy * en.z) 16777216=true:=by rfl) (gW:Nat.ble dy 16777216=true:=by rfl) [hv:ja (ak en M) (ag en M)] (bc:N.ok d=true:=by rfl) (aW:get G d=none:=by rfl):ar P N ops (⟨some d,.buildSlice hj dy parts,ty,pos,after,none⟩::l) (get G) K :=
 .fi (O.df en M (nG ▸ aw.p) (rN J) aa aX au kA aj hzero av gW) bc aW .none (pn ▸ hk)
theorem LJ (M:List α) {e dy bC:Nat}{hj:TypeId}{parts:Array (Nat × Operand)}{ys:List ab}{en:bK α}(aB:we d l=false) [het:hB P hj α en] [aw:eo P hj e bC] (hk:ar P N ops l (get ((d,ak en M)::G)) K) (J:(gp (get G) (parts.toList.map (·.2))).bind lp=some ys:=by rfl) (aa:mm ys=some (bo en M):=by rfl) (aX:ys.all (λy=>match jT y with | some c=>Nat.beq c.length en.z | none=>false)=true:=by rfl) (au:parts.toList=(parts.toList.map (·.2)).mapIdx (λi x=>(i,x)):=by rfl) (kA:(parts.toList.map (·.2)).length=dy:=by rfl) (aj:M.length=dy:=by rfl) (nG:bC=en.z:=by rfl) (hzero:ie P e en.z=true:=by kernel_rfl) (av:Nat.ble (dy * en.z) 16777216=true:=by rfl) (gW:Nat.ble dy 16777216=true:=by rfl) (bc:N.ok d=true:=by rfl) (aW:get G d=none:=by rfl):ar P N ops (⟨some d,.buildSlice hj dy parts,ty,pos,after,none⟩::l) (get G) K :=
 ez (O.df en M (nG ▸ aw.p) (rN J) aa aX au kA aj hzero av gW) hk bc aW
theorem Rk {M:List α}{e dy bC:Nat}{hj:TypeId}{parts:Array (Nat × Operand)}{ys:List ab}{en:bK α}(aB:we d l=true) [het:hB P hj α en] [aw:eo P hj e bC] (hk:ar P N ops l (get ((d,ag en M)::G)) K) (J:(gp (get G) (parts.toList.map (·.2))).bind lp=some ys:=by rfl) [aS:o_ en ys M] (au:parts.toList=(parts.toList.map (·.2)).mapIdx (λi x=>(i,x)):=by rfl) (kA:(parts.toList.map (·.2)).length=dy:=by rfl) (aj:ys.length=dy:=by rfl) (nG:bC=en.z:=by rfl) (hzero:ie P e en.z=true:=by kernel_rfl) (av:Nat.ble (dy * en.z) 16777216=true:=by rfl) (gW:Nat.ble dy 16777216=true:=by rfl) [hv:ja (ak en M) (ag en M)] (bc:N.ok d=true:=by rfl) (aW:get G d=none:=by rfl):ar P N ops (⟨some d,.buildSlice hj dy parts,ty,pos,after,none⟩::l) (get G) K :=
 .fi (O.df en M (nG ▸ aw.p) (rN J) aS.p.1 aS.p.2.1 au kA (aS.p.2.2.trans aj) hzero av gW) bc aW .none (pn ▸ hk)
theorem Rl {M:List α}{e dy bC:Nat}{hj:TypeId}{parts:Array (Nat × Operand)}{ys:List ab}{en:bK α}(aB:we d l=false) [het:hB P hj α en] [aw:eo P hj e bC] (hk:ar P N ops l (get ((d,ak en M)::G)) K) (J:(gp (get G) (parts.toList.map (·.2))).bind lp=some ys:=by rfl) [aS:o_ en ys M] (au:parts.toList=(parts.toList.map (·.2)).mapIdx (λi x=>(i,x)):=by rfl) (kA:(parts.toList.map (·.2)).length=dy:=by rfl) (aj:ys.length=dy:=by rfl) (nG:bC=en.z:=by rfl) (hzero:ie P e en.z=true:=by kernel_rfl) (av:Nat.ble (dy * en.z) 16777216=true:=by rfl) (gW:Nat.ble dy 16777216=true:=by rfl) (bc:N.ok d=true:=by rfl) (aW:get G d=none:=by rfl):ar P N ops (⟨some d,.buildSlice hj dy parts,ty,pos,after,none⟩::l) (get G) K :=
 ez (O.df en M (nG ▸ aw.p) (rN J) aS.p.1 aS.p.2.1 au kA (aS.p.2.2.trans aj) hzero av gW) hk bc aW
theorem ey {ef:List Nat}(au:ch P (jC bd g bG acc) op ty v) (hk:cO ef P N ops bd g i ((bG,d,some v)::acc) l K) (ah:Nat.beq ops.size (bG+l.length+1)=true:=by rfl) (aW:g d=none:=by rfl) (aF:acc.all (λe=>!Nat.beq e.2.1 d)=true:=by rfl) (bc:N.ok d=true:=by rfl):cO (bG::ef) P N ops bd g i acc (⟨some d,op,ty,pos,after,none⟩::l) K:=aE _ au hk ah aW aF bc
theorem eG {ef:List Nat}(au:ch P (jC bd g bG acc) op ty v) (hk:cO ef P N ops bd g i ((bG,d,some v)::acc) l K) (h:(ops[j]?).bind (·.dst)=some cT:=by rfl) (aO:jC bd g bG acc cT=some (.lit (.bool cD)):=by rfl) (av:cD=b:=by (first | rfl | assumption)) (ah:Nat.beq ops.size (bG+l.length+1)=true:=by rfl) (aW:g d=none:=by rfl) (aF:acc.all (λe=>!Nat.beq e.2.1 d)=true:=by rfl) (bc:N.ok d=true:=by rfl):cO (bG::ef) P N ops bd g i acc (⟨some d,op,ty,pos,after,some (j,b)⟩::l) K:=.v _ au ah aW aF bc (.fr h aO av) hk
theorem Ll {ef:List Nat}(au:cK P (jC bd g bG acc) op v) (hk:cO ef P N ops bd g i ((bG,d,some v)::acc) l K) (ah:Nat.beq ops.size (bG+l.length+1)=true:=by rfl) (aW:g d=none:=by rfl) (aF:acc.all (λe=>!Nat.beq e.2.1 d)=true:=by rfl) (bc:N.ok d=true:=by rfl):cO (bG::ef) P N ops bd g i acc (⟨some d,op,ty,pos,after,none⟩::l) K:=.c _ au ah aW aF bc .none hk
theorem Lk {ef:List Nat}(au:cK P (jC bd g bG acc) op v) (hk:cO ef P N ops bd g i ((bG,d,some v)::acc) l K) (h:(ops[j]?).bind (·.dst)=some cT:=by rfl) (aO:jC bd g bG acc cT=some (.lit (.bool cD)):=by rfl) (av:cD=b:=by (first | rfl | assumption)) (ah:Nat.beq ops.size (bG+l.length+1)=true:=by rfl) (aW:g d=none:=by rfl) (aF:acc.all (λe=>!Nat.beq e.2.1 d)=true:=by rfl) (bc:N.ok d=true:=by rfl):cO (bG::ef) P N ops bd g i acc (⟨some d,op,ty,pos,after,some (j,b)⟩::l) K:=.c _ au ah aW aF bc (.fr h aO av) hk
theorem Q4 {ef:List Nat}(hk:cO ef P N ops bd g i ((bG,d,some (.bV []))::acc) l K) (h:(ops[j]?).bind (·.dst)=some cT:=by rfl) (aO:jC bd g bG acc cT=some (.lit (.bool cD)):=by rfl) (av:cD=!b:=by (first | rfl | assumption)) (ah:Nat.beq ops.size (bG+l.length+1)=true:=by rfl) (aW:g d=none:=by rfl) (aF:acc.all (λe=>!Nat.beq e.2.1 d)=true:=by rfl) (bc:N.ok d=true:=by rfl):cO (bG::ef) P N ops bd g i acc (⟨some d,op,ty,pos,after,some (j,b)⟩::l) K:=.ps _ h aO av ah aW aF bc hk
theorem Q6 {ef:List Nat}(hk:cO ef P N ops bd g i ((bG,d,some (.bV []))::acc) l K) (h:(ops[j]?).bind (·.dst)=some cT:=by rfl) (aO:jC bd g bG acc cT=some (.bV []):=by rfl) (ah:Nat.beq ops.size (bG+l.length+1)=true:=by rfl) (aW:g d=none:=by rfl) (aF:acc.all (λe=>!Nat.beq e.2.1 d)=true:=by rfl) (bc:N.ok d=true:=by rfl):cO (bG::ef) P N ops bd g i acc (⟨some d,op,ty,pos,after,some (j,b)⟩::l) K:=.pu _ h aO ah aW aF bc hk
theorem QY {ef:List Nat}{L:List α}{f:List α->Option β}{KD:β}{M:List α}{e dy bC:Nat}{hj:TypeId}{parts:Array (Nat × Operand)}{ys:List ab}{en:bK α}(h:(c' L M).bind f=some KD) [het:hB P hj α en] [aw:eo P hj e bC] (hk:cO ef P N ops bd g i ((bG,d,some (ag en M))::acc) l K) (J:(gp (jC bd g bG acc) (parts.toList.map (·.2))).bind lp=some ys:=by rfl) (aa:mm ys=some (bo en M):=by rfl) (aX:ys.all (λy=>match jT y with | some c=>Nat.beq c.length en.z | none=>false)=true:=by rfl) (au:parts.toList=(parts.toList.map (·.2)).mapIdx (λi x=>(i,x)):=by rfl) (kA:(parts.toList.map (·.2)).length=dy:=by rfl) (aj:M.length=dy:=by rfl) (nG:bC=en.z:=by rfl) (hzero:ie P e en.z=true:=by kernel_rfl) (av:Nat.ble (dy * en.z) 16777216=true:=by rfl) (gW:Nat.ble dy 16777216=true:=by rfl) [hv:ja (ak en M) (ag en M)] (ah:Nat.beq ops.size (bG+l.length+1)=true:=by rfl) (aW:g d=none:=by rfl) (aF:acc.all (λe=>!Nat.beq e.2.1 d)=true:=by rfl) (bc:N.ok d=true:=by rfl):cO (bG::ef) P N ops bd g i acc (⟨some d,.buildSlice hj dy parts,ty,pos,after,none⟩::l) K :=
 bz.fi bG (O.df en M (nG ▸ aw.p) (rN J) aa aX au kA aj hzero av gW) ah aW aF bc .none hk
theorem Q5 {ef:List Nat}(M:List α) {e dy bC:Nat}{hj:TypeId}{parts:Array (Nat × Operand)}{ys:List ab}{en:bK α}(aB:we d l=true) [het:hB P hj α en] [aw:eo P hj e bC] (hk:cO ef P N ops bd g i ((bG,d,some (ag en M))::acc) l K) (J:(gp (jC bd g bG acc) (parts.toList.map (·.2))).bind lp=some ys:=by rfl) (aa:mm ys=some (bo en M):=by rfl) (aX:ys.all (λy=>match jT y with | some c=>Nat.beq c.length en.z | none=>false)=true:=by rfl) (au:parts.toList=(parts.toList.map (·.2)).mapIdx (λi x=>(i,x)):=by rfl) (kA:(parts.toList.map (·.2)).length=dy:=by rfl) (aj:M.length=dy:=by rfl) (nG:bC=en.z:=by rfl) (hzero:ie P e en.z=true:=by kernel_rfl) (av:Nat.ble (dy * en.z) 16777216=true:=by rfl) (gW:Nat.ble dy 16777216=true:=by rfl) [hv:ja (ak en M) (ag en M)] (ah:Nat.beq ops.size (bG+l.length+1)=true:=by rfl) (aW:g d=none:=by rfl) (aF:acc.all (λe=>!Nat.beq e.2.1 d)=true:=by rfl) (bc:N.ok d=true:=by rfl):cO (bG::ef) P N ops bd g i acc (⟨some d,.buildSlice hj dy parts,ty,pos,after,none⟩::l) K :=
 bz.fi bG (O.df en M (nG ▸ aw.p) (rN J) aa aX au kA aj hzero av gW) ah aW aF bc .none hk
theorem Lm {ef:List Nat}(M:List α) {e dy bC:Nat}{hj:TypeId}{parts:Array (Nat × Operand)}{ys:List ab}{en:bK α}(aB:we d l=false) [het:hB P hj α en] [aw:eo P hj e bC] (hk:cO ef P N ops bd g i ((bG,d,some (ak en M))::acc) l K) (J:(gp (jC bd g bG acc) (parts.toList.map (·.2))).bind lp=some ys:=by rfl) (aa:mm ys=some (bo en M):=by rfl) (aX:ys.all (λy=>match jT y with | some c=>Nat.beq c.length en.z | none=>false)=true:=by rfl) (au:parts.toList=(parts.toList.map (·.2)).mapIdx (λi x=>(i,x)):=by rfl) (kA:(parts.toList.map (·.2)).length=dy:=by rfl) (aj:M.length=dy:=by rfl) (nG:bC=en.z:=by rfl) (hzero:ie P e en.z=true:=by kernel_rfl) (av:Nat.ble (dy * en.z) 16777216=true:=by rfl) (gW:Nat.ble dy 16777216=true:=by rfl) (ah:Nat.beq ops.size (bG+l.length+1)=true:=by rfl) (aW:g d=none:=by rfl) (aF:acc.all (λe=>!Nat.beq e.2.1 d)=true:=by rfl) (bc:N.ok d=true:=by rfl):cO (bG::ef) P N ops bd g i acc (⟨some d,.buildSlice hj dy parts,ty,pos,after,none⟩::l) K :=
 ey (O.df en M (nG ▸ aw.p) (rN J) aa aX au kA aj hzero av gW) hk ah aW aF bc
theorem QZ {ef:List Nat}{M:List α}{e dy bC:Nat}{hj:TypeId}{parts:Array (Nat × Operand)}{ys:List ab}{en:bK α}(aB:we d l=true) [het:hB P hj α en] [aw:eo P hj e bC] (hk:cO ef P N ops bd g i ((bG,d,some (ag en M))::acc) l K) (J:(gp (jC bd g bG acc) (parts.toList.map (·.2))).bind lp=some ys:=by rfl) [aS:o_ en ys M] (au:parts.toList=(parts.toList.map (·.2)).mapIdx (λi x=>(i,x)):=by rfl) (kA:(parts.toList.map (·.2)).length=dy:=by rfl) (aj:ys.length=dy:=by rfl) (nG:bC=en.z:=by rfl) (hzero:ie P e en.z=true:=by kernel_rfl) (av:Nat.ble (dy * en.z) 16777216=true:=by rfl) (gW:Nat.ble dy 16777216=true:=by rfl) [hv:ja (ak en M) (ag en M)] (ah:Nat.beq ops.size (bG+l.length+1)=true:=by rfl) (aW:g d=none:=by rfl) (aF:acc.all (λe=>!Nat.beq e.2.1 d)=true:=by rfl) (bc:N.ok d=true:=by rfl):cO (bG::ef) P N ops bd g i acc (⟨some d,.buildSlice hj dy parts,ty,pos,after,none⟩::l) K :=
 bz.fi bG (O.df en M (nG ▸ aw.p) (rN J) aS.p.1 aS.p.2.1 au kA (aS.p.2.2.trans aj) hzero av gW) ah aW aF bc .none hk
theorem Q2 {ef:List Nat}{M:List α}{e dy bC:Nat}{hj:TypeId}{parts:Array (Nat × Operand)}{ys:List ab}{en:bK α}(aB:we d l=false) [het:hB P hj α en] [aw:eo P hj e bC] (hk:cO ef P N ops bd g i ((bG,d,some (ak en M))::acc) l K) (J:(gp (jC bd g bG acc) (parts.toList.map (·.2))).bind lp=some ys:=by rfl) [aS:o_ en ys M] (au:parts.toList=(parts.toList.map (·.2)).mapIdx (λi x=>(i,x)):=by rfl) (kA:(parts.toList.map (·.2)).length=dy:=by rfl) (aj:ys.length=dy:=by rfl) (nG:bC=en.z:=by rfl) (hzero:ie P e en.z=true:=by kernel_rfl) (av:Nat.ble (dy * en.z) 16777216=true:=by rfl) (gW:Nat.ble dy 16777216=true:=by rfl) (ah:Nat.beq ops.size (bG+l.length+1)=true:=by rfl) (aW:g d=none:=by rfl) (aF:acc.all (λe=>!Nat.beq e.2.1 d)=true:=by rfl) (bc:N.ok d=true:=by rfl):cO (bG::ef) P N ops bd g i acc (⟨some d,.buildSlice hj dy parts,ty,pos,after,none⟩::l) K :=
 ey (O.df en M (nG ▸ aw.p) (rN J) aS.p.1 aS.p.2.1 au kA (aS.p.2.2.trans aj) hzero av gW) hk ah aW aF bc
theorem Q3 {ef:List Nat}{hS:List Nat}(lO:sX [] (q1 acc G)=some ks) (hh:Cq (q1 acc G) [] [] (q1 acc G)=some hS) (he:oz ks hS P N (dg (get G) (λ_=>true) acc) o (get G2)) (hk:cO ef P N ops bd (get G2) (bG+1) [] l K) (aO:o.guard=none:=by rfl) (gR:ri ((acc.filterMap j2).map Place.root)=true:=by rfl) (fI:l' G=true:=by rfl) (ah:Nat.beq ops.size (bG+l.length+1)=true:=by rfl)
  (aP:(List.range bG).all (λk=>(bd.getD bG []).contains k)=true:=by kernel_rfl) (av:(List.range ops.size).all (λk=>Nat.ble k bG||(bd.getD k []).contains bG)=true:=by kernel_rfl):cO (bG::ef) P N ops bd (get G) i acc (o::l) K:=.wN _ he aO gR fI ah aP av hk
theorem Q1 {ef:List Nat}{hS:List Nat}(lO:sX (d::roots (q1 acc G) a) (q1 acc G)=some ks) (hh:Cq (q1 acc G) (d::roots (q1 acc G) a) [] (q1 acc G)=some hS) (he:oz ks hS P N (dg (get G) (λ_=>true) acc) ⟨some d,.assign a,ty,pos,after,none⟩ (cV (get G2) d v)) (hk:cO ef P N ops bd (get ((d,v)::G2)) (bG+1) [] l K) (gR:ri ((acc.filterMap j2).map Place.root)=true:=by rfl) (fI:l' G=true:=by rfl) (ah:Nat.beq ops.size (bG+l.length+1)=true:=by rfl)
  (aP:(List.range bG).all (λk=>(bd.getD bG []).contains k)=true:=by kernel_rfl) (av:(List.range ops.size).all (λk=>Nat.ble k bG||(bd.getD k []).contains bG)=true:=by kernel_rfl):cO (bG::ef) P N ops bd (get G) i acc (⟨some d,.assign a,ty,pos,after,none⟩::l) K:=.bv _ he rfl gR fI ah aP av hk
theorem bz.MH {K:aK->Prop}(aX:acc.filterMap j2=[]) (fI:l' G=true) (hi:Nat.ble i ops.size=true) (di:K (dg (get G) (λ_=>true) acc)):bz P N ops bd (get G) i acc [] K:=by
 intro dW j cn kW lj;have ah:j=ops.size:=by
  have h1:ops.size<=j:=by
   have:=congrArg List.length lj;rw [List.length_drop,List.length_nil,Array.length_toList] at this;omega
  have aI:j<=ops.size:=by
   cases kW with
   | nil=>exact Nat.le_of_ble_eq_true hi
   | step _ a1=>have:=(Array.getElem?_eq_some_iff.1 a1).1; omega
  omega
 subst ah;exact ⟨_,.fin kW (by rw [aX]; exact List.nodup_nil) (vK fI),di⟩
theorem QX {ef:List Nat}{DL:lC->List (Nat × ab)->Prop}(lO:JO E [] (q1 acc G)=some ks) (au:pick (dg (get G) (λ_=>true) acc) ks=some G1) [aF:ix G1] (hk:DL t G1) (aX:acc.filterMap j2=[]:=by rfl) (fI:l' G=true:=by rfl) (hi:Nat.ble i ops.size=true:=by rfl):cO ef P N ops bd (get G) i acc [] (yQ E t DL) :=
 .MH aX fI hi ⟨G1,(uC (c:=true) (g2:=get G1) au aF.p).eX,hk⟩
theorem QW {ef:List Nat}{F:α->List (Nat × ab)}{j v:α}(h:some v=some j) (aw:Trim true (dg (get G) (λ_=>true) acc) (get (F v)) (F v)) (aX:acc.filterMap j2=[]:=by rfl) (fI:l' G=true:=by rfl) (hi:Nat.ble i ops.size=true:=by rfl):cO ef P N ops bd (get G) i acc [] (rG F j .normal):=by
 cases h; exact .MH aX fI hi ⟨rfl,.eX aw.eX .h2⟩
theorem cM.rd [hm:AU P] (h:cO num P N l.toArray bd (get G) 0 [] l (yQ E y λt G1=>cM E t P N B G1 Φ)) (er:pg l.toArray bd=true:=by kernel_rfl):cM E (.rd id bd y) P N (.seq (.region id l.toArray true) B) G Φ:=by
 obtain ⟨g',h1,G1,af,aI⟩:=h [] 0 .nil .nil (by simp);exact W.seq ((gi.draw hm.p er h1).w (W.weaken af aI))
theorem cM.bX {m:Option α}{f:α->Option β}{r:β}{L c8:α->List (Nat × ab)} [hm:AU P] (h:m.bind f=some r) (h1:∀ j,m=some j->cO num P N l.toArray bd (get G) 0 [] l (rG c8 j .normal)) (af:∀ j,m=some j->f j=some r->cM E y P N B (c8 j) Φ)
  (aN:∀ j,pick (pR (L j) G) ks=some (c8 j):=by intro j; rfl) (er:pg l.toArray bd=true:=by kernel_rfl):cM E (.bX id bd ks L y) P N (.seq (.region id l.toArray true) B) G Φ:=by
 obtain ⟨j,ah,h⟩:=lb h;obtain ⟨g',cy,_,fH⟩:=h1 j ah [] 0 .nil .nil (by simp);exact W.seq ((gi.draw hm.p er cy).w (W.be (af j ah h) fH))
theorem cM.Yu [hm:AU P] (h:cO num P N l.toArray bd (get G) 0 [] l (yQ E y λt G1=>ep E t .normal Φ G1)) (er:pg l.toArray bd=true:=by kernel_rfl):cM E (.rd id bd y) P N (.region id l.toArray true) G Φ:=by
 obtain ⟨g',h1,G1,af,aI⟩:=h [] 0 .nil .nil (by simp);exact (gi.draw hm.p er h1).w (aI g' (.eX af .h2))
theorem cM.Yz {m:Option α}{f:α->Option β}{r:β}{L c8:α->List (Nat × ab)} [hm:AU P] (h:m.bind f=some r) (h1:∀ j,m=some j->cO num P N l.toArray bd (get G) 0 [] l (rG c8 j .normal)) (af:∀ j,m=some j->f j=some r->ep E y .normal Φ (c8 j))
  (aN:∀ j,pick (pR (L j) G) ks=some (c8 j):=by intro j; rfl) (er:pg l.toArray bd=true:=by kernel_rfl):cM E (.bX id bd ks L y) P N (.region id l.toArray true) G Φ:=by
 obtain ⟨j,ah,h⟩:=lb h;obtain ⟨g',cy,_,fH⟩:=h1 j ah [] 0 .nil .nil (by simp);exact (gi.draw hm.p er cy).w (af j ah h _ fH)
theorem cM.Yy {m:Option α}{f:α->Option β}{r:β}{L c8:α->List (Nat × ab)}(h:m.bind f=some r) (h1:∀ j,m=some j->ar P N l.toArray l (get G) (rG c8 j .normal)) (af:∀ j,m=some j->f j=some r->ep E y .normal Φ (c8 j))
  (aN:∀ j,pick (pR (L j) G) ks=some (c8 j):=by intro j; rfl):cM E (.ei id ks L y) P N (.region id l.toArray false) G Φ:=by
 obtain ⟨j,ah,h⟩:=lb h;exact W.AA λi hi=>by
  obtain ⟨g',cy,_,fH⟩:=h1 j ah i hi;exact ⟨g',cy,af j ah h _ fH⟩
theorem cM.gn {S R hc:Type}{f:S->Option (S ⊕ (R ⊕ hc))}{s:S}{HM:R ⊕ hc->Option β}{r:β}{F c8:S->List (Nat × ab)}{ks sh Cr:List Nat}{X mj:R->List (Nat × ab)}{Y tv:hc->List (Nat × ab)}(h:(b2 f s).bind HM=some r)
  (av:∀ s o,f s=some o->cM E x P N c (c8 s) (k' c8 (AY id mj tv) o)) (J:∀ dm,HM (.inl dm)=some r->ep E y (.exit id) Φ (mj dm)) (ax:∀ dm,HM (.inr dm)=some r->ep E z .ret Φ (tv dm))
  (aN:∀ s,pick (pR (F s) G) ks=some (c8 s):=by intro s; rfl) (tQ:∀ s,pick (pR (X s) G) sh=some (mj s):=by intro s; rfl) (w6:∀ s,pick (pR (Y s) G) Cr=some (tv s):=by intro s; rfl) (aw:Trim true (get G) (get (c8 s)) (c8 s):=by (repeat' first | exact .nil | refine .n rfl ?_ | refine .w rfl rfl .pP ?_ | refine .w rfl rfl .pO ?_ | refine .w rfl rfl (j'.obj (by (repeat' first | exact .nil | refine .f ?_ | refine .o ?_ | refine .i ?_))) ?_)) :
  cM E (.gn F ks id X sh Y Cr x y z) P N (.loop c) G Φ:=by
 obtain ⟨dm,aj,h⟩:=lb h;exact W.dD aw (W.OW c8 id mj tv aj av (λq e=>J q (e ▸ h)) (λq e=>ax q (e ▸ h)))
theorem ep.x2 {S R hc:Type}{r:R}{o:S ⊕ (R ⊕ hc)}{F:S->List (Nat × ab)}{X:R->List (Nat × ab)}{Y:hc->List (Nat × ab)}(h:some (.inr (.inl r))=some o) (aw:Trim true (get G) (get (X r)) (X r)):ep E t (.exit id) (k' F (AY id X Y) o) G:=by
 cases h; exact aC.x2 aw
theorem ep.lx {S R hc:Type}{r:hc}{o:S ⊕ (R ⊕ hc)}{F:S->List (Nat × ab)}{X:R->List (Nat × ab)}{Y:hc->List (Nat × ab)}(h:some (.inr (.inr r))=some o) (aw:Trim true (get G) (get (Y r)) (Y r)):ep E t .ret (k' F (AY id X Y) o) G:=by
 cases h; exact aC.lx aw
end
section
variable {P:Program}{N:c5}{E:List Nat}{t x y z:lC}{A B c:Code}{G:List (Nat × ab)}{Φ:Exit->aK->Prop}{id k s:Nat}{o:Operand}
theorem j_.dO {α:Type}{en:bK α}{i:Option Nat}(h:cM E (.dO id s i en y) P N c G Φ):cM E (.dO id s i en y) P N c G Φ:=h
theorem j_.sC {α:Type}{en:bK α}{i:Option Nat}(h:cM E (.sC s i en y) P N c G Φ):cM E (.sC s i en y) P N c G Φ:=h
theorem j_.ei {α:Type}{ks:List Nat}{L:α->List (Nat × ab)}(h:cM E (.ei id ks L y) P N c G Φ):cM E (.ei id ks L y) P N c G Φ:=h
theorem j_.bX {α:Type}{bd:List (List Nat)}{ks:List Nat}{L:α->List (Nat × ab)}(h:cM E (.bX id bd ks L y) P N c G Φ):cM E (.bX id bd ks L y) P N c G Φ:=h
theorem j_.rd {bd:List (List Nat)}(h:cM E (.rd id bd y) P N c G Φ):cM E (.rd id bd y) P N c G Φ:=h
theorem j_.bE (h:cM E t P N (.cond o A B) G Φ):cM E t P N (.cond o A B) G Φ:=h
theorem j_.eO (h:cM E t P N (.loop A) G Φ):cM E t P N (.loop A) G Φ:=h
theorem j_.JJ {α:Type}{ks:List Nat}{L:α->List (Nat × ab)}(h:cM E (.dA ks L x y) P N (.block id A) G Φ):cM E (.dA ks L x y) P N (.block id A) G Φ:=h
theorem j_.rg {ops:Array Oper}{b:Bool}(h:cM E t P N (.region id ops b) G Φ):cM E t P N (.region id ops b) G Φ:=h
theorem j_.Yf {S R:Type}{F:S->List (Nat × ab)}{Ψ:R->Exit->aK->Prop}{o:S ⊕ R}{e:Exit}(h:ep E t e (k' F Ψ o) G):ep E t e (k' F Ψ o) G:=h
theorem j_.Yi {α:Type}{F:α->List (Nat × ab)}{j:α}{e:Exit}(h:ep E t e (rG F j) G):ep E t e (rG F j) G:=h
theorem j_.R_ (h:ep E t (.exit k) (l_ id Φ) G):ep E t (.exit k) (l_ id Φ) G:=h
theorem j_.Ye {rs:List ResultVar}{n:Nat}{outs:List (Option ab)}{res:ab}{e:Exit}(h:ep E t e (p5 P N rs n outs res) G):ep E t e (p5 P N rs n outs res) G:=h
end
section
variable {P:Program}{N:c5}{E:List Nat}{t:lC}{G:List (Nat × ab)}{g':aK}{rs:List ResultVar}{ys xs:List ab}{res:ab}{outs:List (Option ab)}{n:Nat}
theorem j7.Mu {g w3:aK}{s z:Nat}{hj:TypeId}{cs ys0:List ab}{rs:List ResultVar}{ys xs:List ab}(h:g s=some (.obj cs)) [aw:ko P hj z] (aX:cs.length=z) (aQ:Nat.blt 0 z=true) (ax:yg (λi x=>gw 0 ⟨s,[i]⟩ x) 0 num cs=some ys0) (hk:nu s g 0 ys0 cs w3) (ao:j7 P w3 rs ys xs g'):j7 P g (.cell s hj::rs) (.agg ys0::ys) (.agg cs::xs) g':=.c h aw.p aX aQ (by have:=Dm ax; simpa using this) hk ao
theorem ep.eR (h:j7 P (get G) rs ys xs g':=by (repeat' first | exact .nil | (apply j7.f rfl rfl) | (apply j7.o rfl) | (apply j7.Mu rfl rfl rfl rfl) | (apply nu.f rfl) | (apply nu.o rfl))) (he:qF xs=res:=by rfl) (a1:qV g' N.pins 0 outs:=by (repeat' first | exact .nil | refine .no ?_ | refine .aq rfl rfl ?_)) (fp:(rs.filterMap fun | .cell t _=>some t | _=>none).Nodup:=by exact of_decide_eq_true (by kernel_rfl)) (aj:outs.length=n:=by rfl):ep E t .ret (p5 P N rs n outs res) G:=i' h he a1 fp aj
theorem ep.fn (h:j7 P (get G) rs ys xs g':=by (repeat' first | exact .nil | (apply j7.f rfl rfl) | (apply j7.o rfl) | (apply j7.Mu rfl rfl rfl rfl) | (apply nu.f rfl) | (apply nu.o rfl))) (he:qF xs=res:=by rfl) (a1:qV g' N.pins 0 outs:=by (repeat' first | exact .nil | refine .no ?_ | refine .aq rfl rfl ?_)) (fp:(rs.filterMap fun | .cell t _=>some t | _=>none).Nodup:=by exact of_decide_eq_true (by kernel_rfl)) (aj:outs.length=n:=by rfl):ep E t .normal (p5 P N rs n outs res) G:=aC.fin (Fin.ro h he fp a1 aj (.inl rfl))
set_option maxRecDepth 1000000 in
/-- The walk: what it meets it does. -/
theorem dF {p:Prop}(h:p:=by
(repeat' (first
 | ((with_reducible apply ar.bO _ none); first
  | ((with_reducible apply ar.bO (.move _) none); first | refine ez (O.aZ .q) ?_)
  | ((with_reducible apply ar.bO (.assign (.const _)) none); first | refine ez (O.az .q) ?_)
  | ((with_reducible apply ar.bO (.assign (.tmp _)) none); first | refine ez (O.az .Au) ?_)
  | ((with_reducible apply ar.bO (.load _ _) none); first | refine ez (O.ic) ?_ | refine ez (O.hA) ?_ | refine ez (O.AI) ?_ | refine ez (O.AJ) ?_ | refine ez (O.Gi) ?_ | refine ez (O.Gm) ?_ | refine ez (O.Gx) ?_)
  | ((with_reducible apply ar.bO (.fieldAddr _ _ _) none); first | refine ez (O.Ge) ?_ | refine ez (O.Gf) ?_ | refine ez (O.wf) ?_)
  | ((with_reducible apply ar.bO (.indexAddr _ _ _) none); first | refine aM h λx J h=>ez (O.Gh J) ?_ | refine aM h λx J h=>ez (O.yx J) ?_ | refine ez (O.eX) ?_ | refine ez (O.Gn) ?_)
  | ((with_reducible apply ar.bO (.binOp .add _ _ _ _) none); first | refine ez (O.add .q .q) ?_ | refine aM h λx J h=>ez (O.cat .q .q J) ?_)
  | ((with_reducible apply ar.bO (.binOp .sub _ _ _ _) none); first | refine ez (O.sub .q .q) ?_)
  | ((with_reducible apply ar.bO (.binOp .mul _ _ _ _) none); first | refine ez (O.mul .q .q) ?_)
  | ((with_reducible apply ar.bO (.binOp .lss _ _ _ _) none); first | refine ez (O.lss .q .q) ?_)
  | ((with_reducible apply ar.bO (.binOp .leq _ _ _ _) none); first | refine ez (O.leq .q .q) ?_)
  | ((with_reducible apply ar.bO (.binOp .gtr _ _ _ _) none); first | refine ez (O.gtr .q .q) ?_)
  | ((with_reducible apply ar.bO (.binOp .geq _ _ _ _) none); first | refine ez (O.geq .q .q) ?_)
  | ((with_reducible apply ar.bO (.binOp .eql _ _ _ _) none); first | refine ez (O.eql .q .q) ?_ | refine ez (O.qg .q .q) ?_ | refine ez (O.Ej .q .q (by kernel_rfl)) ?_ | refine ez (O.ov) ?_)
  | ((with_reducible apply ar.bO (.binOp .neq _ _ _ _) none); first | refine ez (O.neq .q .q) ?_ | refine ez (O.oo .q .q) ?_ | refine ez (O.wn) ?_)
  | ((with_reducible apply ar.bO (.binOp .quo _ _ _ _) none); first | refine aM h λx J h=>ez (O.quo .q .q J) ?_ | refine aM h λx J h=>ez (O.rp .q .q J) ?_)
  | ((with_reducible apply ar.bO (.binOp .rem _ _ _ _) none); first | refine aM h λx J h=>ez (O.rem .q .q J) ?_ | refine aM h λx J h=>ez (O.ru .q .q J) ?_)
  | ((with_reducible apply ar.bO (.unOp .not _ _) none); first | refine ez (O.not .q) ?_)
  | ((with_reducible apply ar.bO (.unOp .neg _ _) none); first | refine ez (O.neg .q) ?_)
  | ((with_reducible apply ar.bO (.pick _ _ _) none); first | refine ez (O.hU .q (by first | rfl | assumption) .q) ?_ | refine ez (O.dB .q (by first | rfl | assumption) .q) ?_)
  | ((with_reducible apply ar.bO (.nilCheck _) none); first | refine ez (O.eT .q) ?_ | refine ez (O.xR .q) ?_)
  | ((with_reducible apply ar.bO (.index _ _ _) none); first | refine aM h λx J h=>ez (O.ml .q .q iY.p J) ?_)
  | ((with_reducible apply ar.bO (.extract _ _) none); first | refine ez (O.Gv) ?_)
  | ((with_reducible apply ar.bO (.convert _ _ _) none); first | refine ez (O.Gl) ?_ | refine ez (O.Gk) ?_)
  | ((with_reducible apply ar.bO (.box _ _) none); first | refine ez (O.Gc) ?_)
  | ((with_reducible apply ar.bO (.alloc _) none); first | refine ez (O.Gj) ?_)
  | ((with_reducible apply ar.bO (.build _ _) none); first | refine ez (O.Gu) ?_)
  | ((with_reducible apply ar.bO (.field _ _ _) none); first | refine ez (O.wd) ?_)
  | ((with_reducible apply ar.bO (.makeSlice _ _ _) none); first | refine aM h λx J h=>ez (O.Gp J) ?_ | refine aM h λx J h=>ez (O.Gw J) ?_)
  | ((with_reducible apply ar.bO (.buildSlice _ 0 #[]) none); first | refine ez (O.wl) ?_)
  | ((with_reducible apply ar.bO (.makeFunc _ _ _) none); first | refine ez (O.zP rfl) ?_)
  | ((with_reducible apply ar.bO (.slice _ _ _ _ _) none); first | refine aM h λx J h=>ez (O.yo .q .q .q iY.p J) ?_ | refine aM h λx J h=>ez (O.F2 .q .q iY.p J) ?_ | refine aM h λx J h=>ez (O.F3 .q .q iY.p J) ?_ | refine aM h λx J h=>ez (O.Gt J) ?_ | refine aM h λx J h=>ez (O.Gr J) ?_ | refine aM h λx J h=>ez (O.Gs J) ?_)
  | ((with_reducible apply ar.bO (.call { callee:=.builtin .len,args:=#[_],argTypes:=#[_] }) none); first | refine ez (O.kC .q eo.p) ?_ | refine ez (O.mB .q eo.p) ?_ | refine ez (O.uv .q iY.p) ?_)
  | ((with_reducible apply ar.bO (.call { callee:=.builtin .append,args:=#[_,_],argTypes:=#[_,_] }) none); first | refine aM h λx J h=>ez (O.wp J) ?_ | refine aM h λx J h=>ez (O.Gq J) ?_ | refine aM h λx J h=>ez (O.Gd J) ?_ | refine aM h λx J h=>ez (O.wr J) ?_)
  | ((with_reducible apply ar.bO (.call { callee:=.value _,args:=_,argTypes:=_ }) none); first | (refine aM h λx J h=>LH (cK.fC ?_ (bD.go J)) ?_; · (repeat' first | exact .nil | refine .cD .q ?_)) | (refine aM h λx J h=>LH (cK.mH rfl ?_ (bD.go J)) ?_; · (repeat' first | exact .nil | refine .s ?_ | refine .c (View.nS rfl rfl) ?_ | refine .c (.row rfl) ?_ | refine .c (View.mO ?_) ?_ | refine .c (View.cl ?_) ?_)) | (refine aM h λx J h=>Q7 (bD.go J) rfl rfl rfl rfl rfl (by repeat' first | exact .nil | refine .b rfl ?_ | refine .n rfl ?_) ?_))
  | ((with_reducible apply ar.bO (.buildSlice _ _ _) none); first | refine Rj h ?_ | refine Rk rfl ?_ | refine Rl rfl ?_ | refine LJ [_] rfl ?_ | refine LJ [_,_] rfl ?_)
  | ((with_reducible apply ar.bO (.assign _) none); refine Rm rfl rfl rfl ?_)
  | ((with_reducible apply ar.bO (.move _) none); refine Rn rfl rfl rfl ?_)
  | ((with_reducible apply ar.bO (.move _) none); first | refine GQ rfl rfl (O.aZ .q) ?_)
  | ((with_reducible apply ar.bO (.assign (.const _)) none); first | refine GQ rfl rfl (O.az .q) ?_)
  | ((with_reducible apply ar.bO (.assign (.tmp _)) none); first | refine GQ rfl rfl (O.az .Au) ?_)
  | ((with_reducible apply ar.bO (.assign (.tmp _)) none); refine Q8 rfl rfl (by first | exact hX.jJ | exact hX.wG | exact hX.D5 | exact hX.mO .q (by repeat' first | exact e7.nil | (apply e7.f) | (apply e7.r rfl) | (apply e7.mO) | (apply e7.b rfl))) ?_))
 | ((with_reducible apply ar.ts); refine Q9 rfl rfl (by first | exact hX.gL | exact hX.nq | exact hX.tf | exact hX.sp | exact hX.rB | exact hX.Qa .q (by repeat' first | exact e7.nil | (apply e7.f) | (apply e7.r rfl) | (apply e7.mO) | (apply e7.b rfl))) ?_)
 | ((with_reducible apply ar.bO _ (some _)); first
  | refine qR ?_
  | refine Rb ?_
  | ((with_reducible apply ar.bO (.move _) (some _)); first | refine eH (O.aZ .q) ?_)
  | ((with_reducible apply ar.bO (.assign (.const _)) (some _)); first | refine eH (O.az .q) ?_)
  | ((with_reducible apply ar.bO (.assign (.tmp _)) (some _)); first | refine eH (O.az .Au) ?_)
  | ((with_reducible apply ar.bO (.load _ _) (some _)); first | refine eH (O.ic) ?_ | refine eH (O.hA) ?_ | refine eH (O.AI) ?_ | refine eH (O.AJ) ?_ | refine eH (O.Gi) ?_ | refine eH (O.Gm) ?_ | refine eH (O.Gx) ?_)
  | ((with_reducible apply ar.bO (.fieldAddr _ _ _) (some _)); first | refine eH (O.Ge) ?_ | refine eH (O.Gf) ?_ | refine eH (O.wf) ?_)
  | ((with_reducible apply ar.bO (.indexAddr _ _ _) (some _)); first | refine aM h λx J h=>eH (O.Gh J) ?_ | refine aM h λx J h=>eH (O.yx J) ?_ | refine eH (O.eX) ?_ | refine eH (O.Gn) ?_)
  | ((with_reducible apply ar.bO (.binOp .add _ _ _ _) (some _)); first | refine eH (O.add .q .q) ?_ | refine aM h λx J h=>eH (O.cat .q .q J) ?_)
  | ((with_reducible apply ar.bO (.binOp .sub _ _ _ _) (some _)); first | refine eH (O.sub .q .q) ?_)
  | ((with_reducible apply ar.bO (.binOp .mul _ _ _ _) (some _)); first | refine eH (O.mul .q .q) ?_)
  | ((with_reducible apply ar.bO (.binOp .lss _ _ _ _) (some _)); first | refine eH (O.lss .q .q) ?_)
  | ((with_reducible apply ar.bO (.binOp .leq _ _ _ _) (some _)); first | refine eH (O.leq .q .q) ?_)
  | ((with_reducible apply ar.bO (.binOp .gtr _ _ _ _) (some _)); first | refine eH (O.gtr .q .q) ?_)
  | ((with_reducible apply ar.bO (.binOp .geq _ _ _ _) (some _)); first | refine eH (O.geq .q .q) ?_)
  | ((with_reducible apply ar.bO (.binOp .eql _ _ _ _) (some _)); first | refine eH (O.eql .q .q) ?_ | refine eH (O.qg .q .q) ?_ | refine eH (O.Ej .q .q (by kernel_rfl)) ?_ | refine eH (O.ov) ?_)
  | ((with_reducible apply ar.bO (.binOp .neq _ _ _ _) (some _)); first | refine eH (O.neq .q .q) ?_ | refine eH (O.oo .q .q) ?_ | refine eH (O.wn) ?_)
  | ((with_reducible apply ar.bO (.binOp .quo _ _ _ _) (some _)); first | refine aM h λx J h=>eH (O.quo .q .q J) ?_ | refine aM h λx J h=>eH (O.rp .q .q J) ?_)
  | ((with_reducible apply ar.bO (.binOp .rem _ _ _ _) (some _)); first | refine aM h λx J h=>eH (O.rem .q .q J) ?_ | refine aM h λx J h=>eH (O.ru .q .q J) ?_)
  | ((with_reducible apply ar.bO (.unOp .not _ _) (some _)); first | refine eH (O.not .q) ?_)
  | ((with_reducible apply ar.bO (.unOp .neg _ _) (some _)); first | refine eH (O.neg .q) ?_)
  | ((with_reducible apply ar.bO (.pick _ _ _) (some _)); first | refine eH (O.hU .q (by first | rfl | assumption) .q) ?_ | refine eH (O.dB .q (by first | rfl | assumption) .q) ?_)
  | ((with_reducible apply ar.bO (.nilCheck _) (some _)); first | refine eH (O.eT .q) ?_ | refine eH (O.xR .q) ?_)
  | ((with_reducible apply ar.bO (.index _ _ _) (some _)); first | refine aM h λx J h=>eH (O.ml .q .q iY.p J) ?_)
  | ((with_reducible apply ar.bO (.extract _ _) (some _)); first | refine eH (O.Gv) ?_)
  | ((with_reducible apply ar.bO (.convert _ _ _) (some _)); first | refine eH (O.Gl) ?_ | refine eH (O.Gk) ?_)
  | ((with_reducible apply ar.bO (.box _ _) (some _)); first | refine eH (O.Gc) ?_)
  | ((with_reducible apply ar.bO (.alloc _) (some _)); first | refine eH (O.Gj) ?_)
  | ((with_reducible apply ar.bO (.build _ _) (some _)); first | refine eH (O.Gu) ?_)
  | ((with_reducible apply ar.bO (.field _ _ _) (some _)); first | refine eH (O.wd) ?_)
  | ((with_reducible apply ar.bO (.makeSlice _ _ _) (some _)); first | refine aM h λx J h=>eH (O.Gp J) ?_ | refine aM h λx J h=>eH (O.Gw J) ?_)
  | ((with_reducible apply ar.bO (.buildSlice _ 0 #[]) (some _)); first | refine eH (O.wl) ?_)
  | ((with_reducible apply ar.bO (.makeFunc _ _ _) (some _)); first | refine eH (O.zP rfl) ?_)
  | ((with_reducible apply ar.bO (.slice _ _ _ _ _) (some _)); first | refine aM h λx J h=>eH (O.yo .q .q .q iY.p J) ?_ | refine aM h λx J h=>eH (O.F2 .q .q iY.p J) ?_ | refine aM h λx J h=>eH (O.F3 .q .q iY.p J) ?_ | refine aM h λx J h=>eH (O.Gt J) ?_ | refine aM h λx J h=>eH (O.Gr J) ?_ | refine aM h λx J h=>eH (O.Gs J) ?_)
  | ((with_reducible apply ar.bO (.call { callee:=.builtin .len,args:=#[_],argTypes:=#[_] }) (some _)); first | refine eH (O.kC .q eo.p) ?_ | refine eH (O.mB .q eo.p) ?_ | refine eH (O.uv .q iY.p) ?_)
  | ((with_reducible apply ar.bO (.call { callee:=.builtin .append,args:=#[_,_],argTypes:=#[_,_] }) (some _)); first | refine aM h λx J h=>eH (O.wp J) ?_ | refine aM h λx J h=>eH (O.Gq J) ?_ | refine aM h λx J h=>eH (O.Gd J) ?_ | refine aM h λx J h=>eH (O.wr J) ?_)
  | ((with_reducible apply ar.bO (.call { callee:=.value _,args:=_,argTypes:=_ }) (some _)); first | (refine aM h λx J h=>Ls (cK.fC ?_ (bD.go J)) ?_; · (repeat' first | exact .nil | refine .cD .q ?_)) | (refine aM h λx J h=>Ls (cK.mH rfl ?_ (bD.go J)) ?_; · (repeat' first | exact .nil | refine .s ?_ | refine .c (View.nS rfl rfl) ?_ | refine .c (.row rfl) ?_ | refine .c (View.mO ?_) ?_ | refine .c (View.cl ?_) ?_)))
  | refine Hm h (λav h=>?_) (λav h=>?_))
 | ((with_reducible apply ar.nl); first | refine GK rfl rfl ?_ | refine Q_ h (by (repeat' first | exact .nil | refine .n rfl ?_ | refine .w rfl rfl .pP ?_ | refine .w rfl rfl .pO ?_ | refine .w rfl rfl (j'.obj (by (repeat' first | exact .nil | refine .f ?_ | refine .o ?_ | refine .i ?_))) ?_)))
 | ((with_reducible apply cO.bO _ none); first
  | ((with_reducible apply cO.bO (.move _) none); first | refine ey (O.aZ .q) ?_)
  | ((with_reducible apply cO.bO (.assign (.const _)) none); first | refine ey (O.az .q) ?_)
  | ((with_reducible apply cO.bO (.assign (.tmp _)) none); first | refine ey (O.az .Au) ?_)
  | ((with_reducible apply cO.bO (.load _ _) none); first | refine ey (O.ic) ?_ | refine ey (O.hA) ?_ | refine ey (O.AI) ?_ | refine ey (O.AJ) ?_ | refine ey (O.Gi) ?_ | refine ey (O.Gm) ?_ | refine ey (O.Gx) ?_)
  | ((with_reducible apply cO.bO (.fieldAddr _ _ _) none); first | refine ey (O.Ge) ?_ | refine ey (O.Gf) ?_ | refine ey (O.wf) ?_)
  | ((with_reducible apply cO.bO (.indexAddr _ _ _) none); first | refine aM h λx J h=>ey (O.Gh J) ?_ | refine aM h λx J h=>ey (O.yx J) ?_ | refine ey (O.eX) ?_ | refine ey (O.Gn) ?_)
  | ((with_reducible apply cO.bO (.binOp .add _ _ _ _) none); first | refine ey (O.add .q .q) ?_ | refine aM h λx J h=>ey (O.cat .q .q J) ?_)
  | ((with_reducible apply cO.bO (.binOp .sub _ _ _ _) none); first | refine ey (O.sub .q .q) ?_)
  | ((with_reducible apply cO.bO (.binOp .mul _ _ _ _) none); first | refine ey (O.mul .q .q) ?_)
  | ((with_reducible apply cO.bO (.binOp .lss _ _ _ _) none); first | refine ey (O.lss .q .q) ?_)
  | ((with_reducible apply cO.bO (.binOp .leq _ _ _ _) none); first | refine ey (O.leq .q .q) ?_)
  | ((with_reducible apply cO.bO (.binOp .gtr _ _ _ _) none); first | refine ey (O.gtr .q .q) ?_)
  | ((with_reducible apply cO.bO (.binOp .geq _ _ _ _) none); first | refine ey (O.geq .q .q) ?_)
  | ((with_reducible apply cO.bO (.binOp .eql _ _ _ _) none); first | refine ey (O.eql .q .q) ?_ | refine ey (O.qg .q .q) ?_ | refine ey (O.Ej .q .q (by kernel_rfl)) ?_ | refine ey (O.ov) ?_)
  | ((with_reducible apply cO.bO (.binOp .neq _ _ _ _) none); first | refine ey (O.neq .q .q) ?_ | refine ey (O.oo .q .q) ?_ | refine ey (O.wn) ?_)
  | ((with_reducible apply cO.bO (.binOp .quo _ _ _ _) none); first | refine aM h λx J h=>ey (O.quo .q .q J) ?_ | refine aM h λx J h=>ey (O.rp .q .q J) ?_)
  | ((with_reducible apply cO.bO (.binOp .rem _ _ _ _) none); first | refine aM h λx J h=>ey (O.rem .q .q J) ?_ | refine aM h λx J h=>ey (O.ru .q .q J) ?_)
  | ((with_reducible apply cO.bO (.unOp .not _ _) none); first | refine ey (O.not .q) ?_)
  | ((with_reducible apply cO.bO (.unOp .neg _ _) none); first | refine ey (O.neg .q) ?_)
  | ((with_reducible apply cO.bO (.pick _ _ _) none); first | refine ey (O.hU .q (by first | rfl | assumption) .q) ?_ | refine ey (O.dB .q (by first | rfl | assumption) .q) ?_)
  | ((with_reducible apply cO.bO (.nilCheck _) none); first | refine ey (O.eT .q) ?_ | refine ey (O.xR .q) ?_)
  | ((with_reducible apply cO.bO (.index _ _ _) none); first | refine aM h λx J h=>ey (O.ml .q .q iY.p J) ?_)
  | ((with_reducible apply cO.bO (.extract _ _) none); first | refine ey (O.Gv) ?_)
  | ((with_reducible apply cO.bO (.convert _ _ _) none); first | refine ey (O.Gl) ?_ | refine ey (O.Gk) ?_)
  | ((with_reducible apply cO.bO (.box _ _) none); first | refine ey (O.Gc) ?_)
  | ((with_reducible apply cO.bO (.alloc _) none); first | refine ey (O.Gj) ?_)
  | ((with_reducible apply cO.bO (.build _ _) none); first | refine ey (O.Gu) ?_)
  | ((with_reducible apply cO.bO (.field _ _ _) none); first | refine ey (O.wd) ?_)
  | ((with_reducible apply cO.bO (.makeSlice _ _ _) none); first | refine aM h λx J h=>ey (O.Gp J) ?_ | refine aM h λx J h=>ey (O.Gw J) ?_)
  | ((with_reducible apply cO.bO (.buildSlice _ 0 #[]) none); first | refine ey (O.wl) ?_)
  | ((with_reducible apply cO.bO (.makeFunc _ _ _) none); first | refine ey (O.zP rfl) ?_)
  | ((with_reducible apply cO.bO (.slice _ _ _ _ _) none); first | refine aM h λx J h=>ey (O.yo .q .q .q iY.p J) ?_ | refine aM h λx J h=>ey (O.F2 .q .q iY.p J) ?_ | refine aM h λx J h=>ey (O.F3 .q .q iY.p J) ?_ | refine aM h λx J h=>ey (O.Gt J) ?_ | refine aM h λx J h=>ey (O.Gr J) ?_ | refine aM h λx J h=>ey (O.Gs J) ?_)
  | ((with_reducible apply cO.bO (.call { callee:=.builtin .len,args:=#[_],argTypes:=#[_] }) none); first | refine ey (O.kC .q eo.p) ?_ | refine ey (O.mB .q eo.p) ?_ | refine ey (O.uv .q iY.p) ?_)
  | ((with_reducible apply cO.bO (.call { callee:=.builtin .append,args:=#[_,_],argTypes:=#[_,_] }) none); first | refine aM h λx J h=>ey (O.wp J) ?_ | refine aM h λx J h=>ey (O.Gq J) ?_ | refine aM h λx J h=>ey (O.Gd J) ?_ | refine aM h λx J h=>ey (O.QH J) ?_)
  | ((with_reducible apply cO.bO (.call { callee:=.value _,args:=_,argTypes:=_ }) none); first | (refine aM h λx J h=>Ll (cK.fC ?_ (bD.go J)) ?_; · (repeat' first | exact .nil | refine .cD .q ?_)) | (refine aM h λx J h=>Ll (cK.mH rfl ?_ (bD.go J)) ?_; · (repeat' first | exact .nil | refine .s ?_ | refine .c (View.nS rfl rfl) ?_ | refine .c (.row rfl) ?_ | refine .c (View.mO ?_) ?_ | refine .c (View.cl ?_) ?_)) | (refine aM h λx J h=>Q0 (bD.go J) rfl rfl rfl rfl rfl (by repeat' first | exact .nil | refine .b rfl ?_ | refine .n rfl ?_) ?_))
  | ((with_reducible apply cO.bO (.buildSlice _ _ _) none); first | refine QY h ?_ | refine QZ rfl ?_ | refine Q2 rfl ?_ | refine Q5 [_,_] rfl ?_ | refine Lm [_] rfl ?_ | refine Lm [_,_] rfl ?_)
  | ((with_reducible apply cO.bO (.assign _) none); refine Q1 rfl rfl (by first | exact hX.jJ | exact hX.wG | exact hX.D5 | exact hX.RF | exact hX.mO .q (by repeat' first | exact e7.nil | (apply e7.f) | (apply e7.r rfl) | (apply e7.mO) | (apply e7.b rfl))) ?_))
 | ((with_reducible apply cO.ts); refine Q3 rfl rfl (by first | exact hX.gL | exact hX.nq | exact hX.tf | exact hX.sp | exact hX.rB | exact hX.Qa .q (by repeat' first | exact e7.nil | (apply e7.f) | (apply e7.r rfl) | (apply e7.mO) | (apply e7.b rfl))) ?_)
 | ((with_reducible apply cO.bO _ (some _)); first
  | refine Q4 ?_
  | refine Q6 ?_
  | ((with_reducible apply cO.bO (.move _) (some _)); first | refine eG (O.aZ .q) ?_)
  | ((with_reducible apply cO.bO (.assign (.const _)) (some _)); first | refine eG (O.az .q) ?_)
  | ((with_reducible apply cO.bO (.assign (.tmp _)) (some _)); first | refine eG (O.az .Au) ?_)
  | ((with_reducible apply cO.bO (.load _ _) (some _)); first | refine eG (O.ic) ?_ | refine eG (O.hA) ?_ | refine eG (O.AI) ?_ | refine eG (O.AJ) ?_ | refine eG (O.Gi) ?_ | refine eG (O.Gm) ?_ | refine eG (O.Gx) ?_)
  | ((with_reducible apply cO.bO (.fieldAddr _ _ _) (some _)); first | refine eG (O.Ge) ?_ | refine eG (O.Gf) ?_ | refine eG (O.wf) ?_)
  | ((with_reducible apply cO.bO (.indexAddr _ _ _) (some _)); first | refine aM h λx J h=>eG (O.Gh J) ?_ | refine aM h λx J h=>eG (O.yx J) ?_ | refine eG (O.eX) ?_ | refine eG (O.Gn) ?_)
  | ((with_reducible apply cO.bO (.binOp .add _ _ _ _) (some _)); first | refine eG (O.add .q .q) ?_ | refine aM h λx J h=>eG (O.cat .q .q J) ?_)
  | ((with_reducible apply cO.bO (.binOp .sub _ _ _ _) (some _)); first | refine eG (O.sub .q .q) ?_)
  | ((with_reducible apply cO.bO (.binOp .mul _ _ _ _) (some _)); first | refine eG (O.mul .q .q) ?_)
  | ((with_reducible apply cO.bO (.binOp .lss _ _ _ _) (some _)); first | refine eG (O.lss .q .q) ?_)
  | ((with_reducible apply cO.bO (.binOp .leq _ _ _ _) (some _)); first | refine eG (O.leq .q .q) ?_)
  | ((with_reducible apply cO.bO (.binOp .gtr _ _ _ _) (some _)); first | refine eG (O.gtr .q .q) ?_)
  | ((with_reducible apply cO.bO (.binOp .geq _ _ _ _) (some _)); first | refine eG (O.geq .q .q) ?_)
  | ((with_reducible apply cO.bO (.binOp .eql _ _ _ _) (some _)); first | refine eG (O.eql .q .q) ?_ | refine eG (O.qg .q .q) ?_ | refine eG (O.Ej .q .q (by kernel_rfl)) ?_ | refine eG (O.ov) ?_)
  | ((with_reducible apply cO.bO (.binOp .neq _ _ _ _) (some _)); first | refine eG (O.neq .q .q) ?_ | refine eG (O.oo .q .q) ?_ | refine eG (O.wn) ?_)
  | ((with_reducible apply cO.bO (.binOp .quo _ _ _ _) (some _)); first | refine aM h λx J h=>eG (O.quo .q .q J) ?_ | refine aM h λx J h=>eG (O.rp .q .q J) ?_)
  | ((with_reducible apply cO.bO (.binOp .rem _ _ _ _) (some _)); first | refine aM h λx J h=>eG (O.rem .q .q J) ?_ | refine aM h λx J h=>eG (O.ru .q .q J) ?_)
  | ((with_reducible apply cO.bO (.unOp .not _ _) (some _)); first | refine eG (O.not .q) ?_)
  | ((with_reducible apply cO.bO (.unOp .neg _ _) (some _)); first | refine eG (O.neg .q) ?_)
  | ((with_reducible apply cO.bO (.pick _ _ _) (some _)); first | refine eG (O.hU .q (by first | rfl | assumption) .q) ?_ | refine eG (O.dB .q (by first | rfl | assumption) .q) ?_)
  | ((with_reducible apply cO.bO (.nilCheck _) (some _)); first | refine eG (O.eT .q) ?_ | refine eG (O.xR .q) ?_)
  | ((with_reducible apply cO.bO (.index _ _ _) (some _)); first | refine aM h λx J h=>eG (O.ml .q .q iY.p J) ?_)
  | ((with_reducible apply cO.bO (.extract _ _) (some _)); first | refine eG (O.Gv) ?_)
  | ((with_reducible apply cO.bO (.convert _ _ _) (some _)); first | refine eG (O.Gl) ?_ | refine eG (O.Gk) ?_)
  | ((with_reducible apply cO.bO (.box _ _) (some _)); first | refine eG (O.Gc) ?_)
  | ((with_reducible apply cO.bO (.alloc _) (some _)); first | refine eG (O.Gj) ?_)
  | ((with_reducible apply cO.bO (.build _ _) (some _)); first | refine eG (O.Gu) ?_)
  | ((with_reducible apply cO.bO (.field _ _ _) (some _)); first | refine eG (O.wd) ?_)
  | ((with_reducible apply cO.bO (.makeSlice _ _ _) (some _)); first | refine aM h λx J h=>eG (O.Gp J) ?_ | refine aM h λx J h=>eG (O.Gw J) ?_)
  | ((with_reducible apply cO.bO (.buildSlice _ 0 #[]) (some _)); first | refine eG (O.wl) ?_)
  | ((with_reducible apply cO.bO (.makeFunc _ _ _) (some _)); first | refine eG (O.zP rfl) ?_)
  | ((with_reducible apply cO.bO (.slice _ _ _ _ _) (some _)); first | refine aM h λx J h=>eG (O.yo .q .q .q iY.p J) ?_ | refine aM h λx J h=>eG (O.F2 .q .q iY.p J) ?_ | refine aM h λx J h=>eG (O.F3 .q .q iY.p J) ?_ | refine aM h λx J h=>eG (O.Gt J) ?_ | refine aM h λx J h=>eG (O.Gr J) ?_ | refine aM h λx J h=>eG (O.Gs J) ?_)
  | ((with_reducible apply cO.bO (.call { callee:=.builtin .len,args:=#[_],argTypes:=#[_] }) (some _)); first | refine eG (O.kC .q eo.p) ?_ | refine eG (O.mB .q eo.p) ?_ | refine eG (O.uv .q iY.p) ?_)
  | ((with_reducible apply cO.bO (.call { callee:=.builtin .append,args:=#[_,_],argTypes:=#[_,_] }) (some _)); first | refine aM h λx J h=>eG (O.wp J) ?_ | refine aM h λx J h=>eG (O.Gq J) ?_ | refine aM h λx J h=>eG (O.Gd J) ?_ | refine aM h λx J h=>eG (O.QH J) ?_)
  | ((with_reducible apply cO.bO (.call { callee:=.value _,args:=_,argTypes:=_ }) (some _)); first | (refine aM h λx J h=>Lk (cK.fC ?_ (bD.go J)) ?_; · (repeat' first | exact .nil | refine .cD .q ?_)) | (refine aM h λx J h=>Lk (cK.mH rfl ?_ (bD.go J)) ?_; · (repeat' first | exact .nil | refine .s ?_ | refine .c (View.nS rfl rfl) ?_ | refine .c (.row rfl) ?_ | refine .c (View.mO ?_) ?_ | refine .c (View.cl ?_) ?_)))
  | refine Hm h (λav h=>?_) (λav h=>?_))
 | ((with_reducible apply cO.nl); first | refine QX rfl rfl ?_ | refine QW h (by (repeat' first | exact .nil | refine .n rfl ?_ | refine .w rfl rfl .pP ?_ | refine .w rfl rfl .pO ?_ | refine .w rfl rfl (j'.obj (by (repeat' first | exact .nil | refine .f ?_ | refine .o ?_ | refine .i ?_))) ?_)))
 | ((with_reducible apply j_.dO); refine cM.dO rfl (by first | exact .w | exact .n | exact .c rfl .w rfl | exact .c rfl .n rfl) rfl rfl ?_)
 | ((with_reducible apply j_.sC); refine cM.sC rfl (by first | exact .w | exact .n | exact .c rfl .w rfl | exact .c rfl .n rfl) rfl rfl ?_)
 | ((with_reducible apply j_.ei); first | refine cM.ei h (λj h=>?_) (λj ah h=>?_) | refine cM.Yy h (λj h=>?_) (λj ah h=>?_))
 | ((with_reducible apply j_.bX); first | refine cM.bX h (λj h=>?_) (λj ah h=>?_) | refine cM.Yz h (λj h=>?_) (λj ah h=>?_))
 | ((with_reducible apply j_.rd); first | refine cM.rd ?_ | refine cM.Yu ?_)
 | (with_reducible apply cM.rg)
 | (with_reducible apply cM.bA)
 | ((with_reducible apply j_.bE); first
  | refine cM.Xp h (λj h=>?_) (λj ah h=>?_)
  | refine cM.cd h (λav h=>?_) (λav h=>?_)
  | refine cM.ce h (λav h=>?_) (λav h=>?_)
  | refine cM.SJ ?_
  | refine cM.SI ?_)
 | ((with_reducible apply j_.JJ); refine cM.JJ h (λj h=>?_) (λj ah h=>?_))
 | (with_reducible apply cM.wN)
 | (with_reducible apply cM.b')
 | (with_reducible apply cM.de)
 | (with_reducible apply cM.fk)
 | ((with_reducible apply cM.YH); first
  | (refine cM.Kz h (by (repeat' first | exact .nil | refine .z rfl rfl ?_ ?_ | exact .refl | exact .CD | exact h5.vw | refine fl.obj ?_ | refine .f ?_ | refine .o ?_ | refine .z ?_)) (by (repeat' first | exact .nil | refine .n rfl ?_ | refine .w rfl rfl .pP ?_ | refine .w rfl rfl .pO ?_ | refine .w rfl rfl (j'.obj (by (repeat' first | exact .nil | refine .f ?_ | refine .o ?_ | refine .i ?_))) ?_)))
  | (cases h; refine cM.h2 rfl (by (repeat' first | exact .nil | refine .z rfl rfl ?_ ?_ | exact .refl | exact .CD | exact h5.vw | refine fl.obj ?_ | refine .f ?_ | refine .o ?_ | refine .z ?_)) ?_; exact ep.eR)
  | refine cM.Dl ?_)
 | (with_reducible apply ep.bA)
 | (with_reducible apply ep.fh)
 | (with_reducible apply ep.ji)
 | (with_reducible apply ep.b')
 | (with_reducible apply ep.fe)
 | (with_reducible apply ep.mP)
 | ((with_reducible apply j_.R_); refine ep.G9 ?_)
 | ((with_reducible apply j_.Yf); first
  | refine ep.go h (by (repeat' first | exact .nil | refine .n rfl ?_ | refine .w rfl rfl .pP ?_ | refine .w rfl rfl .pO ?_ | refine .w rfl rfl (j'.obj (by (repeat' first | exact .nil | refine .f ?_ | refine .o ?_ | refine .i ?_))) ?_))
  | refine ep.a8 h (by (repeat' first | exact .nil | refine .n rfl ?_ | refine .w rfl rfl .pP ?_ | refine .w rfl rfl .pO ?_ | refine .w rfl rfl (j'.obj (by (repeat' first | exact .nil | refine .f ?_ | refine .o ?_ | refine .i ?_))) ?_))
  | refine ep.x2 h (by (repeat' first | exact .nil | refine .n rfl ?_ | refine .w rfl rfl .pP ?_ | refine .w rfl rfl .pO ?_ | refine .w rfl rfl (j'.obj (by (repeat' first | exact .nil | refine .f ?_ | refine .o ?_ | refine .i ?_))) ?_))
  | refine ep.lx h (by (repeat' first | exact .nil | refine .n rfl ?_ | refine .w rfl rfl .pP ?_ | refine .w rfl rfl .pO ?_ | refine .w rfl rfl (j'.obj (by (repeat' first | exact .nil | refine .f ?_ | refine .o ?_ | refine .i ?_))) ?_)))
 | ((with_reducible apply j_.Yi); refine ep.dA h (by (repeat' first | exact .nil | refine .n rfl ?_ | refine .w rfl rfl .pP ?_ | refine .w rfl rfl .pO ?_ | refine .w rfl rfl (j'.obj (by (repeat' first | exact .nil | refine .f ?_ | refine .o ?_ | refine .i ?_))) ?_)))
 | ((with_reducible apply j_.eO); first
  | refine cM.eO h (λs o h=>?_) (λr ao h=>?_)
  | refine cM.gn h (λs o h=>?_) (λr h=>?_) (λr h=>?_))
 | ((with_reducible apply j_.rg); with_reducible apply cM.rt)
 | ((with_reducible apply j_.Ye); cases h; first | exact ep.eR | exact ep.fn)
 | refine Hm h (λav h=>?_) (λav h=>?_)))):p:=h
class yX (P:Program) (N:c5) (Φ:Exit->aK->Prop) (rs:outParam (List ResultVar)) (n:outParam Nat) (outs:outParam (List (Option ab))) (res:outParam ab):Prop where p:∀ g,p5 P N rs n outs res .ret g->Φ .ret g
instance:yX P N (p5 P N rs n outs res) rs n outs res:=⟨λ_ h=>h⟩
instance {Ψ:aK->Prop}{Φ:Exit->aK->Prop} [h:yX P N Φ rs n outs res]:yX P N (o4 Ψ Φ) rs n outs res:=⟨λg bY=>h.p g bY⟩
instance {id:Nat}{Φ:Exit->aK->Prop} [h:yX P N Φ rs n outs res]:yX P N (l_ id Φ) rs n outs res:=⟨λg bY=>h.p g bY⟩
class yW {S R hc:Type}(Φ:Exit->aK->Prop) (F:outParam (S->List (Nat × ab))) (id:outParam Nat) (X:outParam (R->List (Nat × ab))) (Y:outParam (hc->List (Nat × ab))) (o:outParam (S ⊕ (R ⊕ hc))):Prop where p:∀ g,k' F (AY id X Y) o .ret g->Φ .ret g
section
variable {S R hc:Type}{F:S->List (Nat × ab)}{id:Nat}{X:R->List (Nat × ab)}{Y:hc->List (Nat × ab)}{o:S ⊕ (R ⊕ hc)}{Φ:Exit->aK->Prop}
instance:yW (k' F (AY id X Y) o) F id X Y o:=⟨λ_ h=>h⟩
instance {Ψ:aK->Prop} [h:yW Φ F id X Y o]:yW (o4 Ψ Φ) F id X Y o:=⟨λg bY=>h.p g bY⟩
instance {i:Nat} [h:yW Φ F id X Y o]:yW (l_ i Φ) F id X Y o:=⟨λg bY=>h.p g bY⟩
theorem cM.Kz {v:hc} [aY:yW Φ F id X Y o] (h:some (.inr (.inr v))=some o) (aX:n4 ((Y v).map Prod.fst) (get G) (get (Y v)) (Y v)) (au:Trim true (get (Y v)) (get (Y v)) (Y v)):cM E t P N .ret G Φ:=by
 cases h;exact W.dO _ aX (W.rt λg av=>aY.p g (aC.lx au g av))
end
def Yx:ResultVar->ab->Option (Nat × ab)
 | .tmp t,x=>some (t,x)
 | .cell s _,.agg cs=>some (s,.obj cs)
 | _,_=>none
def Kx:List ResultVar->List ab->List (Nat × ab)->Option (List (Nat × ab))
 | [],[],T=>some T
 | r::rs,x::xs,T=>match Kx rs xs T,Yx r x with
  | some l,some p=>some (p::l)
  | _,_=>none
 | _,_,_=>none
def J':List Nat->List (Option ab)->Option (List (Nat × ab))
 | _,[]=>some []
 | j::ef,none::l=>J' ef l
 | j::ef,some x::l=>match J' ef l with
  | some r=>some ((j,x)::r)
  | none=>none
 | _,_=>none
def Yw (rs:List ResultVar) (outs:List (Option ab)) (res:ab):Option (List (Nat × ab)) :=
 match J' num outs with
 | none=>none
 | some T=>match rs,res with
  | [r],x=>Kx [r] [x] T
  | rs,.bV xs=>Kx rs xs T
  | _,_=>none
theorem h5.vw {x y:ab} [aF:cf x] [hv:ja x y]:h5 x y:=.pL aF.bl (hv.v _)
inductive qP {α:Type}(en:bK α):Option Nat->ab->ab->Prop
 | w {Eh:bK α}{L:List α} [h:ja (ak Eh L) (ag en L)]:qP en none (ak Eh L) (ag en L)
 | n [h:ja .aL (ag en ([]:List α))]:qP en none .aL (ag en ([]:List α))
 | c {i:Nat}{cs cs':List ab}{x y:ab}(J:cs[i]?=some x) (h:qP en none x y) (he:o1 cs i [y]=some cs'):qP en (some i) (.obj cs) (.obj cs')
theorem qP.one {α:Type}{en:bK α}{x y:ab}(h:qP en none x y):h5 x y/\ns y:=by
 cases h with
 | @w Eh L h=>exact ⟨.pL (.own (pU Eh L)) (h.v _),⟨by intro _ _ _ _ _ e; cases e⟩⟩
 | @n h=>exact ⟨.pL .aL (h.v _),⟨by intro _ _ _ _ _ e; cases e⟩⟩
theorem qP.dO {α:Type}{en:bK α}{i:Option Nat}{x y:ab}(h:qP en i x y):h5 x y/\ns y:=by
 cases h with
 | w=>exact qP.one .w
 | n=>exact qP.one .n
 | @c i cs cs' x y J h he =>
  obtain ⟨h1,af⟩:=lV he;subst h1;refine ⟨.obj (by simp [e5] at af ⊢; omega) λk a b aP av=>?_,⟨by simp⟩⟩;unfold e5 at av;simp only [List.length_singleton] at af av;by_cases hk:k<i
  ·rw [List.append_assoc,List.getElem?_append_left (by simp; omega),List.getElem?_take,if_pos hk,aP] at av;cases av; exact .refl
  ·by_cases fW:k=i
   ·subst fW;rw [List.append_assoc,List.getElem?_append_right (by rw [List.length_take]; exact Nat.min_le_left _ _),List.length_take,Nat.min_eq_left (by omega),Nat.sub_self] at av;simp at av;subst av;rw [J] at aP; cases aP;exact h.one.1
   ·rw [List.getElem?_append_right (by simp; omega)] at av;simp only [List.length_append,List.length_take,List.length_singleton,List.getElem?_drop] at av;rw [show i+1+(k - (min i cs.length+1))=k by omega,aP] at av;cases av; exact .refl
theorem Kn {g g2:aK}{s:Nat}:∀ {ks:List Nat}{G1:List (Nat × ab)},pick g ks=some G1->(ks.all λk=>![s].elem k)=true->(∀ e∈G1,cU e.2)->n4 [s] g g2 G1
 | [],_,h,_,_=>by cases h; exact .nil
 | k::ks,G1,h,he,aF=>by
  obtain ⟨x,l,J,aj,rfl⟩:=Df h;rw [List.all_cons,Bool.and_eq_true] at he;have:cf x:=⟨aF (k,x) (by simp)⟩;exact .n (by simpa using he.1) J (Kn aj he.2 λe h=>aF e (by simp [h]))
def Xo (id:Nat):Code->Bool
 | .seq (.region k _ _) _=>Nat.beq k id
 | .region k _ _=>Nat.beq k id
 | _=>false
theorem cM.dO {α:Type}{en:bK α}{id s:Nat}{i:Option Nat}{B:Code}{Φ:Exit->aK->Prop}{x y:ab}{ks:List Nat}{ij:List (Nat × ab)}(aB:get G s=some x) (ax:qP en i x y) (hk:sX [s] G=some ks) (au:pick (get G) ks=some ij) (h:cM E t P N B ((s,y)::ij) Φ) (acN:Xo id B=true:=by rfl) (dq:(ks.all λk=>![s].elem k)=true:=by rfl) [J:cf x] [aF:ix ij]:cM E (.dO id s i en t) P N B G Φ :=
 have:=ax.dO.2
 W.dO [s] (.z (by simp) aB ax.dO.1 (Kn au dq aF.p)) h
theorem cM.sC {α:Type}{en:bK α}{s:Nat}{i:Option Nat}{c:Code}{Φ:Exit->aK->Prop}{x y:ab}{ks:List Nat}{ij:List (Nat × ab)}(aB:get G s=some x) (ax:qP en i x y) (hk:sX [s] G=some ks) (au:pick (get G) ks=some ij) (h:cM E t P N (.loop c) ((s,y)::ij) Φ) (dq:(ks.all λk=>![s].elem k)=true:=by rfl) [J:cf x] [aF:ix ij]:cM E (.sC s i en t) P N (.loop c) G Φ :=
 have:=ax.dO.2
 W.dO [s] (.z (by simp) aB ax.dO.1 (Kn au dq aF.p)) h
theorem cM.h2 {Φ:Exit->aK->Prop}{G1:List (Nat × ab)} [aY:yX P N Φ rs n outs res] (c9:Yw rs outs res=some G1) (aX:n4 (G1.map Prod.fst) (get G) (get G1) G1) (au:ep E t .ret (p5 P N rs n outs res) G1):cM E t P N .ret G Φ :=
 W.dO _ aX (W.rt λg av=>aY.p g (au g av))
def Fw:List Nat->Nat->List ab->Option (List (Nat × ab))
 | _,_,[]=>some []
 | [],_,_::_=>none
 | j::ef,k,x::l=>match Fw ef (k+1) l with
  | none=>none
  | some r=>match s0 x,Nat.beq j k with
   | some y,true=>some ((j,y)::r)
   | _,_=>none
theorem Pc:∀ {l:List ab}{ef:List Nat}{k:Nat}{r:List (Nat × ab)},Fw ef k l=some r->xU k l=r
 | [],ef,k,r,h=>by cases ef <;> (cases h; rfl)
 | x::l,[],k,r,h=>by cases h
 | x::l,j::ef,k,r,h=>by
  unfold Fw at h
  split at h
  ·cases h
  ·rename_i dm ao
   split at h
   ·rename_i y ax ah;cases h; rw [<- Pc ao,<- vH ax,Nat.eq_of_beq_eq_true ah]; rfl
   ·cases h
def lits:List Nat:=[0,1,2,3,4,5,6,7,8,9,10,11,12]
theorem bU.bt {f:FuncId}{fn:Func}{c:Code}{args:List ab}{outs:List (Option ab)}{res:ab}(E:List Nat) (t:lC) (aW:P.funcs[f]?=some fn) (av:fn.body=some c) (bc:fn.ntmps=N.size) (aP:Nat.ble args.length N.size=true) (hlen:outs.length=args.length) (c9:Fw lits 0 args=some G) (hw:cM E t P N c G (p5 P N fn.results.toList args.length outs res)):bU P f args outs res:=bU.go aW av bc aP hlen (W.fin (by rw [Pc c9]; exact hw))
end
end Go.Own
