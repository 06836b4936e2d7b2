/-
  Parts of the proof that the last text states. No condition of their own.
-/
import Derived.KernelRfl
import Derived.Test.YtdhblbniiokpmaaGreatE4
namespace Go.Proofs
open Go Go.Own Go.Sort
set_option maxRecDepth 100000
set_option linter.unusedVariables false
def vI (a b:b4):Bool:=decide (a.At<b.At)||(decide (a.At=b.At)&&decide (a.b8<b.b8))
theorem JU {a b:b4}:vI a b=true↔(a.At<b.At\/(a.At=b.At/\a.b8<b.b8)):=by simp [vI]
theorem JV {a b:b4}:vI a b=false↔¬ (a.At<b.At\/(a.At=b.At/\a.b8<b.b8)):=by
 rw [<- JU]; simp
theorem Pj:Ord vI where
 swo:=⟨λx=>by rw [JV]; omega,λx y z h1 af=>by rw [JU] at *; omega,λx y z h1 af=>by rw [JV] at *; omega⟩
 jk x y h1 af:=by
  rw [JV] at h1 af;obtain ⟨a8,x2⟩:=x;obtain ⟨bx,y2⟩:=y;simp only at h1 af;have:a8=bx:=by omega
  have:x2=y2:=by omega
  subst_vars; rfl
theorem RL {α:Type} [DecidableEq α] {lt:α->α->Bool}(h:Ord lt) {l:List α}(aF:l.Nodup):fR lt (ic lt l):=by
 have h1:=E6 h.swo l;have af:(ic lt l).Nodup:=(sZ lt l).nodup_iff.2 aF;refine List.Pairwise.imp (λ{a b} BA=>?_) (h1.and af);cases bY:lt a b with
 | true=>rfl
 | false=>exact absurd (h.jk _ _ bY (by simpa using BA.1)) BA.2
def wA (T:List bX) (p:b4):Prop:=∃ (k:Nat) (t:bX),T[k]?=some t/\0<t.bR/\p=⟨t.bR,(k:Int)⟩
theorem wA.val {T:List bX}{p:b4}(h:wA T p):∃ (k:Nat) (t:bX),T[k]?=some t/\p.b8=(k:Int)/\p.At=t.bR/\0<t.bR:=by
 obtain ⟨k,t,h1,af,rfl⟩:=h;exact ⟨k,t,h1,rfl,rfl,af⟩
theorem Sf (a b:Int):∃ v,uE a b=some v/\(v<0↔a<b)/\(v=0↔a=b):=by
 have e:∀ a,v_ a=some false:=λa=>by simp [v_]
 unfold uE;simp only [e,Option.bind_some,cond_false];by_cases h1:a<b
 ·exact ⟨-1,by simp [h1],by omega,by omega⟩
 ·by_cases af:b<a
  ·exact ⟨1,by simp [h1,af],by omega,by omega⟩
  ·exact ⟨0,by simp [h1,af],by omega,by omega⟩
theorem R_ (g:bN) (aO:uX g) (ak:g.ba.length<=1000):Tot (Ae g) λl=>fR vI l/\l.length<=1000/\∀ p,p∈l↔wA g.ba p:=by
 unfold Ae;refine .aA (Ξ:=λl:List b4=>(l.length<=1000/\∀ p,p∈l↔wA g.ba p)/\l.Pairwise λa b=>a.b8<b.b8) ?_ λl ak=>?_
 ·refine Tot.upto (λs=>s.2) g.ba.length (λk s=>(s.1.length<=k/\∀ p,p∈s.1↔(wA g.ba p/\p.b8<(k:Int)))/\s.1.Pairwise λa b=>a.b8<b.b8) rfl (by omega) ⟨⟨Nat.le_refl 0,λp=>⟨λh=>(by cases h),λh=>by obtain ⟨k,t,_,e,_⟩:=h.1.val; omega⟩⟩,.nil⟩ λk s hk he bc=>?_;obtain ⟨l,i⟩:=s;obtain ⟨⟨h1,af⟩,cF⟩:=bc;simp only at he h1 af cF ⊢;subst he;rw [eB k (by omega)];refine Tot.bp (λaT=>?_) (λdS=>.ao ⟨⟨by omega,λp=>(af p).trans ⟨λh=>h.1,λh=>⟨h,?_⟩⟩⟩,cF⟩)
  ·have aT:k<g.ba.length:=by omega
   rw [dV aT];have n':g.ba[k]?=some g.ba[k]:=List.getElem?_eq_getElem aT;refine .aA (Ξ:=λo:List b4=>(o.length<=k+1/\∀ p,p∈o↔(wA g.ba p/\p.b8<((k+1:Nat):Int)))/\o.Pairwise λa b=>a.b8<b.b8) ?_ λo a1=>.ao ⟨aT,rfl,a1⟩;simp only [Option.bind_some];refine .aA (Ξ:=λo:List b4=>(o.length<=k+1/\∀ p,p∈o↔(wA g.ba p/\p.b8<((k+1:Nat):Int)))/\o.Pairwise λa b=>a.b8<b.b8) ?_ λo a1=>.ao a1;refine Tot.bp (λau=>.aA (Ξ:=λ_=>True) (Tot.ap (by simp [lim]; omega) trivial) λ_ _=>.ao ⟨⟨by simp; omega,λp=>?_⟩,?_⟩) (λau=>.ao ⟨⟨by omega,λp=>?_⟩,cF⟩)
   ·rw [List.mem_append,List.mem_singleton,af];constructor
    ·rintro (h | rfl)
     ·exact ⟨h.1,by omega⟩
     ·exact ⟨⟨k,_,n',au,rfl⟩,by show (k:Int)<((k+1:Nat):Int); omega⟩
    ·rintro ⟨h,hv⟩;obtain ⟨j,t,aI,bF,rfl⟩:=h;simp only at hv;by_cases e:j=k
     ·subst e;rw [n'] at aI; cases aI;exact .inr rfl
     ·exact .inl ⟨⟨j,t,aI,bF,rfl⟩,by show (j:Int)<k; omega⟩
   ·refine List.pairwise_append.2 ⟨cF,List.pairwise_singleton ..,λa aP b av=>?_⟩;rw [List.mem_singleton.1 av];exact ((af a).1 aP).2
   ·rw [af];constructor
    ·rintro ⟨h,hv⟩;exact ⟨h,by omega⟩
    ·rintro ⟨h,hv⟩;obtain ⟨j,t,aI,bF,rfl⟩:=h;simp only at hv;refine ⟨⟨j,t,aI,bF,rfl⟩,?_⟩;show (j:Int)<k;by_cases e:j=k
     ·subst e;rw [n'] at aI; cases aI;exact absurd bF au
     ·omega
  ·obtain ⟨j,t,aI,_,rfl⟩:=h;have:=(List.getElem?_eq_some_iff.1 aI).1;show (j:Int)<k;omega
 ·obtain ⟨ak,IW⟩:=ak;have aB:pW (λa b=>CZ a b) l=some (ic vI l):=by
   refine YX Pj (λa aP b av=>?_) (by omega);obtain ⟨v,hv,h1,af⟩:=Sf a.At b.At;refine ⟨v,by unfold CZ; rw [hv]; rfl,h1.trans ?_⟩;rw [JU];constructor
   ·exact .inl
   ·rintro (h | ⟨h,aR⟩)
    ·exact h
    ·exfalso;obtain ⟨i,s,cv,b9,rfl⟩:=(ak.2 a).1 aP;obtain ⟨j,t,fG,mU,rfl⟩:=(ak.2 b).1 av;simp only at h aR;have:=aO.un i j s t cv fG b9 h;omega
  rw [aB];refine .ao ⟨RL Pj (IW.imp λ{a b} h e=>by subst e; omega),by rw [(sZ vI l).length_eq]; exact ak.1,λp=>((sZ vI l).mem_iff).trans (ak.2 p)⟩
open Go Go.Own
theorem KW:ya=some true:=by kernel_rfl
theorem PB {α:Type}(keep:α->Bool) (val:α->Int) {l:List α}(ak:l.length<=1000):lD (hN keep val l):=by
 refine ⟨λp au=>?_,?_⟩
 all_goals grind [OV,X7]
theorem L_ (l:List Row) (ak:l.length<=200) (aq:∀ r∈l,lD r.ft/\r.ft.length<=1000):Tot (x3 l) λr=>r.1=l.map (·.Def)/\∀ a n,rm r.2 a n=some (q7 (l.map (·.ft)) a n):=by
 unfold x3;refine .aA (Ξ:=λs:List Int × List (List b4)=>s.1=l.map (·.Def)/\s.2=l.map (·.ft)) ?_ λs aB=>?_
 ·refine Tot.upto (λs=>s.2.2) l.length (λk s=>s.1=(l.take k).map (·.Def)/\s.2.1=(l.take k).map (·.ft)) rfl (by omega) ⟨rfl,rfl⟩ λk s hk he bc=>?_;obtain ⟨A,B,i⟩:=s;obtain ⟨h1,af⟩:=bc;simp only at he h1 af ⊢;subst he h1 af;rw [eB k (by omega)];refine Tot.bp (λaT=>?_) (λdS=>.ao ?_)
  ·have aT:k<l.length:=by omega
   rw [dV aT];refine Tot.aV (.aA (Ξ:=λ_=>True) (Tot.ap (by simp [lim]; omega) trivial) λ_ _=>.aA (Ξ:=λ_=>True) (Tot.ap (by simp [lim]; omega) trivial) λ_ _=>.ao ⟨aT,rfl,?_,?_⟩)
   all_goals grind [k3]
  grind
 ·obtain ⟨h1,af⟩:=aB;rw [af];have db:p9 (l.map (·.ft)):=⟨by simp; omega,λr ec=>by
   grind⟩
  have fg:DY (l.map (·.ft)):=⟨by simp; omega,λr ec=>by
   grind⟩
  refine .aA (Sd _ fg) λc aa=>.ao ⟨h1,λa n=>?_⟩;obtain ⟨hf,o,hO,h_⟩:=aa.2 db;exact TI db hO h_ (h_.inv db (List.pairwise_reverse.2 hO.Kl)) hf a n
structure AY (g:bN) (d:gT) (t:Tables):Prop where
 Ed:t.Def=d.cz.map λr=>g_ (red r)
 gd:t.ko=(List.range g.b2.length).map λa=>g_ (pos (eg d a))
 ac:∀ a n,rm t.cz a n=some (q7 (d.cz.map λr=>(lv r).ft) a n)
 go:∀ a n,rm t.gA a n=some (q7 ((List.range g.b2.length).map λa=>(lx (eg d a)).ft) a n)
 le:t.Left=g.bh.map (·.Left)
 l':t.k7=g.bh.map λp=>(p.eu.length:Int)
theorem jI (g:bN) (n:Nat) (d:gT) (aS:sw g n d) (hk:uX g):Tot (uA g d) (AY g d):=by
 have aO:=aS.rV;have aw:=aO.kE;have kx:=aO.dx;have sR:=aO.hX;have kv:=aS.gH;have sL:=aS.a;have zw:=aS.o;unfold uA;refine .aA (tF g n d aS) λa8 h1=>?_;subst h1;refine .aA (L_ _ (by simp; omega) λr aq=>?_) λx2 af=>.aA (R9 g n d aS) λa7 aI=>?_
 ·obtain ⟨q,bg,rfl⟩:=List.mem_map.1 aq;have ak:=(aS.jH q bg).1;have:=tb (jY (g_ (red q))) lb q;exact ⟨PB _ _ (by omega),by show (hN _ _ q).length<=_; omega⟩
 subst aI;refine .aA (L_ _ (by simp; omega) λr aq=>?_) λbq bF=>?_
 ·obtain ⟨a,_,rfl⟩:=List.mem_map.1 aq;have ak:=wW d a;have:=tb (lQ (g_ (pos (eg d a)))) id (eg d a);exact ⟨PB _ _ (by omega),by show (hN _ _ (eg d a)).length<=_; omega⟩
 refine .aA (Ξ:=λs:List Int × List Int=>s.1=g.bh.map (·.Left)/\s.2=g.bh.map λp=>(p.eu.length:Int)) ?_ λbw ej=>.aA (R_ g hk (by omega)) λew _=>.ao ?_
 ·refine Tot.upto (λs=>s.2.2) g.bh.length (λk s=>s.1=(g.bh.take k).map (·.Left)/\s.2.1=(g.bh.take k).map λp=>(p.eu.length:Int)) rfl (by omega) ⟨rfl,rfl⟩ λk s ud he bc=>?_;obtain ⟨A,B,i⟩:=s;obtain ⟨h1,af⟩:=bc;simp only at he h1 af ⊢;subst he h1 af;rw [eB k (by omega)];refine Tot.bp (λaT=>?_) (λdS=>.ao ?_)
  ·have aT:k<g.bh.length:=by omega
   rw [dV aT];refine Tot.aV (.aA (Ξ:=λ_=>True) (Tot.ap (by simp [lim]; omega) trivial) λ_ _=>.aA (Ξ:=λ_=>True) (Tot.ap (by simp [lim]; omega) trivial) λ_ _=>.ao ⟨aT,rfl,?_,?_⟩)
   all_goals grind [k3]
  grind
 ·refine ⟨?_,?_,λa m=>?_,λa m=>?_,ej.1,ej.2⟩
  ·show x2.1=_;rw [af.1,List.map_map];rfl
  ·show bq.1=_;rw [bF.1,List.map_map];rfl
  ·show rm x2.2 a m=_;rw [af.2,List.map_map];rfl
  ·show rm bq.2 a m=_;rw [bF.2,List.map_map];rfl
theorem G' (s:Source) (av:rL s):Tot (sn s) λr=>r.2.2.2=true->(∃ n,sw r.1 n r.2.1)/\uX r.1:=by
 refine (Par.jk (R3 s av) (Ψ:=λr=>r.2.2.2=true->uX r.1) ?_).use λr aq h=>⟨aq.1 h,aq.2 h⟩;have XQ:Par (x7 s) λr=>r.2=true->uX r.1:=by
  unfold x7;exact .aA (XR s av) λr aq=>.ao λh=>aq (of_decide_eq_true h)
 have XP:Par (x5 s) λr=>r.2.2=true->uX r.1:=by
  unfold x5;exact .aA XQ λr aq=>Par.bE (λ_=>.ao λh=>by cases h) (λh=>.aA (Ξ:=λ_=>True) (λ_ _=>trivial) λm _=>.ao λ_=>aq (by simpa using h))
 have XO:Par (vY s) λr=>r.2.2.2=true->uX r.1:=by
  unfold vY;exact .aA XP λr aq=>Par.bE (λ_=>.ao λh=>by cases h) (λh=>.aA (Ξ:=λ_=>True) (λ_ _=>trivial) λqA _=>.aA (Ξ:=λ_=>True) (λ_ _=>trivial) λcs _=>.ao λ_=>aq (by simpa using h))
 unfold sn;exact .aA XO λr aq=>Par.bE (λ_=>.ao λh=>by cases h) (λh=>.aA (Ξ:=λ_=>True) (λ_ _=>trivial) λ_ _=>.aA (Ξ:=λ_=>True) (λ_ _=>trivial) λ_ _=>.ao λ_=>aq (by simpa using h))
theorem get_at {α:Type}{keep:α->Bool}{val:α->Int}{l:List α}{k:Nat}{x:α}(ak:l.length<=1000) (hk:l[k]?=some x):kQ (hN keep val l) (k:Int)=if keep x=true then (val x,true) else (0,false):=by
 have h1:=TK (keep:=keep) (val:=val) (by omega) hk
 grind [g19,tb]
def wb (r:List Act) (k:Int):Option Act:=if (kQ (lv r).ft k).2=true then x4 (kQ (lv r).ft k).1 else some (if g_ (red r)<0 then ⟨0,0⟩ else ⟨2,g_ (red r)⟩)
theorem Hs {g:bN}{d:gT}{t:Tables}(h:AY g d t) (s k:Int):k1 t s k=match idx d.cz s with | some r=>wb r k | none=>some ⟨0,0⟩:=by
 unfold k1;rw [h.ac,Option.bind_some];have EB:t.Def.length=d.cz.length:=by rw [h.Ed]; simp
 cases aB:idx d.cz s with
 | none =>
  grind [idx,q7]
 | some r =>
  have av:=ng aB;have aY:idx (d.cz.map λr=>(lv r).ft) s=some (lv r).ft:=by
   grind [idx]
  have ab6:idx t.Def s=some (g_ (red r)):=by
   rw [h.Ed]
   grind [idx]
  grind [q7,wb]
theorem X' {g:bN}{n:Nat}(aO:gz g) (aF:n<=150) {r:List Act}(ak:r.length<=1000) {k:Nat}{x:Act}(hk:r[k]?=some x) (J:oA g n x):wb r (k:Int)=some (if jY (g_ (red r)) x=true then x else if g_ (red r)<0 then ⟨0,0⟩ else ⟨2,g_ (red r)⟩):=by
 unfold wb;have e:kQ (lv r).ft (k:Int)=if jY (g_ (red r)) x=true then (lb x,true) else (0,false):=get_at ak hk
 grind [jY,SB]
def FK (c:List Int) (s:Int):Int:=if (kQ (lx c).ft s).2=true then (kQ (lx c).ft s).1 else g_ (pos c)
theorem Mu {g:bN}{d:gT}{t:Tables}(h:AY g d t) (s a:Int):uD t s a=some (if 0<=a/\a<g.b2.length then FK (eg d a.toNat) s else -1):=by
 unfold uD;rw [h.go,Option.bind_some];have Iw:t.ko.length=g.b2.length:=by rw [h.gd]; simp
 by_cases aP:0<=a/\a<(g.b2.length:Int)
 ·obtain ⟨k,rfl⟩:∃ k:Nat,a=(k:Int):=⟨a.toNat,by omega⟩;have hk:k<g.b2.length:=by omega
  have aY:idx ((List.range g.b2.length).map λa=>(lx (eg d a)).ft) (k:Int)=some (lx (eg d k)).ft:=by
   unfold idx;rw [if_pos (by omega),Int.toNat_natCast,List.getElem?_map,List.getElem?_range hk]; rfl
  have hJ:idx t.ko (k:Int)=some (g_ (pos (eg d k))):=by
   rw [h.gd];unfold idx;rw [if_pos (by omega),Int.toNat_natCast,List.getElem?_map,List.getElem?_range hk]; rfl
  rw [if_pos aP,Int.toNat_natCast];unfold q7 FK;rw [aY];simp only;by_cases af:(kQ (lx (eg d k)).ft s).2=true
  ·simp [af]
  ·have af:(kQ (lx (eg d k)).ft s).2=false:=by simpa using af
   have d1:decide ((k:Int)<0)=false:=decide_eq_false (by omega);have d2:decide ((t.ko.length:Int)<=(k:Int))=false:=decide_eq_false (by omega);rw [af,d1,d2,hJ];simp
 ·have aY:idx ((List.range g.b2.length).map λa=>(lx (eg d a)).ft) a=none:=by
   unfold idx;split
   ·rw [List.getElem?_eq_none];simp; omega
   ·rfl
  rw [if_neg aP];unfold q7;rw [aY];simp only [cond_false];by_cases aQ:a<0
  ·simp [aQ]
  ·have h1:(t.ko.length:Int)<=a:=by omega
   simp [aQ,h1]
theorem Xz {g:bN}{n:Nat}(aO:gz g) {r:List Act}(ak:r.length=g.ba.length) (h:∀ a∈r,oA g n a):oD (red r) (g_ (red r)):=(CH (Ko aO ak h)).2.2
theorem Xh {r:List Act}{v:Int}(h:v∈red r):∃ a∈r,a.Kind=2/\a.N=v:=by
 unfold red at h;obtain ⟨a,aP,rfl⟩:=List.mem_map.1 h;rw [List.mem_filter] at aP;exact ⟨a,aP.1,of_decide_eq_true aP.2,rfl⟩
theorem Xy {g:bN}{n:Nat}(aO:gz g) {r:List Act}(ak:r.length=g.ba.length) (h:∀ a∈r,oA g n a):g_ (red r)=-1\/(0<=g_ (red r)/\∃ a∈r,a.Kind=2/\a.N=g_ (red r)):=by
 rcases Xz aO ak h with ⟨_,e⟩ | ⟨hm,_⟩
 ·exact .inl e
 ·obtain ⟨a,aP,hk,e⟩:=Xh hm;have:=((h a aP).oX hk).1;exact .inr ⟨by omega,a,aP,hk,e⟩
theorem Rr {g:bN}{n:Nat}{x:Act}(J:oA g n x) {D:Int}(hJ:D=-1\/0<=D):(if jY D x=true then x else if D<0 then ⟨0,0⟩ else ⟨2,D⟩)=(if x.Kind=0/\D≠-1 then ⟨2,D⟩ else x):=by
 obtain ⟨k,m⟩:=x;have aQ:=J.gH;simp only at aQ;unfold jY;by_cases hc:k=0
 ·subst hc;have:=aQ rfl;subst this;rcases hJ with rfl | hJ
  ·simp
  ·have h1:¬ D<0:=by omega
   have af:D≠-1:=by omega
   simp [h1,af]
 ·by_cases b9:k=2
  ·subst b9;by_cases Mw:m=D
   ·subst Mw;have af:=(J.oX rfl).1;have af:0<m:=af;have h1:¬ m<0:=by omega
    simp [h1]
   ·simp [Mw]
  ·simp [hc,b9]
theorem KA {x:Act}{D:Int}(h:x.Kind≠0):(if x.Kind=0/\D≠-1 then (⟨2,D⟩:Act) else x)=x:=if_neg λe=>h e.1
theorem t7 (x:oy):C3 x=some true:=by
 suffices h:Tot (C3 x) λr=>r=true by
  obtain ⟨r,aq,e⟩:=h; rw [aq,e]
 unfold C3;rw [KW];refine Tot.aV (.aA (t10 x) λy av=>.aA (G' y av) λD aS=>Tot.bE (λ_=>.ao rfl) (λh=>?_));obtain ⟨⟨n,hJ⟩,hk⟩:=aS (by simpa using h);generalize D.1=g at *;generalize D.2.1=d at *;have aO:=hJ.rV;have kv:=hJ.gH;have aw:=aO.kE;have kx:=aO.dx;have sR:=aO.hX;have sL:=hJ.a;refine .aA (jI g n d hJ hk) λt cn=>?_;have EB:t.Def.length=d.cz.length:=by rw [cn.Ed]; simp
 have NY:t.Left.length=g.bh.length:=by rw [cn.le]; simp
 have BP:t.k7.length=g.bh.length:=by rw [cn.l']; simp
 refine .aA (Ξ:=λc=>c=false) (Tot.oL (λh=>absurd (by rw [EB]) h) (λ_=>Tot.oL (λh=>absurd (by rw [NY]) h) (λ_=>.ao (by rw [BP]; simp)))) λc aa=>?_;subst aa;refine Tot.aV (.aA (Ξ:=hl (λ_=>True) (λ_:Bool=>False)) ?_ λx J=>?_)
 ·refine Tot.upto (λs=>s) d.cz.length (λ_ _=>True) rfl (by omega) trivial λq s bg he _=>?_;subst he;rw [eB q (by omega)];refine Tot.bp (λaT=>?_) (λ_=>.ao trivial);have aT:q<d.cz.length:=by omega
  have aq:=hJ.jH _ (List.getElem_mem aT);have N':idx d.cz (q:Int)=some d.cz[q]:=dV aT;have Ug:idx t.Def (q:Int)=some (g_ (red d.cz[q])):=by
   rw [cn.Ed];have:q<(d.cz.map λr=>g_ (red r)).length:=by simp; omega
   rw [dV this,List.getElem_map]
  have IS:=Xy aO aq.1 aq.2;have UK:∀ k:Nat,(hk:k<(d.cz[q]).length)->k1 t (q:Int) (k:Int)=some (if ((d.cz[q])[k]).Kind=0/\g_ (red d.cz[q])≠-1 then ⟨2,g_ (red d.cz[q])⟩ else (d.cz[q])[k]):=λk hk=>by
   have J:=aq.2 _ (List.getElem_mem hk);have e:=Hs cn (q:Int) (k:Int);rw [N'] at e;have b9:=X' aO kv.2 (by omega) (List.getElem?_eq_getElem hk) J;rw [Rr J (IS.imp id λh=>h.1)] at b9;have e:k1 t (q:Int) (k:Int)=wb d.cz[q] (k:Int):=e;rw [b9] at e;exact e
  rw [Ug];simp only [Option.bind_some];generalize acd:d.cz[q]=row at *;generalize g_ (red row)=D at *;refine .aA (Ξ:=hl (λf:Bool=>f=true) (λ_:Bool=>False)) ?_ λx J=>?_
  ·refine Tot.upto (λs=>s.2) g.ba.length (λk s=>s.1=true↔(D=-1\/∃ a∈row.take k,a.Kind=2/\a.N=D)) rfl (by omega) (by simp) λk s ud he bc=>?_;obtain ⟨f,i⟩:=s;simp only at he bc ⊢;subst he;rw [eB k (by omega)];refine Tot.bp (λra=>?_) (λdS=>.ao ?_)
   ·have ra:k<row.length:=by omega
    have tS:=UK k ra;have I3:=k3 ra;rw [N'];simp only [Option.bind_some];rw [dV ra];generalize row[k]=x at *;simp only [Option.bind_some];refine .aA (Ξ:=λc=>c=false) ?_ λc aa=>?_
    ·by_cases bF:x.Kind=4
     ·have e:=tS;rw [KA (by omega)] at e;rw [e];exact ⟨false,by simp [bF],rfl⟩
     ·by_cases h1:x.Kind=1
      ·have e:=tS;rw [KA (by omega)] at e;rw [e];exact ⟨false,by simp [h1],rfl⟩
      ·by_cases aI:x.Kind=3
       ·have e:=tS;rw [KA (by omega)] at e;rw [e];exact ⟨false,by simp [aI],rfl⟩
       ·exact ⟨false,by simp [bF,h1,aI],rfl⟩
    ·subst aa;refine Tot.aV (.aA (Ξ:=λb:Bool=>b=true↔(f=true\/(x.Kind=2/\x.N=D))) ?_ λb av=>.ao ⟨by omega,rfl,?_⟩)
     ·refine Tot.bE (λh=>.ao (by simp [h])) (λh=>Tot.bp (λaf=>?_) (λaf=>.ao (by simp [h,af])));exact .ao (by simp [h,af])
     ·show b=true↔_;rw [av,bc,I3];simp only [List.mem_append,List.mem_singleton];constructor
      ·rintro ((h | ⟨a,aP,h⟩) | h)
       ·exact .inl h
       ·exact .inr ⟨a,.inl aP,h⟩
       ·exact .inr ⟨x,.inr rfl,h⟩
      ·rintro (h | ⟨a,aP | rfl,h⟩)
       ·exact .inl (.inl h)
       ·exact .inl (.inr ⟨a,aP,h⟩)
       ·exact .inr h
   ·have e:row.take k=row:=List.take_of_length_le (by omega);rw [e] at bc;refine bc.2 ?_;rcases IS with h | ⟨_,h⟩
    ·exact .inl h
    ·exact .inr h
  ·rcases x with x | x
   ·have J:x=true:=J;subst J;exact .ao ⟨aT,rfl,trivial⟩
   ·exact J.elim
 ·rcases x with x | x
  ·refine .aA (Ξ:=hl (λ_=>True) (λ_:Bool=>False)) ?_ λx J=>by
    rcases x with x | x
    ·exact .ao rfl
    ·exact J.elim
   refine Tot.upto (λs=>s) g.bh.length (λ_ _=>True) rfl (by omega) trivial λk s ud he _=>?_;subst he;rw [eB k (by omega)];refine Tot.bp (λaT=>?_) (λ_=>.ao trivial);have aT:k<g.bh.length:=by omega
   have cv:idx t.Left (k:Int)=some (g.bh[k]).Left:=by
    rw [cn.le];have:k<(g.bh.map (·.Left)).length:=by simp; omega
    rw [dV this,List.getElem_map]
   have b9:idx t.k7 (k:Int)=some (((g.bh[k]).eu.length:Nat):Int):=by
    rw [cn.l'];have:k<(g.bh.map λp=>(p.eu.length:Int)).length:=by simp; omega
    rw [dV this,List.getElem_map]
   rw [cv,b9,dV aT];exact ⟨.inl ((k+1:Nat):Int),by simp,aT,rfl,trivial⟩
  ·exact J.elim
theorem Ya (r:List Act) (k:Int):∃ a,wb r k=some a:=by
 unfold wb;split
 ·obtain ⟨a,h,_⟩:=Zl (kQ (lv r).ft k).1
  grind [Ht]
 grind
theorem Te {g:bN}{d:gT}{t:Tables}(h:AY g d t) (s k:Int):∃ a,k1 t s k=some a:=by
 rw [Hs h];split
 ·exact Ya _ k
 grind
theorem Tf {g:bN}{n:Nat}{d:gT}{t:Tables}(hJ:sw g n d) (h:AY g d t) (s k:Int):vV d (d.cz.map lv) s k=k1 t s k:=by
 have aw:=hJ.rV.kE;rw [Hs h];unfold vV;cases aB:idx d.cz s with
 | none =>
  grind [idx]
 | some r =>
  have av:=ng aB;have ak:=(hJ.jH r av.2.2).1;have aY:idx (d.cz.map lv) s=some (lv r):=by
   grind [idx]
  have d1:decide (s<0)=false:=decide_eq_false (by omega);have d2:decide (((d.cz.map lv).length:Int)<=s)=false:=decide_eq_false (by simp; omega);have ug:(lv r).ft.length<=100000:=by
   have:=tb (jY (g_ (red r))) lb r;show (hN _ _ r).length<=_;omega
  grind [g19,wb,lv,Ht]
theorem t4 (x:oy) (aD a2:Int):Kb x aD a2=some true:=by
 suffices h:Tot (Kb x aD a2) λr=>r=true by
  obtain ⟨r,aq,e⟩:=h
  grind
 unfold Kb;rw [KW];refine Tot.aV (.aA (t10 x) λy av=>.aA (G' y av) λD aS=>Tot.bE (λ_=>.ao rfl) (λh=>?_));obtain ⟨⟨n,hJ⟩,hk⟩:=aS (by simpa using h);generalize D.1=g at *;generalize D.2.1=d at *;have kv:=hJ.gH;have aw:=hJ.rV.kE;have sL:=hJ.a;refine .aA (jI g n d hJ hk) λt cn=>.aA (tD g n d hJ) λR aY=>?_;subst aY;have key:∀ s k:Int,∃ a,k1 t s k=some a/\vV d (d.cz.map lv) s k=some a:=λs k=>by
  obtain ⟨a,aP⟩:=Te cn s k
  grind [Tf]
 refine .aA (Ξ:=hl (λ_=>True) (λ_:Bool=>False)) ?_ λx J=>?_
 ·refine Tot.count (λs=>s) ((d.cz.length:Int)+1) (λs=>-1<=s) (Int.le_refl _) (by show (d.cz.length:Int)+1 - -1<_; omega) λs aB=>?_;refine Tot.bp (λhle=>?_) (λ_=>.ao trivial);have I_:aJ (s+1)=s+1:=by rw [cB]; omega
  rw [I_];refine .aA (Ξ:=hl (λ_=>True) (λ_:Bool=>False)) ?_ λx J=>?_
  ·have Wt:aJ ((g.ba.length:Int)+2)=(g.ba.length:Int)+2:=by rw [cB]; omega
   rw [Wt];refine Tot.count (λs=>s) ((g.ba.length:Int)+3) (λs=>-2<=s) (Int.le_refl _) (by show (g.ba.length:Int)+3 - -2<_; omega) λk fW=>?_;refine Tot.bp (λacH=>?_) (λ_=>.ao trivial);have qq:aJ (k+1)=k+1:=by rw [cB]; omega
   rw [qq];obtain ⟨a,cv,b9⟩:=key s k;rw [cv,b9];exact ⟨.inl (k+1),by simp,⟨by show -2<=k+1; omega,by show k<k+1; omega,by show k+1<=_; omega⟩⟩
  ·rcases x with x | x
   ·obtain ⟨a,cv,b9⟩:=key s a2;simp only [cv,b9,Option.bind_some];exact ⟨.inl (s+1),by simp,⟨by show -1<=s+1; omega,by show s<s+1; omega,by show s+1<=_; omega⟩⟩
   grind
 ·rcases x with x | x
  ·obtain ⟨a,cv,b9⟩:=key aD a2;simp only [cv,b9,Option.bind_some];exact ⟨true,by simp,rfl⟩
  grind
theorem t5 (x:oy) (aD a2:Int):Ke x aD a2=some true:=by
 suffices h:Tot (Ke x aD a2) λr=>r=true by
  obtain ⟨r,aq,e⟩:=h
  grind
 unfold Ke;rw [KW];refine Tot.aV (.aA (t10 x) λy av=>.aA (G' y av) λD aS=>Tot.bE (λ_=>.ao rfl) (λh=>?_));obtain ⟨⟨n,hJ⟩,hk⟩:=aS (by simpa using h);generalize D.1=g at *;generalize D.2.1=d at *;have kv:=hJ.gH;have kx:=hJ.rV.dx;have sL:=hJ.a;have zw:=hJ.o;refine .aA (jI g n d hJ hk) λt cn=>.aA (nB g n d hJ) λR aY=>?_;subst aY;have Nl:((List.range g.b2.length).map λa=>lx (eg d a)).length=g.b2.length:=by simp
 refine .aA (Ξ:=hl (λ_=>True) (λ_:Bool=>False)) ?_ λx J=>?_
 ·refine Tot.count (λs=>s) ((g.b2.length:Int)+1) (λs=>-1<=s) (Int.le_refl _) (by show (g.b2.length:Int)+1 - -1<_; omega) λs aB=>?_;rw [Nl];refine Tot.bp (λhle=>?_) (λ_=>.ao trivial);have I_:aJ (s+1)=s+1:=by rw [cB]; omega
  rw [I_];refine .aA (Ξ:=λl:List Int=>l.length<=1000) ?_ λl ak=>?_
  ·refine Tot.upto (λs=>s.2) d.cz.length (λk s=>s.1.length=k+3) rfl (by omega) rfl λk s ud he bc=>?_;obtain ⟨L,i⟩:=s;simp only at he bc ⊢;subst he;rw [eB k (by omega)];refine Tot.bp (λaT=>?_) (λ_=>.ao (by show L.length<=1000; omega));refine .aA (Ξ:=λ_=>True) (Tot.ap (by simp [lim]; omega) trivial) λ_ _=>.ao ⟨by omega,rfl,by show (L++[_]).length=_; simp; omega⟩
  ·refine .aA (Ξ:=hl (λ_=>True) (λ_:Bool=>False)) ?_ λx J=>?_
   ·refine Tot.upto (λs=>s) l.length (λ_ _=>True) rfl (by omega) trivial λk i ud he _=>?_;subst he;rw [eB k (by omega)];refine Tot.bp (λaT=>?_) (λ_=>.ao trivial);have aT:k<l.length:=by omega
    rw [dV aT];generalize l[k]=q at *;have e:=Mu cn q s;refine .aA (Ξ:=λc:Bool=>c=decide (0<=s/\s<(g.b2.length:Int))) (Tot.bp (λh=>.ao (by simp [h])) (λh=>.ao (by simp [h]))) λc aa=>?_;subst aa;refine .aA (Ξ:=λv:Int=>v=if 0<=s/\s<(g.b2.length:Int) then FK (eg d s.toNat) q else -1) (Tot.bp (λh=>?_) (λh=>.ao (if_neg h).symm)) λv hv=>?_
    ·rw [if_pos h];have aY:idx ((List.range g.b2.length).map λa=>lx (eg d a)) s=some (lx (eg d s.toNat)):=by
      grind [idx]
     have ug:(lx (eg d s.toNat)).ft.length<=100000:=by
      have h1:=tb (lQ (g_ (pos (eg d s.toNat)))) id (eg d s.toNat);have af:=wW d s.toNat;show (hN _ _ (eg d s.toNat)).length<=_;omega
     rw [aY];simp only [Option.bind_some];rw [g19 _ _ ug];unfold FK;simp only [Option.bind_some];by_cases af:(kQ (lx (eg d s.toNat)).ft q).2=true
     ·rw [if_pos af,af];exact .ao rfl
     ·have aI:(kQ (lx (eg d s.toNat)).ft q).2=false:=by simpa using af
      rw [if_neg af,aI];exact .ao rfl
    ·subst hv;simp only [Option.bind_some,e];exact ⟨.inl ((k+1:Nat):Int),by simp,aT,rfl,trivial⟩
   ·rcases x with x | x
    ·exact .ao ⟨by show -1<=s+1; omega,by show s<s+1; omega,by show s+1<=_; omega⟩
    grind
 ·rcases x with x | x
  ·rw [Nl];have e:=Mu cn aD a2;refine .aA (Ξ:=λc:Bool=>c=true) ?_ λc aa=>.ao aa;refine Tot.bp (λh1=>Tot.bp (λaf=>.ao rfl) (λaf=>?_)) (λh1=>?_)
   ·rw [e,if_neg (λh=>af h.2)];exact .ao rfl
   ·rw [e,if_neg (λh=>h1 h.1)];exact .ao rfl
  grind
end Go.Proofs
namespace Go.Own
open Go
section
variable {P:Program}{N:c5}{ops:Array Oper}{bf:List (List Nat)}{g g0:aK}{K:aK->Prop}{l:List Oper}{acc:Acc}{d i j t':Nat}{op:Op}{ty:TypeId}{pos:String}{after:Array Edge}{x:ab}{b c:Bool}
theorem gB (av:c=!b) (hk:ar P N ops l (cV g d (.bW [])) K) (h:(ops[j]?).bind (·.dst)=some t':=by rfl) (aO:g t'=some (.lit (.bool c)):=by rfl) (bd:N.ok d=true:=by rfl) (aW:g d=none:=by rfl):ar P N ops (⟨some d,op,ty,pos,after,some (j,b)⟩::l) g K:=.ps h aO av bd aW hk
theorem DX (hk:ar P N ops l (cV g d (.bW [])) K) (h:(ops[j]?).bind (·.dst)=some t':=by rfl) (aO:g t'=some (.bW []):=by rfl) (bd:N.ok d=true:=by rfl) (aW:g d=none:=by rfl):ar P N ops (⟨some d,op,ty,pos,after,some (j,b)⟩::l) g K:=.pu h aO bd aW hk
theorem ck (av:c=b) (au:cg P g op ty x) (hk:ar P N ops l (cV g d x) K) (h:(ops[j]?).bind (·.dst)=some t':=by rfl) (aO:g t'=some (.lit (.bool c)):=by rfl) (bd:N.ok d=true:=by rfl) (aW:g d=none:=by rfl):ar P N ops (⟨some d,op,ty,pos,after,some (j,b)⟩::l) g K:=.v au bd aW (.fp h aO av) hk
theorem Rc (hk:ar P N ops l (cV g d (.bW [])) K) (h:(ops[j]?).bind (·.dst)=some t':=by rfl) (aO:g t'=some (.lit (.bool c)):=by rfl) (av:c=!b:=by assumption) (bd:N.ok d=true:=by rfl) (aW:g d=none:=by rfl):ar P N ops (⟨some d,op,ty,pos,after,some (j,b)⟩::l) g K:=.ps h aO av bd aW hk
theorem fe (au:cg P g op ty x) (hk:ar P N ops l (cV g d x) K) (h:(ops[j]?).bind (·.dst)=some t':=by rfl) (aO:g t'=some (.lit (.bool c)):=by rfl) (av:c=b:=by assumption) (bd:N.ok d=true:=by rfl) (aW:g d=none:=by rfl):ar P N ops (⟨some d,op,ty,pos,after,some (j,b)⟩::l) g K:=.v au bd aW (.fp h aO av) hk
theorem ik (bG:Nat) (av:c=!b) (hk:bz P N ops bf g0 i ((bG,d,some (.bW []))::acc) l K) (h:(ops[j]?).bind (·.dst)=some t':=by rfl) (aO:jA bf g0 bG acc t'=some (a_ c):=by rfl) (ah:Nat.beq ops.size (bG+l.length+1)=true:=by rfl) (aW:g0 d=none:=by rfl) (aF:acc.all (λe=>!Nat.beq e.2.1 d)=true:=by rfl) (bd:N.ok d=true:=by rfl):bz P N ops bf g0 i acc (⟨some d,op,ty,pos,after,some (j,b)⟩::l) K:=.ps bG h aO av ah aW aF bd hk
theorem k6 (bG:Nat) (hk:bz P N ops bf g0 i ((bG,d,some (.bW []))::acc) l K) (h:(ops[j]?).bind (·.dst)=some t':=by rfl) (aO:jA bf g0 bG acc t'=some (.bW []):=by rfl) (ah:Nat.beq ops.size (bG+l.length+1)=true:=by rfl) (aW:g0 d=none:=by rfl) (aF:acc.all (λe=>!Nat.beq e.2.1 d)=true:=by rfl) (bd:N.ok d=true:=by rfl):bz P N ops bf g0 i acc (⟨some d,op,ty,pos,after,some (j,b)⟩::l) K:=.pu bG h aO ah aW aF bd hk
theorem iY (bG:Nat) (av:c=b) (au:cg P (jA bf g0 bG acc) op ty x) (hk:bz P N ops bf g0 i ((bG,d,some x)::acc) l K) (h:(ops[j]?).bind (·.dst)=some t':=by rfl) (aO:jA bf g0 bG acc t'=some (.lit (.bool c)):=by rfl) (ah:Nat.beq ops.size (bG+l.length+1)=true:=by rfl) (aW:g0 d=none:=by rfl) (aF:acc.all (λe=>!Nat.beq e.2.1 d)=true:=by rfl) (bd:N.ok d=true:=by rfl):bz P N ops bf g0 i acc (⟨some d,op,ty,pos,after,some (j,b)⟩::l) K:=.v bG au ah aW aF bd (.fp h aO av) hk
end
section
variable {P:Program}{N:c5}{ops:Array Oper}{g:aK}{K:aK->Prop}{l:List Oper}{A B:Code}{G G1:List (Nat × ab)}{Φ:Exit->aK->Prop}{t id:Nat}{b:Bool}{α:Type}{X Y o:α}
theorem W.cd (h:(bif b then X else Y)=o) (aa:get G t=some (a_ b)) (dM:b=true->X=o->W P N A (get G) Φ) (aN:b=false->Y=o->W P N B (get G) Φ):W P N (.cond (.tmp t) A B) (get G) Φ:=W.fF aa (λe=>dM e (Sz e h)) (λe=>aN e (Sy e h))
def pick (g:aK):List Nat->Option (List (Nat × ab))
 | []=>some []
 | k::ks=>match g k with
  | some x=>match pick g ks with
   | some l=>some ((k,x)::l)
   | none=>none
  | none=>none
class iz (l:List (Nat × ab)):Prop where p:∀ e∈l,cU e.2
instance:iz []:=⟨λ_ h=>by cases h⟩
instance {k:Nat}{x:ab}{l:List (Nat × ab)} [h:cf x] [ak:iz l]:iz ((k,x)::l):=⟨λe he=>by
 rcases List.mem_cons.1 he with rfl | he
 ·exact h.bl
 ·exact ak.p e he⟩
theorem uF {c:Bool}{g g2:aK}:∀ {ks:List Nat}{G1:List (Nat × ab)},pick g ks=some G1->(∀ e∈G1,cU e.2)->Trim c g g2 G1
 | [],_,h,_=>by cases h; exact .nil
 | k::ks,G1,h,aF=>by
  unfold pick at h
  split at h
  ·rename_i x J
   split at h
   ·rename_i l ak;cases h;have:cf x:=⟨aF (k,x) (by simp)⟩;exact .n J (uF ak λe he=>aF e (by simp [he]))
   ·cases h
  ·cases h
structure yR (ks:List Nat) (G1:List (Nat × ab)) (g':aK):Prop where p:kq g' (get G1)
theorem bM {ks:List Nat}(h:pick g ks=some G1) [aF:iz G1]:ar P N ops [] g (yR ks G1):=.nil ⟨(uF (c:=true) (g2:=get G1) h aF.p).eY⟩
theorem ON {l:List Oper}{ks:List Nat}(h:ar P N l.toArray l g (yR ks G1)):ar P N l.toArray l g λg'=>kq g' (get G1):=λi hi=>by
 obtain ⟨g',h1,af⟩:=h i hi;exact ⟨g',h1,af.p⟩
theorem ar.bV (ks:List Nat) (h:pick g ks=some G1) [aF:iz G1] (hk:ar P N ops l (get G1) K):ar P N ops l g K:=.Di (uF h aF.p) hk
theorem W.bV {l:List Oper}(ks:List Nat) (h:ar P N l.toArray l (get G) (yR ks G1)) (hk:aC .normal Φ G1):W P N (.region id l.toArray false) (get G) Φ:=W.rx G1 (ON h) hk
theorem W.rs {l:List Oper}(G1:List (Nat × ab)) (h:ar P N l.toArray l (get G) λg'=>kq g' (get G1)) (hk:W P N B (get G1) Φ):W P N (.seq (.region id l.toArray false) B) (get G) Φ:=W.bI (W.rx G1 h (aC.bA hk))
theorem W.cQ {l:List Oper}(ks:List Nat) (h:ar P N l.toArray l (get G) (yR ks G1)) (hk:W P N B (get G1) Φ):W P N (.seq (.region id l.toArray false) B) (get G) Φ:=W.rs G1 (ON h) hk
end
end Go.Own
namespace Go.Own
open Go
class fO (P:Program) (t:TypeId):Prop where p:jt P t=true:=by kernel_rfl
class iZ (P:Program) (t:TypeId):Prop where p:o3 P t=true:=by kernel_rfl
class er (P:Program) (t:TypeId) (e:outParam TypeId) (z:outParam Nat):Prop where p:fo P t e z=true:=by kernel_rfl
class c_ (P:Program) (s:TypeId) (f:Nat) (off:outParam Nat) (t:outParam TypeId):Prop where p:hR P s f off t=true:=by kernel_rfl
section
variable {P:Program}{N:c5}{ops:Array Oper}{g:aK}{K:aK->Prop}{l:List Oper}{ty t:TypeId}{a:Operand}{k r z n:Nat}{cs jJ:List ab}
theorem O.oW {v:Value}(aB:g r=some (.obj cs)) (J:Rd g a (.ptr ⟨r,[]⟩ k)) (aw:jt P t=true) (aa:cs[k]?=some (.lit v)):cg P g (.load t a) ty (.lit v):=O.mC aB J aw aa rfl
theorem O.zK (aB:g r=some (.obj cs)) (J:Rd g a (.ptr ⟨r,[]⟩ k)) (aw:jt P t=true) (aa:cs[k]?=some (.bk z n jJ)):cg P g (.load t a) ty (.bk z n jJ):=O.mC aB J aw aa rfl
theorem O.zL (aB:g r=some (.obj cs)) (J:Rd g a (.ptr ⟨r,[]⟩ k)) (aw:jt P t=true) (aa:cs[k]?=some (.own z n jJ)):cg P g (.load t a) ty (.a6 z ⟨r,[k]⟩ n):=O.mC aB J aw aa rfl
end
section
variable {P:Program}{N:c5}{ops:Array Oper}{g:aK}{K:aK->Prop}{l:List Oper}{t0 d:Nat}{t1 t2 ty:TypeId}{aD a2 a3:Operand}{nm:Nat}{v0:Value}{pos:String}{after:Array Edge}{op:Op}{abQ:Nat × Bool}
theorem ar.bO (op:Op) (u:Option (Nat × Bool)) (h:ar P N ops (⟨some d,op,ty,pos,after,u⟩::l) g K):ar P N ops (⟨some d,op,ty,pos,after,u⟩::l) g K:=h
theorem ar.nl (h:ar P N ops [] g K):ar P N ops [] g K:=h
theorem ar.bt (h:ar P N ops l g K:=by
(repeat' (first
 | exact gU .nil
 | exact .nil
 | refine .n rfl ?_
 | (first
  | ((with_reducible apply ar.bO (.move (.tmp _)) none); (first | refine b5 rfl ?_ | refine al (O.aZ (.bk rfl)) ?_ | refine al (O.aZ (.own rfl)) ?_ | refine al (O.aZ (.obj rfl)) ?_ | refine al (O.aZ (.cI rfl)) ?_ | refine al (O.aZ (.ptr rfl)) ?_ | refine al (O.aZ (.a6 rfl)) ?_))
  | ((with_reducible apply ar.bO (.load _ _) none); (first | refine al (O.oW rfl (.ptr rfl) fO.p rfl) ?_ | refine al (O.Cp (.cI rfl) fO.p rfl) ?_ | refine al (O.zK rfl (.ptr rfl) fO.p rfl) ?_ | refine al (O.oW rfl (.obj rfl) fO.p rfl) ?_ | refine al (O.zK rfl (.obj rfl) fO.p rfl) ?_ | refine al (O.zL rfl (.ptr rfl) fO.p rfl) ?_ | refine al (O.zL rfl (.obj rfl) fO.p rfl) ?_))
  | ((with_reducible apply ar.bO (.fieldAddr _ _ _) none); (first | refine al (O.ku rfl (.obj rfl) c_.p rfl) ?_ | refine al (O.Bl (.cI rfl) c_.p) ?_ | refine al (O.ku rfl (.ptr rfl) c_.p rfl) ?_))
  | ((with_reducible apply ar.bO (.assign (.tmp _)) none); (first | refine ny rfl ?_ | refine al (O.az (.bk rfl)) ?_ | refine al (O.az (.own rfl)) ?_ | refine al (O.az (.obj rfl)) ?_ | refine al (O.az (.cI rfl)) ?_ | refine al (O.az (.ptr rfl)) ?_ | refine al (O.az (.a6 rfl)) ?_))
  | ((with_reducible apply ar.bO (.assign (.const _)) none); (first | refine Lz rfl ?_ | refine al (O.az .xJ) ?_))
  | ((with_reducible apply ar.bO (.indexAddr _ _ _) none); (first | refine al (O.ri (.bk rfl) (.lit rfl) er.p (by assumption)) ?_ | refine al (O.ri (.bk rfl) (.k rfl) er.p (by assumption)) ?_))
  | ((with_reducible apply ar.bO (.binOp .add _ _ _ _) none); (first | refine al (O.add (.lit rfl) (.k rfl)) ?_ | refine al (O.add (.lit rfl) (.lit rfl)) ?_ | refine al (O.add (.k rfl) (.lit rfl)) ?_))
  | ((with_reducible apply ar.bO (.binOp .lss _ _ _ _) none); (first | refine al (O.lss (.lit rfl) (.k rfl)) ?_ | refine al (O.lss (.lit rfl) (.lit rfl)) ?_ | refine al (O.lss (.k rfl) (.lit rfl)) ?_))
  | ((with_reducible apply ar.bO (.binOp .eql _ _ _ _) none); (first | refine al (O.eql (.lit rfl) (.k rfl)) ?_ | refine al (O.eql (.lit rfl) (.lit rfl)) ?_ | refine al (O.eql (.k rfl) (.lit rfl)) ?_ | refine al (O.qf (.lit rfl) (.lit rfl)) ?_ | refine al (O.qf (.lit rfl) (.k rfl)) ?_))
  | ((with_reducible apply ar.bO (.binOp .neq _ _ _ _) none); (first | refine al (O.neq (.lit rfl) (.k rfl)) ?_ | refine al (O.neq (.lit rfl) (.lit rfl)) ?_ | refine al (O.neq (.k rfl) (.lit rfl)) ?_ | refine al (O.oo (.lit rfl) (.lit rfl)) ?_ | refine al (O.oo (.lit rfl) (.k rfl)) ?_))
  | ((with_reducible apply ar.bO (.binOp .geq _ _ _ _) none); (first | refine al (O.geq (.lit rfl) (.k rfl)) ?_ | refine al (O.geq (.lit rfl) (.lit rfl)) ?_ | refine al (O.geq (.k rfl) (.lit rfl)) ?_))
  | ((with_reducible apply ar.bO (.binOp .gtr _ _ _ _) none); (first | refine al (O.gtr (.lit rfl) (.k rfl)) ?_ | refine al (O.gtr (.lit rfl) (.lit rfl)) ?_ | refine al (O.gtr (.k rfl) (.lit rfl)) ?_))
  | ((with_reducible apply ar.bO (.binOp .sub _ _ _ _) none); (first | refine al (O.sub (.lit rfl) (.k rfl)) ?_ | refine al (O.sub (.lit rfl) (.lit rfl)) ?_ | refine al (O.sub (.k rfl) (.lit rfl)) ?_))
  | ((with_reducible apply ar.bO (.binOp .leq _ _ _ _) none); (first | refine al (O.leq (.lit rfl) (.k rfl)) ?_ | refine al (O.leq (.lit rfl) (.lit rfl)) ?_ | refine al (O.leq (.k rfl) (.lit rfl)) ?_))
  | ((with_reducible apply ar.bO (.pick _ _ _) none); (first | refine al (O.hW (.lit rfl) rfl (.lit rfl)) ?_ | refine al (O.dz (.lit rfl) rfl (.lit rfl)) ?_ | refine al (O.hW (.lit rfl) rfl (.k rfl)) ?_ | refine al (O.dz (.lit rfl) rfl (.k rfl)) ?_ | refine al (O.hW (.lit rfl) (by assumption) (.lit rfl)) ?_ | refine al (O.dz (.lit rfl) (by assumption) (.lit rfl)) ?_ | refine al (O.hW (.lit rfl) (by assumption) (.k rfl)) ?_ | refine al (O.dz (.lit rfl) (by assumption) (.k rfl)) ?_))
  | ((with_reducible apply ar.bO (.call { callee:=.builtin .len,args:=#[_],argTypes:=#[_] }) none); (first | refine al (O.kz (.bk rfl) er.p) ?_ | refine al (O.mD (.a6 rfl) er.p) ?_ | refine al (O.mD (.own rfl) er.p) ?_ | refine al (O.ux (.lit rfl) iZ.p) ?_))
  | ((with_reducible apply ar.bO (.unOp .not _ _) none); (first | refine al (O.not (.lit rfl)) ?_))
  | ((with_reducible apply ar.bO (.nilCheck _) none); (first | refine al (O.eV (.ptr rfl)) ?_ | refine al (O.xP (.cI rfl)) ?_ | refine al (O.eV (.obj rfl)) ?_))
  | ((with_reducible apply ar.bO (.index _ _ _) none); (first | refine al (O.mm (.lit rfl) (.lit rfl) iZ.p (by assumption)) ?_))
  | ((with_reducible apply ar.bO (.move (.const _)) none); (first | refine al (O.aZ (.k rfl)) ?_ | refine al (O.aZ .xJ) ?_)))
 | ((with_reducible apply ar.nl); first | exact bM rfl | refine gU ?_)
 | ((with_reducible apply ar.bO _ (some _)); first
  | (first | refine gB rfl ?_ | refine Rc ?_ | refine DX ?_)
  | ((with_reducible apply ar.bO (.move (.tmp _)) (some _)); (first | refine ck rfl (O.aZ (.lit rfl)) ?_ | refine fe (O.aZ (.lit rfl)) ?_ | refine ck rfl (O.aZ (.bk rfl)) ?_ | refine fe (O.aZ (.bk rfl)) ?_ | refine ck rfl (O.aZ (.own rfl)) ?_ | refine fe (O.aZ (.own rfl)) ?_ | refine ck rfl (O.aZ (.obj rfl)) ?_ | refine fe (O.aZ (.obj rfl)) ?_ | refine ck rfl (O.aZ (.cI rfl)) ?_ | refine fe (O.aZ (.cI rfl)) ?_ | refine ck rfl (O.aZ (.ptr rfl)) ?_ | refine fe (O.aZ (.ptr rfl)) ?_ | refine ck rfl (O.aZ (.a6 rfl)) ?_ | refine fe (O.aZ (.a6 rfl)) ?_))
  | ((with_reducible apply ar.bO (.load _ _) (some _)); (first | refine ck rfl (O.oW rfl (.ptr rfl) fO.p rfl) ?_ | refine fe (O.oW rfl (.ptr rfl) fO.p rfl) ?_ | refine ck rfl (O.Cp (.cI rfl) fO.p rfl) ?_ | refine fe (O.Cp (.cI rfl) fO.p rfl) ?_ | refine ck rfl (O.zK rfl (.ptr rfl) fO.p rfl) ?_ | refine fe (O.zK rfl (.ptr rfl) fO.p rfl) ?_ | refine ck rfl (O.oW rfl (.obj rfl) fO.p rfl) ?_ | refine fe (O.oW rfl (.obj rfl) fO.p rfl) ?_ | refine ck rfl (O.zK rfl (.obj rfl) fO.p rfl) ?_ | refine fe (O.zK rfl (.obj rfl) fO.p rfl) ?_ | refine ck rfl (O.zL rfl (.ptr rfl) fO.p rfl) ?_ | refine fe (O.zL rfl (.ptr rfl) fO.p rfl) ?_ | refine ck rfl (O.zL rfl (.obj rfl) fO.p rfl) ?_ | refine fe (O.zL rfl (.obj rfl) fO.p rfl) ?_))
  | ((with_reducible apply ar.bO (.fieldAddr _ _ _) (some _)); (first | refine ck rfl (O.ku rfl (.obj rfl) c_.p rfl) ?_ | refine fe (O.ku rfl (.obj rfl) c_.p rfl) ?_ | refine ck rfl (O.Bl (.cI rfl) c_.p) ?_ | refine fe (O.Bl (.cI rfl) c_.p) ?_ | refine ck rfl (O.ku rfl (.ptr rfl) c_.p rfl) ?_ | refine fe (O.ku rfl (.ptr rfl) c_.p rfl) ?_))
  | ((with_reducible apply ar.bO (.indexAddr _ _ _) (some _)); (first | refine ck rfl (O.ri (.bk rfl) (.lit rfl) er.p (by assumption)) ?_ | refine fe (O.ri (.bk rfl) (.lit rfl) er.p (by assumption)) ?_ | refine ck rfl (O.ri (.bk rfl) (.k rfl) er.p (by assumption)) ?_ | refine fe (O.ri (.bk rfl) (.k rfl) er.p (by assumption)) ?_))
  | ((with_reducible apply ar.bO (.binOp .add _ _ _ _) (some _)); (first | refine ck rfl (O.add (.lit rfl) (.k rfl)) ?_ | refine fe (O.add (.lit rfl) (.k rfl)) ?_ | refine ck rfl (O.add (.lit rfl) (.lit rfl)) ?_ | refine fe (O.add (.lit rfl) (.lit rfl)) ?_ | refine ck rfl (O.add (.k rfl) (.lit rfl)) ?_ | refine fe (O.add (.k rfl) (.lit rfl)) ?_))
  | ((with_reducible apply ar.bO (.binOp .lss _ _ _ _) (some _)); (first | refine ck rfl (O.lss (.lit rfl) (.k rfl)) ?_ | refine fe (O.lss (.lit rfl) (.k rfl)) ?_ | refine ck rfl (O.lss (.lit rfl) (.lit rfl)) ?_ | refine fe (O.lss (.lit rfl) (.lit rfl)) ?_ | refine ck rfl (O.lss (.k rfl) (.lit rfl)) ?_ | refine fe (O.lss (.k rfl) (.lit rfl)) ?_))
  | ((with_reducible apply ar.bO (.binOp .eql _ _ _ _) (some _)); (first | refine ck rfl (O.eql (.lit rfl) (.k rfl)) ?_ | refine fe (O.eql (.lit rfl) (.k rfl)) ?_ | refine ck rfl (O.eql (.lit rfl) (.lit rfl)) ?_ | refine fe (O.eql (.lit rfl) (.lit rfl)) ?_ | refine ck rfl (O.eql (.k rfl) (.lit rfl)) ?_ | refine fe (O.eql (.k rfl) (.lit rfl)) ?_ | refine ck rfl (O.qf (.lit rfl) (.lit rfl)) ?_ | refine fe (O.qf (.lit rfl) (.lit rfl)) ?_ | refine ck rfl (O.qf (.lit rfl) (.k rfl)) ?_ | refine fe (O.qf (.lit rfl) (.k rfl)) ?_))
  | ((with_reducible apply ar.bO (.binOp .neq _ _ _ _) (some _)); (first | refine ck rfl (O.neq (.lit rfl) (.k rfl)) ?_ | refine fe (O.neq (.lit rfl) (.k rfl)) ?_ | refine ck rfl (O.neq (.lit rfl) (.lit rfl)) ?_ | refine fe (O.neq (.lit rfl) (.lit rfl)) ?_ | refine ck rfl (O.neq (.k rfl) (.lit rfl)) ?_ | refine fe (O.neq (.k rfl) (.lit rfl)) ?_ | refine ck rfl (O.oo (.lit rfl) (.lit rfl)) ?_ | refine fe (O.oo (.lit rfl) (.lit rfl)) ?_ | refine ck rfl (O.oo (.lit rfl) (.k rfl)) ?_ | refine fe (O.oo (.lit rfl) (.k rfl)) ?_))
  | ((with_reducible apply ar.bO (.binOp .geq _ _ _ _) (some _)); (first | refine ck rfl (O.geq (.lit rfl) (.k rfl)) ?_ | refine fe (O.geq (.lit rfl) (.k rfl)) ?_ | refine ck rfl (O.geq (.lit rfl) (.lit rfl)) ?_ | refine fe (O.geq (.lit rfl) (.lit rfl)) ?_ | refine ck rfl (O.geq (.k rfl) (.lit rfl)) ?_ | refine fe (O.geq (.k rfl) (.lit rfl)) ?_))
  | ((with_reducible apply ar.bO (.binOp .gtr _ _ _ _) (some _)); (first | refine ck rfl (O.gtr (.lit rfl) (.k rfl)) ?_ | refine fe (O.gtr (.lit rfl) (.k rfl)) ?_ | refine ck rfl (O.gtr (.lit rfl) (.lit rfl)) ?_ | refine fe (O.gtr (.lit rfl) (.lit rfl)) ?_ | refine ck rfl (O.gtr (.k rfl) (.lit rfl)) ?_ | refine fe (O.gtr (.k rfl) (.lit rfl)) ?_))
  | ((with_reducible apply ar.bO (.binOp .sub _ _ _ _) (some _)); (first | refine ck rfl (O.sub (.lit rfl) (.k rfl)) ?_ | refine fe (O.sub (.lit rfl) (.k rfl)) ?_ | refine ck rfl (O.sub (.lit rfl) (.lit rfl)) ?_ | refine fe (O.sub (.lit rfl) (.lit rfl)) ?_ | refine ck rfl (O.sub (.k rfl) (.lit rfl)) ?_ | refine fe (O.sub (.k rfl) (.lit rfl)) ?_))
  | ((with_reducible apply ar.bO (.binOp .leq _ _ _ _) (some _)); (first | refine ck rfl (O.leq (.lit rfl) (.k rfl)) ?_ | refine fe (O.leq (.lit rfl) (.k rfl)) ?_ | refine ck rfl (O.leq (.lit rfl) (.lit rfl)) ?_ | refine fe (O.leq (.lit rfl) (.lit rfl)) ?_ | refine ck rfl (O.leq (.k rfl) (.lit rfl)) ?_ | refine fe (O.leq (.k rfl) (.lit rfl)) ?_))
  | ((with_reducible apply ar.bO (.call { callee:=.builtin .len,args:=#[_],argTypes:=#[_] }) (some _)); (first | refine ck rfl (O.kz (.bk rfl) er.p) ?_ | refine fe (O.kz (.bk rfl) er.p) ?_ | refine ck rfl (O.mD (.a6 rfl) er.p) ?_ | refine fe (O.mD (.a6 rfl) er.p) ?_ | refine ck rfl (O.mD (.own rfl) er.p) ?_ | refine fe (O.mD (.own rfl) er.p) ?_ | refine ck rfl (O.ux (.lit rfl) iZ.p) ?_ | refine fe (O.ux (.lit rfl) iZ.p) ?_))
  | ((with_reducible apply ar.bO (.unOp .not _ _) (some _)); (first | refine ck rfl (O.not (.lit rfl)) ?_ | refine fe (O.not (.lit rfl)) ?_))
  | ((with_reducible apply ar.bO (.nilCheck _) (some _)); (first | refine ck rfl (O.eV (.ptr rfl)) ?_ | refine fe (O.eV (.ptr rfl)) ?_ | refine ck rfl (O.xP (.cI rfl)) ?_ | refine fe (O.xP (.cI rfl)) ?_ | refine ck rfl (O.eV (.obj rfl)) ?_ | refine fe (O.eV (.obj rfl)) ?_))
  | ((with_reducible apply ar.bO (.index _ _ _) (some _)); (first | refine ck rfl (O.mm (.lit rfl) (.lit rfl) iZ.p (by assumption)) ?_ | refine fe (O.mm (.lit rfl) (.lit rfl) iZ.p (by assumption)) ?_)))))):ar P N ops l g K:=h
theorem W.Rv {id:Nat}{l:List Oper}{G G1:List (Nat × ab)}{Φ:Exit->aK->Prop}(ks:List Nat) (hk:aC .normal Φ G1) (h:ar P N l.toArray l (get G) (yR ks G1):=by exact ar.bt):W P N (.region id l.toArray false) (get G) Φ:=W.bV ks h hk
theorem W.cC {id:Nat}{l:List Oper}{B:Code}{G G1:List (Nat × ab)}{Φ:Exit->aK->Prop}(ks:List Nat) (hk:W P N B (get G1) Φ) (h:ar P N l.toArray l (get G) (yR ks G1):=by exact ar.bt):W P N (.seq (.region id l.toArray false) B) (get G) Φ:=W.cQ ks h hk
end
end Go.Own
namespace Go.Own
open Go
section
variable {P:Program}{N:c5}{G:List (Nat × ab)}{g':aK}
theorem ja {rs:List ResultVar}{ys xs:List ab}{res:ab}{outs:List (Option ab)}{n:Nat}(h:j6 P (get G) rs ys xs g') (he:qF xs=res:=by rfl) (a1:qW g' N.pins 0 outs:=by (repeat' first | exact .nil | refine .no ?_)) (fm:(rs.filterMap fun | .cell t _=>some t | _=>none).Nodup:=by exact of_decide_eq_true (by kernel_rfl)) (ak:outs.length=n:=by rfl):aC .ret (p4 P N rs n outs res) G:=aC.fin (Fin.ro h he fm a1 ak (.inr rfl))
end
end Go.Own
namespace Go.Own
open Go
section
variable {P:Program}{N:c5}{G:List (Nat × ab)}{g':aK}{S R:Type}
theorem aM {α β:Type}{x:Option α}{f:α->Option β}{r:β}{G:Prop}(h:x.bind f=some r) (k:∀ a,x=some a->f a=some r->G):G:=by
 obtain ⟨a,h1,af⟩:=la h
 grind
theorem Rd.bn {g:aK}{t:Nat}{v:Value}(h:g t=some (.lit v):=by rfl):Rd g (.tmp t) (.lit v):=.lit h
theorem Rd.z2 {g:aK}{t z n:Nat}{cs:List ab}(h:g t=some (.bk z n cs):=by rfl):Rd g (.tmp t) (.bk z n cs):=.bk h
theorem Rd.z3 {g:aK}{t z n:Nat}{cs:List ab}(h:g t=some (.own z n cs):=by rfl):Rd g (.tmp t) (.a6 z ⟨t,[]⟩ n):=.own h
theorem Rd.z4 {g:aK}{t:Nat}{c:ab}{cs:List ab}(h:g t=some (.obj (c::cs)):=by rfl):Rd g (.tmp t) (.ptr ⟨t,[]⟩ 0):=.obj h
theorem Rd.z5 {g:aK}{t k:Nat}{p:Place}(h:g t=some (.ptr p k):=by rfl):Rd g (.tmp t) (.ptr p k):=.ptr h
theorem Rd.dj {g:aK}{t z n:Nat}{p:Place}(h:g t=some (.a6 z p n):=by rfl):Rd g (.tmp t) (.a6 z p n):=.a6 h
theorem Rd.nZ {g:aK}{t:Nat}{cs:List ab}(h:g t=some (.cI cs):=by rfl):Rd g (.tmp t) (.cI cs):=.cI h
theorem Rd.cN {g:aK}{v:Value}(h:ofConst v=.lit v:=by rfl):Rd g (.const v) (.lit v):=.k h
theorem aC.d' {G1:List (Nat × ab)}(h:Trim true (get G) (get G1) G1:=by (repeat' first | exact .nil | refine .n rfl ?_)):aC .normal (λe g=>e=.normal/\ij g G1) G:=aC.dF h
theorem aC.gt {s:S}{F:S->List (Nat × ab)}{Ψ:R->Exit->aK->Prop}(h:Trim true (get G) (get (F s)) (F s):=by (repeat' first | exact .nil | refine .n rfl ?_)):aC .normal (k_ F Ψ (.inl s)) G:=aC.go h
theorem aC.t1 {id:Nat}{r:R}{F:S->List (Nat × ab)}{mh:R->List (Nat × ab)}(h:Trim true (get G) (get (mh r)) (mh r):=by (repeat' first | exact .nil | refine .n rfl ?_)):aC (.exit id) (k_ F (λr e g=>e=.exit id/\ij g (mh r)) (.inr r)) G:=aC.a8 h
theorem rI {rs:List ResultVar}{ys xs:List ab}{res:ab}{outs:List (Option ab)}{n:Nat}(h:j6 P (get G) rs ys xs g':=by exact .f rfl rfl .nil) (he:qF xs=res:=by rfl) (a1:qW g' N.pins 0 outs:=by (repeat' first | exact .nil | refine .no ?_)) (fm:(rs.filterMap fun | .cell t _=>some t | _=>none).Nodup:=by exact of_decide_eq_true (by kernel_rfl)) (ak:outs.length=n:=by rfl):aC .ret (p4 P N rs n outs res) G:=by grind [ja]
end
end Go.Own
namespace Go.Own
open Go
section
variable {α:Type}{P:Program}{g:aK}{ty t:TypeId}{a b:Operand}{k r z n:Nat}{cs cs':List ab}{x y:ab}{p:Place}{m:Int}{s0:IntKind}{e:TypeId}{N:c5}{ops:Array Oper}
theorem O.bx {cT f off:Nat} [h:c_ P cT f off t] (J:Rd g a (.ptr ⟨r,[]⟩ k):=by exact .obj rfl) (aB:g r=some (.obj cs):=by rfl) (ak:Nat.blt (k+off) cs.length=true:=by rfl):cg P g (.fieldAddr cT a f) ty (.ptr ⟨r,[]⟩ (k+off)):=O.ku aB J h.p ak
theorem O.y2 {cT f off:Nat} [h:c_ P cT f off t] (J:Rd g a (.ptr ⟨r,[]⟩ k):=by exact .ptr rfl) (aB:g r=some (.obj cs):=by rfl) (ak:Nat.blt (k+off) cs.length=true:=by rfl):cg P g (.fieldAddr cT a f) ty (.ptr ⟨r,[]⟩ (k+off)):=O.ku aB J h.p ak
theorem O.ef {v:Value} [h:fO P t] (J:Rd g a (.ptr ⟨r,[]⟩ k):=by exact .ptr rfl) (aB:g r=some (.obj cs):=by rfl) (aa:cs[k]?=some (.lit v):=by rfl):cg P g (.load t a) ty (.lit v):=O.oW aB J h.p aa
theorem O.eS {en:bK α}{L:List α}{y:α}{bC:Nat}(h:idx L m=some y) [aI:er P t e bC] (J:Rd g a (.bk en.z L.length (bo en L)):=by exact .bk rfl) (ax:Rd g b (.lit (.int s0 m)):=by exact .lit rfl) (aX:bC=en.z:=by rfl):cg P g (.indexAddr t a b) ty (.cI (en.cells y++bo en (L.drop (m.toNat+1)))):=O.ri J ax (aX ▸ aI.p) h
theorem O.c7 [h:fO P t] (J:Rd g a (.ptr ⟨r,[]⟩ k):=by exact .ptr rfl) (aB:g r=some (.obj cs):=by rfl) (aa:cs[k]?=some x:=by rfl) (ax:gr 0 ⟨r,[k]⟩ x=y:=by rfl):cg P g (.load t a) ty y:=O.mC aB J h.p aa ax
theorem O.fN [h:fO P t] (J:Rd g a (.cI cs):=by exact .cI rfl) (aa:cs.head?=some x:=by rfl):cg P g (.load t a) ty x:=O.Cp J h.p aa
theorem O.iW {cT f off:Nat} [h:c_ P cT f off t] (J:Rd g a (.cI cs):=by exact .cI rfl):cg P g (.fieldAddr cT a f) ty (.cI (cs.drop off)):=O.Bl J h.p
theorem O.iX {bC:Nat} [h:er P t e bC] (J:Rd g a (.bk z n cs):=by exact .bk rfl):cg P g (.call { callee:=.builtin .len,args:=#[a],argTypes:=#[t] }) ty (ae n):=O.kz J h.p
theorem cJ.fB {xs:List Operand}{gm:Array TypeId}{f:FuncId}{ys:List ab}{outs:List (Option ab)}{res:ab}(J:qV g xs ys) (gQ:bU P f ys outs res) [aq:cf res] (aW:gN P f=true:=by kernel_rfl) (a1:sl outs=true:=by rfl):cJ P g (.call { callee:=.value (.func f),args:=xs.toArray,argTypes:=gm }) res:=by grind [cJ.go]
theorem cJ.pY {xs:List Operand}{gm:Array TypeId}{f:FuncId}{ys args:List ab}{outs:List (Option ab)}{res:ab}(J:gl g xs=some ys) (hv:oG g ys args) (gQ:bU P f args outs res) [aq:p5 res] (aW:gN P f=true:=by kernel_rfl) (a1:sl outs=true:=by rfl):cJ P g (.call { callee:=.value (.func f),args:=xs.toArray,argTypes:=gm }) res:=by grind [cJ.vw]
end
section
variable {P:Program}{N:c5}{ops:Array Oper}{bf:List (List Nat)}{K:aK->Prop}{i:Nat}{acc:Acc}{l:List Oper}{d:Nat}
theorem bz.hI (bG:Nat) {G G2:List (Nat × ab)}{o:Oper}(he:bm P N (dg (get G) (λ_=>true) acc) o (get G2)) (hk:bz P N ops bf (get G2) (bG+1) [] l K) (aO:o.guard=none:=by rfl) (gR:rj ((acc.filterMap j0).map Place.root)=true:=by rfl) (fH:ma G=true:=by rfl) (ah:Nat.beq ops.size (bG+l.length+1)=true:=by rfl) (aP:(List.range bG).all (λk=>(bf.getD bG []).contains k)=true:=by kernel_rfl) (av:(List.range ops.size).all (λk=>Nat.ble k bG||(bf.getD k []).contains bG)=true:=by kernel_rfl):bz P N ops bf (get G) i acc (o::l) K:=.wM bG he aO gR fH ah aP av hk
theorem bz.D9 (bG:Nat) {G G2:List (Nat × ab)}{o:Oper}{x:ab}(he:bm P N (dg (get G) (λ_=>true) acc) o (cV (get G2) d x)) (hk:bz P N ops bf (get ((d,x)::G2)) (bG+1) [] l K) (aO:o.guard=none:=by rfl) (gR:rj ((acc.filterMap j0).map Place.root)=true:=by rfl) (fH:ma G=true:=by rfl) (ah:Nat.beq ops.size (bG+l.length+1)=true:=by rfl) (aP:(List.range bG).all (λk=>(bf.getD bG []).contains k)=true:=by kernel_rfl) (av:(List.range ops.size).all (λk=>Nat.ble k bG||(bf.getD k []).contains bG)=true:=by kernel_rfl):bz P N ops bf (get G) i acc (o::l) K:=.bv bG he aO gR fH ah aP av hk
end
end Go.Own
namespace Go.Own
open Go
set_option linter.unusedVariables false
def o2:List ab->Nat->List ab->Option (List ab)
 | [],0,[]=>some []
 | [],_,_=>none
 | x::l,0,[]=>some (x::l)
 | _::l,0,y::c=>match o2 l 0 c with
  | some r=>some (y::r)
  | none=>none
 | x::l,k+1,c=>match o2 l k c with
  | some r=>some (x::r)
  | none=>none
theorem lU:∀ {l:List ab}{k:Nat}{c r:List ab},o2 l k c=some r->e5 l k c=r/\k+c.length<=l.length
 | [],0,[],r,h=>by cases h; exact ⟨rfl,Nat.le_refl _⟩
 | [],0,_::_,_,h=>by cases h
 | [],_+1,_,_,h=>by cases h
 | x::l,0,[],r,h=>by cases h; exact ⟨by simp [e5],by simp⟩
 | x::l,0,y::c,r,h=>by
  unfold o2 at h
  split at h
  ·rename_i dm aq;cases h;obtain ⟨h1,af⟩:=lU aq;subst h1;exact ⟨by simp [e5],by simp at af ⊢; omega⟩
  ·cases h
 | x::l,k+1,c,r,h=>by
  unfold o2 at h
  split at h
  ·rename_i dm aq;cases h;obtain ⟨h1,af⟩:=lU aq;subst h1;exact ⟨by simp [e5,Nat.add_right_comm],by simp; omega⟩
  ·cases h
theorem Dd {g g2:aK}{r:Nat}{cs2:List ab}:∀ {ks:List Nat}{G1:List (Nat × ab)},pick (cV g r (.obj cs2)) ks=some G1->(∀ e∈G1,cU e.2)->k' g g2 r cs2 G1
 | [],_,h,_=>by cases h; exact .nil
 | k::ks,G1,h,aF=>by
  unfold pick at h
  split at h
  ·rename_i x J
   split at h
   ·rename_i l ak;cases h;have aw:=Dd (g2:=g2) ak λe he=>aF e (by simp [he]);by_cases e:k=r
    ·subst e;have e:x=.obj cs2:=by simpa [cV] using J.symm
     subst e;have J:cU (.obj cs2):=aF (k,.obj cs2) (by simp);have:dp cs2:=⟨by cases J; assumption⟩;exact .b rfl aw
    ·have:cf x:=⟨aF (k,x) (by simp)⟩;exact .n (by rw [<- Bool.not_eq_true,Nat.beq_eq]; exact e) (by simpa [cV,e] using J) aw
   ·cases h
  ·cases h
theorem Ki {g g2:aK}{ex:List Nat}:∀ {ks:List Nat}{G1:List (Nat × ab)},pick g ks=some G1->(ks.all λk=>!ex.elem k)=true->(∀ e∈G1,cU e.2)->mQ ex g g2 G1
 | [],_,h,_,_=>by cases h; exact .nil
 | k::ks,G1,h,he,aF=>by
  unfold pick at h;rw [List.all_cons,Bool.and_eq_true] at he
  split at h
  ·rename_i x J
   split at h
   ·rename_i l ak;cases h;have:cf x:=⟨aF (k,x) (by simp)⟩;exact .n (by simpa using he.1) J (Ki ak he.2 λe h=>aF e (by simp [h]))
   ·cases h
  ·cases h
def Fj:List ab->Option (List ab)
 | []=>some []
 | x::l=>match Fj l with
  | some r=>some (x::r)
  | none=>none
theorem O2:∀ {l r:List ab},Fj l=some r->l=r
 | [],r,h=>by cases h; rfl
 | x::l,r,h=>by
  unfold Fj at h
  split at h
  ·rename_i dm aq;cases h; rw [O2 aq]
  ·cases h
def Fk:ab->Option ab
 | .obj cs=>match Fj cs with
  | some r=>some (.obj r)
  | none=>none
 | .own z n cs=>some (.own z n cs)
 | _=>none
theorem O3 {x y:ab}(h:Fk x=some y):x=y:=by
 unfold Fk at h
 grind [O2]
theorem Kj {g g2:aK}{r:Nat}{x2:ab}:∀ {ks:List Nat}{G1:List (Nat × ab)},pick (cV g r x2) ks=some G1->(∀ e∈G1,cU e.2)->kK g g2 r x2 G1
 | [],_,h,_=>by cases h; exact .nil
 | k::ks,G1,h,aF=>by
  unfold pick at h
  split at h
  ·rename_i x J
   split at h
   ·rename_i l ak;cases h;have aw:=Kj (g2:=g2) ak λe he=>aF e (by simp [he]);by_cases e:k=r
    ·subst e;have e:x=x2:=by simpa [cV] using J.symm
     subst e;have:cf x:=⟨aF (k,x) (by simp)⟩;exact .b rfl aw
    ·have:cf x:=⟨aF (k,x) (by simp)⟩;exact .n (by rw [<- Bool.not_eq_true,Nat.beq_eq]; exact e) (by simpa [cV,e] using J) aw
   ·cases h
  ·cases h
section
variable {P:Program}{N:c5}{ops:Array Oper}{g:aK}{K:aK->Prop}{l:List Oper}{d r k0:Nat}{ty t:TypeId}{pos:String}{after:Array Edge}{a b x:Operand}{cs cs' cs2:List ab}{y:ab}{G2:List (Nat × ab)}{u:Option (Nat × Bool)}{p q:Place}
theorem Rd.QL {α:Type}{en:bK α}{L:List α}{t:Nat}(h:g t=some (ag en L)):Rd g (.tmp t) (ag en L):=.bk h
theorem bm.gK (ks:List Nat) (aP:Rd g a (.ptr ⟨r,[]⟩ k0):=by (first | exact .obj rfl | exact .ptr rfl)) (aB:g r=some (.obj cs):=by rfl) (av:Rd g b (.agg cs'):=by (first | exact .dJ rfl rfl | exact .JK rfl)) (he:o2 cs k0 cs'=some cs2:=by rfl) (au:pick (cV g r (.obj cs2)) ks=some G2:=by rfl) (aX:hq P t cs'.length=true:=by kernel_rfl) (aQ:Nat.blt 0 cs'.length=true:=by rfl) (aq:(get G2 r).isSome=true:=by rfl) [aF:dp cs'] [e9:dp cs] [aO:iz G2]:bm P N g ⟨none,.store t a b,ty,pos,after,none⟩ (get G2) :=
 .ji rfl rfl aB aP av rfl aX (Nat.ble_eq_true_of_le (lU he).2) aQ (lU he).1 aq (Dd au aO.p)
theorem bm.ns (ks:List Nat) (aP:Rd g a (.ptr ⟨r,[]⟩ k0):=by (first | exact .ptr rfl | exact .obj rfl)) (aB:g r=some (.obj cs):=by rfl) (av:Rd g b y:=by (first | exact .lit rfl | exact .k rfl | exact .QL rfl | exact .xJ | exact .bk rfl)) (aa:oK y=some [y]:=by rfl) (he:o2 cs k0 [y]=some cs2:=by rfl) (au:pick (cV g r (.obj cs2)) ks=some G2:=by rfl) (aX:hq P t 1=true:=by kernel_rfl) (aq:(get G2 r).isSome=true:=by rfl) [aF:cf y] [e9:dp cs] [aO:iz G2]:bm P N g ⟨none,.store t a b,ty,pos,after,none⟩ (get G2) :=
 .ji rfl rfl aB aP av aa aX (Nat.ble_eq_true_of_le (lU he).2) rfl (lU he).1 aq (Dd au aO.p)
theorem bm.jH {α:Type}{en:bK α}{L:List α}(ks:List Nat) (J:Rd g x (.a6 en.z p L.length):=by (first | exact .own rfl | exact .a6 rfl)) (au:bB g p=some (aj en L):=by rfl) (hk:pick g ks=some G2:=by rfl) (dq:(ks.all λk=>![p.root].elem k)=true:=by rfl) (aO:get G2 d=none:=by rfl) (bd:N.ok d=true:=by rfl) [aF:iz G2]:bm P N g ⟨some d,.assign x,ty,pos,after,u⟩ (cV (get G2) d (aj en L)) :=
 .y3 rfl rfl J au (Ki hk dq aF.p) aO bd
theorem bm.wF {α:Type}{en:bK α}{L M:List α}{s:Nat}(ks:List Nat) (J:Rd g x (.a6 en.z ⟨s,[]⟩ (L.length+M.length)):=by exact .bL rfl) (aB:g s=some (.bL en.z q L.length M.length (bo en M)):=by rfl) (au:bB g q=some (aj en L):=by rfl) (hk:pick g ks=some G2:=by rfl) (dq:(ks.all λk=>![s,q.root].elem k)=true:=by rfl) (bg:Nat.beq q.root s=false:=by rfl) (aO:get G2 d=none:=by rfl) (bd:N.ok d=true:=by rfl) [aF:iz G2]:bm P N g ⟨some d,.assign x,ty,pos,after,u⟩ (cV (get G2) d (aj en (L++M))) :=
 .LC rfl rfl J aB au bg (Ki hk dq aF.p) aO bd
theorem bm.sp {α:Type}{en:bK α}{L M:List α}{s:Nat}{ju:List ab}(ks:List Nat) (av:Rd g b (.a6 en.z ⟨s,[]⟩ (L.length+M.length)):=by exact .bL rfl) (qn:g s=some (.bL en.z q L.length M.length (bo en M)):=by rfl) (au:bB g q=some (aj en L):=by rfl) (aP:Rd g a (.ptr ⟨r,[]⟩ k0):=by (first | exact .ptr rfl | exact .obj rfl)) (aB:cu (cu g ⟨s,[]⟩ .dead) q .dead r=some (.obj ju):=by rfl) (he:o2 ju k0 [aj en (L++M)]=some cs2:=by rfl) (hk:pick (cV (cu (cu g ⟨s,[]⟩ .dead) q .dead) r (.obj cs2)) ks=some G2:=by rfl) (bg:Nat.beq q.root s=false:=by rfl) (aX:hq P t 1=true:=by kernel_rfl) (aq:(get G2 r).isSome=true:=by rfl) [e9:dp ju] [aO:iz G2]:bm P N g ⟨none,.store t a b,ty,pos,after,none⟩ (get G2) :=
 .F7 rfl rfl aP av qn au bg .kB .h3 rfl rfl aX aB (Nat.ble_eq_true_of_le (lU he).2) (lU he).1 aq (Dd hk aO.p)
theorem bm.th {α:Type}{en:bK α}{L:List α}{ju:List ab}(ks:List Nat) (av:Rd g b (.a6 en.z p L.length):=by (first | exact .own rfl | exact .a6 rfl)) (au:bB g p=some (aj en L):=by rfl) (aP:Rd g a (.ptr ⟨r,[]⟩ k0):=by (first | exact .ptr rfl | exact .obj rfl)) (aB:cu g p .dead r=some (.obj ju):=by rfl) (he:o2 ju k0 [aj en L]=some cs2:=by rfl) (hk:pick (cV (cu g p .dead) r (.obj cs2)) ks=some G2:=by rfl) (aX:hq P t 1=true:=by kernel_rfl) (aq:(get G2 r).isSome=true:=by rfl) [e9:dp ju] [aO:iz G2]:bm P N g ⟨none,.store t a b,ty,pos,after,none⟩ (get G2) :=
 .pX rfl rfl aP av (.r au .nil) .refl rfl aX aB (Nat.ble_eq_true_of_le (lU he).2) rfl (lU he).1 aq (Dd hk aO.p)
theorem bm.rC {α:Type}{en:bK α}{L:List α}{jl y2:α}{m:Int}{o:Nat}{eC x2 y0:ab}(ks:List Nat) (h:idx L m=some jl) (aP:Rd g a (.ptr p (m.toNat * en.z+o)):=by exact .ptr rfl) (au:bB g p=some (aj en L):=by rfl) (av:Rd g b y:=by (first | exact .lit rfl | exact .k rfl | exact .QL rfl | exact .xJ | exact .bk rfl | exact .dJ rfl rfl)) (aa:oK y=some cs':=by rfl) (he:e5 (en.cells jl) o cs'=en.cells y2:=by rfl) (iH:cu g p (aj en (L.set m.toNat y2)) p.root=some eC:=by rfl) (iw:Fk eC=some x2:=by rfl) (hk:pick (cV g p.root x2) ks=some G2:=by rfl) (aX:hq P t cs'.length=true:=by kernel_rfl) (hlen:Nat.ble (o+cs'.length) en.z=true:=by rfl) (aQ:Nat.blt 0 cs'.length=true:=by rfl) (aq:(get G2 p.root).isSome=true:=by rfl) (rh:g p.root=some y0:=by rfl) [aF:cf y] [e9:cf y0] [aO:iz G2]:bm P N g ⟨none,.store t a b,ty,pos,after,none⟩ (get G2) :=
 .tg rfl rfl aP av au h aX aa he hlen aQ (by rw [iH,O3 iw]) aq rh (Kj hk aO.p)
theorem ar.eJ {o:Oper}(he:bm P N g o (get G2)) (hk:ar P N ops l (get G2) K) (aO:o.guard=none:=by rfl):ar P N ops (o::l) g K:=.kP aO he hk
theorem ar.ca {o:Oper}(he:bm P N g o (cV (get G2) d y)) (hk:ar P N ops l (cV (get G2) d y) K) (aO:o.guard=none:=by rfl):ar P N ops (o::l) g K:=.q6 aO he hk
end
section
variable {S R:Type}{P:Program}{N:c5}{A B c:Code}{G:List (Nat × ab)}{Φ:Exit->aK->Prop}{id:Nat}
theorem W.fY {G1:List (Nat × ab)}(ks:List Nat) (L:List (Nat × ab)) (h:W P N c (get G) λe g=>e=.normal/\ij g G1) (hk:aC .normal Φ G1) (au:pick (get (L++G)) ks=some G1:=by rfl):W P N c (get G) Φ:=W.dF _ h hk
theorem W.k2 {G1:List (Nat × ab)}{l:List Oper}(ks:List Nat) (L:List (Nat × ab)) (h:ar P N l.toArray l (get G) λg'=>kq g' (get G1)) (hk:W P N B (get G1) Φ) (au:pick (get (L++G)) ks=some G1:=by rfl):W P N (.seq (.region id l.toArray false) B) (get G) Φ:=W.rs _ h hk
theorem W.gS {f:S->Option (S ⊕ R)}{r:R}{c8:S->List (Nat × ab)}{ml:R->List (Nat × ab)}(s:S) (F:S->List (Nat × ab)) (ks:List Nat) (id:Nat) (X:R->List (Nat × ab)) (sj:List Nat) (h:b1 f s=some r) (av:∀ s o,f s=some o->W P N c (get (c8 s)) (k_ c8 (λr e g=>e=.exit id/\ij g (ml r)) o)) (hk:aC (.exit id) Φ (ml r))
  (aN:∀ s,pick (get (F s++G)) ks=some (c8 s):=by intro s; rfl) (tR:∀ s,pick (get (X s++G)) sj=some (ml s):=by intro s; rfl) (aw:Trim true (get G) (get (c8 s)) (c8 s):=by (repeat' first | exact .nil | refine .n rfl ?_ | refine .w rfl rfl .pP ?_ | refine .w rfl rfl .pO ?_ | refine .w rfl rfl (j_.obj (by (repeat' first | exact .nil | refine .f ?_ | refine .o ?_ | refine .i ?_))) ?_)):W P N (.loop c) (get G) Φ :=
 W.dB aw (W.zM c8 id ml h av hk)
theorem W.gk {hb:Type}{f:S->Option (S ⊕ (R ⊕ hb))}{r:R ⊕ hb}{c8:S->List (Nat × ab)}{ml:R->List (Nat × ab)}{tv:hb->List (Nat × ab)}(s:S) (F:S->List (Nat × ab)) (ks:List Nat) (id:Nat) (X:R->List (Nat × ab)) (sj:List Nat) (Y:hb->List (Nat × ab)) (Cn:List Nat) (h:b1 f s=some r)
  (av:∀ s o,f s=some o->W P N c (get (c8 s)) (k_ c8 (λ(r:R ⊕ hb) e g=>match r with | .inl r=>e=.exit id/\ij g (ml r) | .inr r=>e=.ret/\ij g (tv r)) o))
  (J:∀ x,r=.inl x->aC (.exit id) Φ (ml x)) (aq:∀ x,r=.inr x->aC .ret Φ (tv x))
  (aN:∀ s,pick (get (F s++G)) ks=some (c8 s):=by intro s; rfl) (tR:∀ s,pick (get (X s++G)) sj=some (ml s):=by intro s; rfl) (w6:∀ s,pick (get (Y s++G)) Cn=some (tv s):=by intro s; rfl) (aw:Trim true (get G) (get (c8 s)) (c8 s):=by (repeat' first | exact .nil | refine .n rfl ?_ | refine .w rfl rfl .pP ?_ | refine .w rfl rfl .pO ?_ | refine .w rfl rfl (j_.obj (by (repeat' first | exact .nil | refine .f ?_ | refine .o ?_ | refine .i ?_))) ?_)):W P N (.loop c) (get G) Φ :=
 W.dB aw (W.OR c8 id ml tv h av J aq)
end
end Go.Own
namespace Go.Own
open Go
set_option linter.unusedVariables false
inductive lA:Type 1
 | e
 | b (x y:lA)
 | eQ {S R:Type}(F:S->List (Nat × ab)) (ks:List Nat) (id:Nat) (X:R->List (Nat × ab)) (sj:List Nat) (x y:lA)
 | gk {S R hb:Type}(F:S->List (Nat × ab)) (ks:List Nat) (id:Nat) (X:R->List (Nat × ab)) (sj:List Nat) (Y:hb->List (Nat × ab)) (Cn:List Nat) (x y z:lA)
 | dF {α:Type}(ks:List Nat) (L:α->List (Nat × ab)) (x y:lA)
 | ep {α:Type}(id:Nat) (ks:List Nat) (L:α->List (Nat × ab)) (y:lA)
 | rd (id:Nat) (bf:List (List Nat)) (y:lA)
 | bV {α:Type}(id:Nat) (bf:List (List Nat)) (ks:List Nat) (L:α->List (Nat × ab)) (y:lA)
 | p (y:lA)
 | dN {α:Type}(id s:Nat) (i:Option Nat) (en:bK α) (y:lA)
 | sF {α:Type}(s:Nat) (i:Option Nat) (en:bK α) (y:lA)
def OL:ab->Bool
 | .lit _ | .aL | .bk .. | .own .. | .obj _ | .cI _ | .cX .. | .mp _ | .imp _=>true
 | .agg cs=>cs.all λx=>match x with | .ptr .. | .a6 .. | .sub .. | .gx _ | .bL .. | .dead=>false | _=>true
 | _=>false
def s3 (ex:List Nat):List (Nat × ab)->Option (List Nat)
 | []=>some []
 | (k,x)::l=>match s3 (k::ex) l with
  | none=>none
  | some r=>match !ex.elem k&&OL x with
   | true=>some (k::r)
   | false=>some r
def JM (E ex:List Nat):List (Nat × ab)->Option (List Nat)
 | []=>some []
 | (k,x)::l=>match JM E (k::ex) l with
  | none=>none
  | some r=>match E.elem k&&(!ex.elem k&&OL x) with
   | true=>some (k::r)
   | false=>some r
def roots (G:List (Nat × ab)):Operand->List Nat
 | .tmp s=>match get G s with
  | some (.own ..)=>[s]
  | some (.obj _)=>[s]
  | some (.a6 _ p _)=>[s,p.root]
  | some (.ptr p _)=>[s,p.root]
  | some (.bL _ q _ _ _)=>match get G q.root with
   | some (.bL _ FH _ _ _)=>[s,q.root,FH.root]
   | _=>[s,q.root]
  | _=>[s]
 | _=>[]
def Pk (F:List (Nat × ab)) (s:Nat):Nat->List ab->Option (List ab)
 | _,[]=>some []
 | i,x::l=>match Pk F s (i+1) l with
  | none=>none
  | some r=>match get F (1000 * (i+1)+s) with
   | some y=>some (y::r)
   | none=>some (x::r)
def pR (F G:List (Nat × ab)):aK:=λs=>match get F s with
 | some x=>some x
 | none=>match get G s with
  | some (.obj cs)=>match Pk F s 0 cs with
   | some r=>some (.obj r)
   | none=>none
  | x=>x
def cM (E:List Nat) (t:lA) (P:Program) (N:c5) (c:Code) (G:List (Nat × ab)) (Φ:Exit->aK->Prop):Prop:=W P N c (get G) Φ
def et (E:List Nat) (t:lA) (e:Exit) (Φ:Exit->aK->Prop) (G:List (Nat × ab)):Prop:=aC e Φ G
def yQ (E:List Nat) (t:lA) (Ψ:lA->List (Nat × ab)->Prop) (g':aK):Prop:=∃ G1,kq g' (get G1)/\Ψ t G1
def rH {α:Type}(F:α->List (Nat × ab)) (j:α) (e:Exit) (g:aK):Prop:=e=.normal/\ij g (F j)
def Lo {R:Type}(id:Nat) (X:R->List (Nat × ab)) (r:R) (e:Exit) (g:aK):Prop:=e=.exit id/\ij g (X r)
def AU {R hb:Type}(id:Nat) (X:R->List (Nat × ab)) (Y:hb->List (Nat × ab)) (r:R ⊕ hb) (e:Exit) (g:aK):Prop:=match r with | .inl r=>e=.exit id/\ij g (X r) | .inr r=>e=.ret/\ij g (Y r)
class bD (P:Program) (f:FuncId) (p:Prop) (args:outParam (List ab)) (outs:outParam (List (Option ab))) (res:outParam ab):Prop where go:p->bU P f args outs res
section
variable {P:Program}{N:c5}{E:List Nat}{t x y z:lA}{A B c:Code}{G G1:List (Nat × ab)}{Φ oz:Exit->aK->Prop}{Ψ:aK->Prop}{id k s:Nat}{b:Bool}{α β:Type}{l:List Oper}
theorem cM.rg (h:ar P N l.toArray l (get G) (yQ E t λt G1=>cM E t P N B G1 Φ)):cM E t P N (.seq (.region id l.toArray false) B) G Φ :=
 W.seq (W.Aw λi hi=>by
  obtain ⟨g',h1,G1,af,aI⟩:=h i hi;exact ⟨g',h1,W.weaken af aI⟩)
theorem cM.rt (h:ar P N l.toArray l (get G) (yQ E t λt G1=>et E t .normal Φ G1)):cM E t P N (.region id l.toArray false) G Φ :=
 W.Aw λi hi=>by
  obtain ⟨g',h1,G1,af,aI⟩:=h i hi;exact ⟨g',h1,aI g' (.eY af .h3)⟩
theorem cM.bA (h:cM E t P N A G (o5 (λg1=>W P N B g1 Φ) Φ)):cM E t P N (.seq A B) G Φ:=W.seq h
theorem cM.b' (h:cM E t P N A G (l_ id Φ)):cM E t P N (.block id A) G Φ:=W.b' h
theorem cM.wM (h:cM E t P N A G (l_ id Φ)):cM E (.p t) P N (.block id A) G Φ:=W.b' h
theorem cM.de (h:et E t .normal Φ G):cM E t P N .skip G Φ:=W.de h
theorem cM.fj (h:et E t (.exit k) Φ G):cM E t P N (.exit k) G Φ:=W.fj h
theorem cM.Di (h:et E t .ret Φ G):cM E t P N .ret G Φ:=W.rt h
theorem cM.cd {X Y o:α}(h:(bif b then X else Y)=o) (dM:b=true->X=o->cM E x P N A G Φ) (aN:b=false->Y=o->cM E y P N B G Φ) (aa:get G s=some (a_ b):=by rfl):cM E (.b x y) P N (.cond (.tmp s) A B) G Φ:=W.cd h aa dM aN
theorem cM.ce {X Y o:α}(h:(bif b then X else Y)=o) (dM:b=true->X=o->cM E .e P N A G Φ) (aN:b=false->Y=o->cM E .e P N B G Φ) (aa:get G s=some (a_ b):=by rfl):cM E .e P N (.cond (.tmp s) A B) G Φ:=W.cd h aa dM aN
theorem cM.Sw (h:cM E t P N A G Φ) (aa:get G s=some (a_ b):=by rfl) (av:b=true:=by (first | rfl | assumption)):cM E t P N (.cond (.tmp s) A B) G Φ:=W.fF aa (λ_=>h) (λe=>by rw [av] at e; cases e)
theorem cM.Sv (h:cM E t P N B G Φ) (aa:get G s=some (a_ b):=by rfl) (av:b=false:=by (first | rfl | assumption)):cM E t P N (.cond (.tmp s) A B) G Φ:=W.fF aa (λe=>by rw [av] at e; cases e) (λ_=>h)
theorem cM.W' {o:Operand}{m:Option α}{f:α->Option β}{r:β}{ks:List Nat}{L c8:α->List (Nat × ab)}(h:m.bind f=some r) (h1:∀ j,m=some j->cM E x P N (.cond o A B) G (rH c8 j)) (af:∀ j,m=some j->f j=some r->et E y .normal Φ (c8 j))
  (aN:∀ j,pick (pR (L j) G) ks=some (c8 j):=by intro j; rfl):cM E (.dF ks L x y) P N (.cond o A B) G Φ:=by
 obtain ⟨j,ah,h⟩:=la h;exact W.dF _ (h1 j ah) (af j ah h)
theorem cM.JH {m:Option α}{f:α->Option β}{r:β}{ks:List Nat}{L c8:α->List (Nat × ab)}(h:m.bind f=some r) (h1:∀ j,m=some j->cM E x P N (.block id A) G (rH c8 j)) (af:∀ j,m=some j->f j=some r->et E y .normal Φ (c8 j))
  (aN:∀ j,pick (pR (L j) G) ks=some (c8 j):=by intro j; rfl):cM E (.dF ks L x y) P N (.block id A) G Φ:=by
 obtain ⟨j,ah,h⟩:=la h;exact W.dF _ (h1 j ah) (af j ah h)
theorem cM.eQ {S R:Type}{f:S->Option (S ⊕ R)}{s:S}{g:R->Option β}{r:β}{F c8:S->List (Nat × ab)}{ks sj:List Nat}{X ml:R->List (Nat × ab)}(h:(b1 f s).bind g=some r)
  (av:∀ s o,f s=some o->cM E x P N c (c8 s) (k_ c8 (Lo id ml) o)) (hk:∀ dm,b1 f s=some dm->g dm=some r->et E y (.exit id) Φ (ml dm))
  (aN:∀ s,pick (pR (F s) G) ks=some (c8 s):=by intro s; rfl) (tR:∀ s,pick (pR (X s) G) sj=some (ml s):=by intro s; rfl) (aw:Trim true (get G) (get (c8 s)) (c8 s):=by (repeat' first | exact .nil | refine .n rfl ?_ | refine .w rfl rfl .pP ?_ | refine .w rfl rfl .pO ?_ | refine .w rfl rfl (j_.obj (by (repeat' first | exact .nil | refine .f ?_ | refine .o ?_ | refine .i ?_))) ?_)) :
  cM E (.eQ F ks id X sj x y) P N (.loop c) G Φ:=by
 obtain ⟨dm,ak,h⟩:=la h;exact W.dB aw (W.zM c8 id ml ak av (hk dm ak h))
theorem et.bA (h:cM E t P N B G Φ):et E t .normal (o5 (λg1=>W P N B g1 Φ) oz) G:=aC.bA h
theorem et.fh (h:et E t (.exit k) Φ G):et E t (.exit k) (o5 Ψ Φ) G:=aC.fh h
theorem et.jj (h:et E t .ret Φ G):et E t .ret (o5 Ψ Φ) G:=aC.jj h
theorem et.b' (h:et E t .normal Φ G):et E t .normal (l_ id Φ) G:=aC.b' h
theorem et.ff (h:et E t .normal Φ G):et E t (.exit id) (l_ id Φ) G:=aC.ff h
theorem et.G7 (h:et E t (.exit k) Φ G) (hk:Nat.beq k id=false:=by rfl):et E t (.exit k) (l_ id Φ) G:=aC.G7 hk h
theorem et.mS (h:et E t .ret Φ G):et E t .ret (l_ id Φ) G:=aC.mS h
theorem et.dF {F:α->List (Nat × ab)}{j v:α}(h:some v=some j) (aw:Trim true (get G) (get (F v)) (F v)):et E t .normal (rH F j) G:=by
 cases h; exact aC.dF aw
theorem et.go {S R:Type}{s:S}{o:S ⊕ R}{F:S->List (Nat × ab)}{Ψ:R->Exit->aK->Prop}(h:some (.inl s)=some o) (aw:Trim true (get G) (get (F s)) (F s)):et E t .normal (k_ F Ψ o) G:=by
 cases h; exact aC.go aw
theorem et.a8 {S R:Type}{r:R}{o:S ⊕ R}{F:S->List (Nat × ab)}{X:R->List (Nat × ab)}(h:some (.inr r)=some o) (aw:Trim true (get G) (get (X r)) (X r)):et E t (.exit id) (k_ F (Lo id X) o) G:=by
 cases h; exact aC.a8 aw
variable {ops:Array Oper}{K:aK->Prop}{d:Nat}{op:Op}{ty:TypeId}{pos:String}{after:Array Edge}{v v2:ab}{ks:List Nat}{g:aK}{j cT:Nat}{cD:Bool}
theorem pn {G:List (Nat × ab)}{d:Nat}{v:ab}:cV (get G) d v=get ((d,v)::G):=sG.symm
theorem eA (au:cg P (get G) op ty v) (hk:ar P N ops l (get ((d,v)::G)) K) (bd:N.ok d=true:=by rfl) (aW:get G d=none:=by rfl):ar P N ops (⟨some d,op,ty,pos,after,none⟩::l) (get G) K:=al au (pn ▸ hk) bd aW
theorem GO (lM:s3 [d] G=some ks) (aO:pick (get G) ks=some G1) [aF:iz G1] (au:cg P (get G1) op ty v) (hk:ar P N ops l (get ((d,v)::G1)) K) (bd:N.ok d=true:=by rfl) (aW:get G1 d=none:=by rfl):ar P N ops (⟨some d,op,ty,pos,after,none⟩::l) (get G) K:=ar.bV ks aO (al au (pn ▸ hk) bd aW)
theorem Ly (au:cJ P (get G) op v) (hk:ar P N ops l (get ((d,v)::G)) K) (bd:N.ok d=true:=by rfl) (aW:get G d=none:=by rfl):ar P N ops (⟨some d,op,ty,pos,after,none⟩::l) (get G) K:=gL au (pn ▸ hk) bd aW
theorem eH (au:cg P (get G) op ty v) (hk:ar P N ops l (get ((d,v)::G)) K) (h:(ops[j]?).bind (·.dst)=some cT:=by rfl) (aO:get G cT=some (.lit (.bool cD)):=by rfl) (av:cD=b:=by (first | rfl | assumption)) (bd:N.ok d=true:=by rfl) (aW:get G d=none:=by rfl):ar P N ops (⟨some d,op,ty,pos,after,some (j,b)⟩::l) (get G) K:=.v au bd aW (.fp h aO av) (pn ▸ hk)
theorem Lk (au:cJ P (get G) op v) (hk:ar P N ops l (get ((d,v)::G)) K) (h:(ops[j]?).bind (·.dst)=some cT:=by rfl) (aO:get G cT=some (.lit (.bool cD)):=by rfl) (av:cD=b:=by (first | rfl | assumption)) (bd:N.ok d=true:=by rfl) (aW:get G d=none:=by rfl):ar P N ops (⟨some d,op,ty,pos,after,some (j,b)⟩::l) (get G) K:=.c au bd aW (.fp h aO av) (pn ▸ hk)
theorem qR (hk:ar P N ops l (get ((d,.bW [])::G)) K) (h:(ops[j]?).bind (·.dst)=some cT:=by rfl) (aO:get G cT=some (.lit (.bool cD)):=by rfl) (av:cD=!b:=by (first | rfl | assumption)) (bd:N.ok d=true:=by rfl) (aW:get G d=none:=by rfl):ar P N ops (⟨some d,op,ty,pos,after,some (j,b)⟩::l) (get G) K:=.ps h aO av bd aW (pn ▸ hk)
theorem Q9 (hk:ar P N ops l (get ((d,.bW [])::G)) K) (h:(ops[j]?).bind (·.dst)=some cT:=by rfl) (aO:get G cT=some (.bW []):=by rfl) (bd:N.ok d=true:=by rfl) (aW:get G d=none:=by rfl):ar P N ops (⟨some d,op,ty,pos,after,some (j,b)⟩::l) (get G) K:=.pu h aO bd aW (pn ▸ hk)
theorem Hl {p:Prop}{X Y o:α}(h:(bif b then X else Y)=o) (dM:b=true->X=o->p) (aN:b=false->Y=o->p):p:=by
 cases b
 ·exact aN rfl h
 ·exact dM rfl h
theorem GI {DJ:lA->List (Nat × ab)->Prop}(lM:JM E [] G=some ks) (au:pick (get G) ks=some G1) [aF:iz G1] (hk:DJ t G1):ar P N ops [] (get G) (yQ E t DJ):=.nil ⟨G1,(uF (c:=true) (g2:=get G1) au aF.p).eY,hk⟩
theorem cM.ep {m:Option α}{f:α->Option β}{r:β}{ks:List Nat}{L c8:α->List (Nat × ab)}(h:m.bind f=some r) (h1:∀ j,m=some j->ar P N l.toArray l (get G) (rH c8 j .normal)) (af:∀ j,m=some j->f j=some r->cM E y P N B (c8 j) Φ)
  (aN:∀ j,pick (pR (L j) G) ks=some (c8 j):=by intro j; rfl):cM E (.ep id ks L y) P N (.seq (.region id l.toArray false) B) G Φ:=by
 obtain ⟨j,ah,h⟩:=la h;exact W.seq (W.Aw λi hi=>by
  obtain ⟨g',cv,_,fG⟩:=h1 j ah i hi;exact ⟨g',cv,W.be (af j ah h) fG⟩)
theorem Q6 {F:α->List (Nat × ab)}{j v:α}(h:some v=some j) (aw:Trim true (get G) (get (F v)) (F v)):ar P N ops [] (get G) (rH F j .normal):=by
 cases h; exact .nil ⟨rfl,.eY aw.eY .h3⟩
end
end Go.Own
namespace Go.Own
open Go
set_option linter.unusedVariables false
def J1:ab->Option ab
 | .lit v=>some (.lit v)
 | .aL=>some .aL
 | .bk z n cs=>some (.bk z n cs)
 | .own z n cs=>some (.own z n cs)
 | .obj cs=>some (.obj cs)
 | .agg cs=>some (.agg cs)
 | .bW cs=>some (.bW cs)
 | .cI cs=>some (.cI cs)
 | .ptr p k=>some (.ptr p k)
 | .a6 z p n=>some (.a6 z p n)
 | .sub z p l n=>some (.sub z p l n)
 | .bL z p n m c=>some (.bL z p n m c)
 | .cX f a b=>some (.cX f a b)
 | .mp p=>some (.mp p)
 | .gx p=>some (.gx p)
 | .imp p=>some (.imp p)
 | .dead=>some .dead
theorem O5 {x y:ab}(h:J1 x=some y):x=y:=by cases x <;> (cases h; rfl)
def Fl:List ab->Option (List ab)
 | []=>some []
 | x::l=>match Fl l with
  | none=>none
  | some r=>match J1 x with
   | none=>none
   | some y=>some (y::r)
theorem O4:∀ {l r:List ab},Fl l=some r->l=r
 | [],r,h=>by cases h; rfl
 | x::l,r,h=>by
  unfold Fl at h
  split at h
  ·cases h
  ·rename_i dm aq
   split at h
   ·cases h
   ·rename_i y ax;cases h; rw [O4 aq,O5 ax]
def s6:ab->Option ab
 | .agg cs=>match Fl cs with
  | some r=>some (.agg r)
  | none=>none
 | x=>J1 x
theorem vJ {x y:ab}(h:s6 x=some y):x=y:=by
 unfold s6 at h
 split at h
 ·split at h
  ·rename_i aq;cases h; rw [O4 aq]
  ·cases h
 ·exact O5 h
def ln:List ab->Option (List ab)
 | []=>some []
 | x::l=>match ln l with
  | none=>none
  | some r=>match s6 x with
   | none=>none
   | some y=>some (y::r)
theorem xO:∀ {l r:List ab},ln l=some r->l=r
 | [],r,h=>by cases h; rfl
 | x::l,r,h=>by
  unfold ln at h
  split at h
  ·cases h
  ·rename_i dm aq
   split at h
   ·cases h
   ·rename_i y ax;cases h; rw [xO aq,vJ ax]
def yg (f:Nat->ab->ab):Nat->List Nat->List ab->Option (List ab)
 | _,_,[]=>some []
 | _,[],_::_=>none
 | k,j::eh,x::l=>match yg f (k+1) eh l with
  | none=>none
  | some r=>match Nat.beq j k,s6 (f j x) with
   | true,some y=>some (y::r)
   | _,_=>none
theorem Dj {f:Nat->ab->ab}:∀ {l:List ab}{eh:List Nat}{k:Nat}{r:List ab},yg f k eh l=some r->(l.mapIdx λi x=>f (k+i) x)=r
 | [],eh,k,r,h=>by cases eh <;> (cases h; rfl)
 | x::l,[],k,r,h=>by cases h
 | x::l,j::eh,k,r,h=>by
  unfold yg at h
  split at h
  ·cases h
  ·rename_i dm aq
   split at h
   ·rename_i y ah ax;cases h;have:=Nat.eq_of_beq_eq_true ah;subst this;rw [List.mapIdx_cons,<- Dj aq,<- vJ ax];simp [Nat.add_comm,Nat.add_left_comm]
   ·cases h
def num:List Nat:=0::1::2::3::4::5::6::7::8::9::10::11::12::13::14::15::16::17::18::19::20::21::22::23::24::25::26::27::28::29::30::31::32::33::34::35::36::37::38::39::40::41::42::43::44::45::46::47::48::49::50::51::52::53::54::55::56::57::58::59::60::61::62::63::64::65::66::67::68::69::70::71::72::73::74::75::76::77::78::79::[]
def FJ (g:aK):Operand->Option ab
 | .tmp t=>match g t with
  | some (.lit v)=>some (.lit v)
  | some .aL=>some .aL
  | some (.bk z n cs)=>some (.bk z n cs)
  | some (.own z n _)=>some (.a6 z ⟨t,[]⟩ n)
  | some (.obj (_::_))=>some (.ptr ⟨t,[]⟩ 0)
  | some (.cI cs)=>some (.cI cs)
  | some (.agg cs)=>match yg (λi x=>gr 1 ⟨t,[i]⟩ x) 0 num cs with
   | some r=>some (.agg r)
   | none=>none
  | some (.bW cs)=>match yg (λi x=>gr 1 ⟨t,[i]⟩ x) 0 num cs with
   | some r=>some (.bW r)
   | none=>none
  | some (.ptr p k)=>some (.ptr p k)
  | some (.a6 z p n)=>some (.a6 z p n)
  | some (.sub z p l n)=>some (.sub z p l n)
  | some (.bL z _ n m _)=>some (.a6 z ⟨t,[]⟩ (n+m))
  | some (.cX fn [] cs)=>some (.cX fn [] cs)
  | some (.mp _)=>some (.gx ⟨t,[]⟩)
  | some (.gx p)=>some (.gx p)
  | some (.imp q)=>some (.imp q)
  | _=>none
 | .const v=>match ofConst v with
  | .lit v=>some (.lit v)
  | .agg cs=>some (.agg cs)
  | .aL=>match v with
   | .slice none 0 0=>some .aL
   | _=>none
  | _=>none
 | .func f=>some (.cX (.func f) [] [])
 | .global _=>none
theorem Xt {v u:Value}(h:ofConst v=.lit u):u=v:=by
 cases v <;> simp only [ofConst,lR] at h <;> first | (cases h; rfl) | (split at h <;> cases h <;> rfl) | cases h
theorem Rd.q {g:aK}{a:Operand}{y:ab}(h:FJ g a=some y:=by rfl):Rd g a y:=by
 unfold FJ at h
 split at h
 ·split at h <;> first | (split at h <;> cases h <;> first | exact .agg ‹_› (by have:=Dj ‹_›; simpa [Place.push] using this) | exact .bW ‹_› (by have:=Dj ‹_›; simpa [Place.push] using this)) | skip
  all_goals cases h
  all_goals first | exact .lit ‹_› | exact .aL ‹_› | exact .bk ‹_› | exact .own ‹_› | exact .obj ‹_› | exact .cI ‹_› | exact .ptr ‹_› | exact .a6 ‹_› | exact .sub ‹_› | exact .bL ‹_› | exact .cX ‹_› | exact .mp ‹_› | exact .gx ‹_› | exact .imp ‹_›
 ·split at h
  ·rename_i e; cases h; have:=Xt e; subst this; exact .k e
  ·rename_i e; cases h; exact .JK e
  ·split at h <;> cases h
   exact .xJ
  ·cases h
 ·cases h; exact .func
 ·cases h
def FM (g:aK) (t:Nat):Option ab :=
 match g t with
 | some (.lit v)=>some (.lit v)
 | some .aL=>some .aL
 | some (.bk z n cs)=>some (.bk z n cs)
 | some (.cI cs)=>some (.cI cs)
 | some (.cX fn [] cs)=>some (.cX fn [] cs)
 | some (.imp q)=>some (.imp q)
 | _=>none
theorem Rd.Aq {g:aK}{t:Nat}{y:ab}(h:FM g t=some y:=by rfl):Rd g (.tmp t) y:=by
 unfold FM at h
 split at h <;> cases h <;> first | exact .lit ‹_› | exact .aL ‹_› | exact .bk ‹_› | exact .cI ‹_› | exact .cX ‹_› | exact .imp ‹_›
class hz (P:Program) (t:TypeId) (α:outParam Type) (en:outParam (bK α)):Prop where p:True:=trivial
class tj {α:Type}(en:bK α) (cs:List ab) (y:outParam α):Prop where p:en.cells y=cs
instance {a:Int}:tj ai [ae a] a:=⟨rfl⟩
instance {a:Int}:tj qe [qZ a] a:=⟨rfl⟩
instance {a:Bool}:tj cp [a_ a] a:=⟨rfl⟩
instance {a:ByteArray}:tj dv [ay a] a:=⟨rfl⟩
instance {α:Type}{en:bK α}{l:List α}:tj (br en) [.bk en.z l.length (bo en l)] l:=⟨rfl⟩
class pa {α:Type}(en:bK α) (ys:List ab) (L:outParam (List α)):Prop where p:mn ys=some (bo en L)/\ys.all (λy=>match jR y with | some c=>Nat.beq c.length en.z | none=>false)=true/\L.length=ys.length
instance {α:Type}{en:bK α}:pa en [] []:=⟨⟨rfl,rfl,rfl⟩⟩
theorem pa.cons {α:Type}{en:bK α}{y:ab}{cs:List ab}{ys:List ab}{a:α}{L:List α}(av:jR y=some cs) [h:tj en cs a] [ak:pa en ys L]:pa en (y::ys) (a::L):=by
 refine ⟨⟨?_,?_,?_⟩⟩
 ·simp [mn,av,ak.p.1,bo,h.p]
 ·simp only [List.all_cons,av,ak.p.2.1,Bool.and_true];rw [<- h.p,en.len]; exact Nat.beq_refl _
 ·simp [ak.p.2.2]
instance {α:Type}{en:bK α}{cs ys:List ab}{a:α}{L:List α} [h:tj en cs a] [ak:pa en ys L]:pa en (.agg cs::ys) (a::L):=.cons rfl
instance {α:Type}{en:bK α}{v:Value}{ys:List ab}{a:α}{L:List α} [h:tj en [.lit v] a] [ak:pa en ys L]:pa en (.lit v::ys) (a::L):=.cons rfl
instance {α:Type}{en:bK α}{z n:Nat}{cs:List ab}{ys:List ab}{a:α}{L:List α} [h:tj en [.bk z n cs] a] [ak:pa en ys L]:pa en (.bk z n cs::ys) (a::L):=.cons rfl
def wh (d:Nat):List Oper->Bool
 | []=>false
 | o::l=>(match o.op with
  | .call { callee:=.value _,args:=xs,argTypes:=_ }=>xs.toList.any λx=>match x with | .tmp t=>Nat.beq t d | _=>false
  | .call { callee:=.builtin .append,args:=xs,argTypes:=_ }=>match xs.toList with | [_,.tmp t]=>Nat.beq t d | _=>false
  | .convert _ _ (.tmp t)=>Nat.beq t d
  | .build _ ps=>ps.toList.any λx=>match x.2 with | .tmp t=>Nat.beq t d | _=>false
  | .buildSlice _ _ ps=>ps.toList.any λx=>match x.2 with | .tmp t=>Nat.beq t d | _=>false
  | _=>false)||wh d l
class AQ (P:Program):Prop where p:P.follows .mixedOrders=true:=by kernel_rfl
class km (P:Program) (t:TypeId) (k:outParam Nat):Prop where p:iB P t k=true:=by kernel_rfl
class h6 (P:Program) (t:TypeId) (z:outParam Value):Prop where p:(P.info? t).bind (·.zero)=some z:=by kernel_rfl
class kn (P:Program) (t:TypeId) (pl:outParam (List (Nat × Nat))):Prop where p:kD P t pl=true:=by kernel_rfl
class jm (P:Program) (t:TypeId) (e z b:outParam Nat):Prop where p:jG P t e z b=true:=by kernel_rfl
class AR (P:Program) (t:TypeId) (k:outParam IntKind):Prop where p:xy P t k=true:=by kernel_rfl
class yJ (P:Program) (t:TypeId) (b:outParam Nat):Prop where p:(P.info? t).map (·.bytes)=some b:=by kernel_rfl
section
variable {α β:Type}{P:Program}{g:aK}{ty t t2:TypeId}{a b:Operand}{k r z n:Nat}{cs cs':List ab}{x y:ab}{p q:Place}{m:Int}{s0 JL:IntKind}{e:TypeId}{N:c5}{ops:Array Oper}{gM:Nat}
theorem O.Ga (J:Rd g a y:=by exact .q) (aa:(jR y).bind ln=some cs:=by rfl):cg P g (.box e a) ty (.obj cs):=by
 cases av:jR y with
 | none=>rw [av] at aa; cases aa
 | some c=>rw [av] at aa; have:=xO aa; subst this; exact O.box J av
theorem O.ig {v:Value} [h:fO P t] (J:Rd g a (.ptr ⟨r,[]⟩ k):=by exact .q) (aB:g r=some (.obj cs):=by rfl) (aa:cs[k]?=some (.lit v):=by rfl):cg P g (.load t a) ty (.lit v):=O.oW aB J h.p aa
theorem O.hy [h:fO P t] (J:Rd g a (.cI cs):=by exact .q) (aa:cs.head?.bind s6=some x:=by rfl):cg P g (.load t a) ty x:=by
 cases av:cs.head? with
 | none=>rw [av] at aa; cases aa
 | some c=>rw [av] at aa; have:=vJ aa; subst this; exact O.Cp J h.p av
theorem O.AE [h:fO P t] (J:Rd g a (.ptr ⟨r,[]⟩ k):=by exact .q) (aB:g r=some (.obj cs):=by rfl) (aa:cs[k]?=some x:=by rfl) (ax:s6 (gr 0 ⟨r,[k]⟩ x)=some y:=by rfl):cg P g (.load t a) ty y:=O.mC aB J h.p aa (vJ ax)
theorem O.AF [h:km P t z] (J:Rd g a (.ptr ⟨r,[]⟩ k):=by exact .q) (aB:g r=some (.obj cs):=by rfl) (hk:Nat.ble (k+z) cs.length=true:=by rfl) (aa:yg (λi x=>gr 0 ⟨r,[i]⟩ x) k (num.drop k) ((cs.drop k).take z)=some cs':=by rfl):cg P g (.load t a) ty (.agg cs'):=O.eU aB J h.p hk (Dj aa)
theorem O.Gg [h:km P t z] (J:Rd g a (.cI cs):=by exact .q) (aa:ln (cs.take z)=some cs':=by rfl) (aX:cs'.length=z:=by rfl):cg P g (.load t a) ty (.agg cs'):=O.nj J h.p (xO aa) aX
theorem O.Gk {en:bK α}{L:List α}{y:α}{o:Nat}{x x':ab} [aw:fO P t] (J:Rd g a (.ptr p (m.toNat * en.z+o)):=by exact .q) (au:bB g p=some (aj en L):=by rfl) (h:idx L m=some y:=by assumption) (aa:(en.cells y)[o]?=some x:=by rfl) (aq:s6 (gr 0 (p.push (m.toNat * en.z+o)) x)=some x':=by rfl):cg P g (.load t a) ty x':=O.iS au J aw.p h aa (vJ aq)
theorem O.Gv {en:bK α}{L:List α}{y:α}{o:Nat} [aw:km P t z] (J:Rd g a (.ptr p (m.toNat * en.z+o)):=by exact .q) (au:bB g p=some (aj en L):=by rfl) (h:idx L m=some y:=by assumption) (aX:Nat.ble (o+z) en.z=true:=by rfl) (aa:ln ((((en.cells y).drop o).take z).mapIdx (λi x=>gr 0 (p.push (m.toNat * en.z+o+i)) x))=some cs':=by rfl):cg P g (.load t a) ty (.agg cs'):=O.Xd au J aw.p h aX (xO aa)
theorem O.Gc {cT f off:Nat} [h:c_ P cT f off t] (J:Rd g a (.ptr ⟨r,[]⟩ k):=by exact .q) (aB:g r=some (.obj cs):=by rfl) (ak:Nat.blt (k+off) cs.length=true:=by rfl):cg P g (.fieldAddr cT a f) ty (.ptr ⟨r,[]⟩ (k+off)):=O.ku aB J h.p ak
theorem O.Gd {cT f off:Nat} [h:c_ P cT f off t] (J:Rd g a (.cI cs):=by exact .q):cg P g (.fieldAddr cT a f) ty (.cI (cs.drop off)):=O.Bl J h.p
theorem O.wf {en:bK α}{L:List α}{y:α}{cT f off o gj:Nat} [aW:c_ P cT f off t] (J:Rd g a (.ptr p (m.toNat * en.z+o)):=by exact .q) (au:bB g p=some (aj en L):=by rfl) (h:idx L m=some y:=by assumption) (a1:o+off=gj:=by rfl) (aT:Nat.blt gj en.z=true:=by rfl):cg P g (.fieldAddr cT a f) ty (.ptr p (m.toNat * en.z+gj)):=O.kb au J aW.p h a1 aT
theorem O.Gf {en:bK α}{L:List α}{y:α}{bC:Nat}(h:idx L m=some y) [aI:er P t e bC] (J:Rd g a (.bk en.z L.length (bo en L)):=by exact .q) (ax:Rd g b (.lit (.int s0 m)):=by exact .q) (aX:bC=en.z:=by rfl):cg P g (.indexAddr t a b) ty (.cI (en.cells y++bo en (L.drop (m.toNat+1)))):=O.ri J ax (aX ▸ aI.p) h
theorem O.yw {en:bK α}{L:List α}{y:α}{bC:Nat}(h:idx L m=some y) [aI:er P t e bC] (J:Rd g a (.a6 en.z p L.length):=by exact .q) (au:bB g p=some (aj en L):=by rfl) (ax:Rd g b (.lit (.int s0 m)):=by exact .q) (aX:bC=en.z:=by rfl) (aQ:Nat.blt 0 en.z=true:=by rfl):cg P g (.indexAddr t a b) ty (.ptr p (m.toNat * en.z+0)):=O.gi au J ax (aX ▸ aI.p) h aQ
theorem O.Gt {p i:Nat}{cs:List ab}{x y:ab}(J:g p=some (.bW cs):=by rfl) (ax:cs[i]?=some x:=by rfl) (aq:s6 (gr 1 (Place.push ⟨p,[]⟩ i) x)=some y:=by rfl):cg P g (.extract (.tmp p) i) ty y:=O.ex J ax (vJ aq)
theorem O.Gj [h1:AR P t s0] [af:AR P t2 JL] (J:Rd g a (.lit (.int s0 m)):=by exact .q):cg P g (.convert t t2 a) ty (.lit (.int JL (JL.wrap m))):=O.S_ J h1.p af.p
theorem O.Gi {L:List Int}(J:Rd g a (.bk qe.z L.length (bo qe L)):=by exact .q) (aw:wP P t t2=true:=by kernel_rfl):cg P g (.convert t t2 a) ty (ay (strOfNums L)):=O.S9 J aw
theorem O.Gh {dI:Value} [h:h6 P e dI] (h1:dI.cells.toList.all Value.oneCell'=true:=by rfl) (aa:ln (dI.cells.toList.map lR)=some cs:=by rfl):cg P g (.alloc e) ty (.obj cs):=O.fE h.p h1 (xO aa)
theorem O.Gs {parts:Array (Nat × Operand)}{pl:List (Nat × Nat)}{dI:Value}{ps:List (Nat × List ab)} [aw:kn P t pl] [aX:h6 P t dI] (h1:dI.cells.toList.all Value.oneCell'=true:=by rfl)
  (au:rl g parts.toList=some ps:=by rfl) (aa:(u9 (λi=>pl[i]?) (dI.cells.toList.map lR) ps).bind ln=some cs:=by rfl):cg P g (.build t parts) ty (.agg cs):=by
 cases av:u9 (λi=>pl[i]?) (dI.cells.toList.map lR) ps with
 | none=>rw [av] at aa; cases aa
 | some c=>rw [av] at aa; have:=xO aa; subst this; exact O.eo aw.p aX.p h1 au av
theorem O.wd {cT f off:Nat} [h:c_ P cT f off t] [aw:fO P t] (J:Rd g a (.agg cs):=by exact .agg rfl rfl) (ax:cs[off]?.bind s6=some x:=by rfl):cg P g (.field cT a f) ty x:=by
 cases av:cs[off]? with
 | none=>rw [av] at ax; cases ax
 | some c=>rw [av] at ax; have:=vJ ax; subst this; exact O.fd J h.p aw.p av
theorem O.wp {en:bK α}{L M r:List α}{bC:Nat}(h:c' L M=some r) [aw:jm P t e bC gM] (aB:Rd g a (.a6 en.z p L.length):=by exact .q) (au:bB g p=some (aj en L):=by rfl) (J:Rd g b y:=by exact .q) (hm:n2 g en y M:=by (first | exact .i | exact .n | exact .o rfl rfl)) (aX:bC=en.z:=by rfl) (av:Nat.ble gM 128=true:=by rfl) [e9:qU g]:cg P g (.call { callee:=.builtin .append,args:=#[a,b],argTypes:=#[t,t] }) ty (.bL en.z p L.length M.length (bo en M)) :=
 O.ap aB au J hm (aX ▸ aw.p) av h
def xL:List ab->Option (List Value)
 | []=>some []
 | .lit v::l=>match xL l with
  | some r=>some (v::r)
  | none=>none
 | _=>none
theorem Cs:∀ {l:List ab}{r:List Value},xL l=some r->l=r.map .lit
 | [],r,h=>by cases h; rfl
 | x::l,r,h=>by
  unfold xL at h
  split at h
  ·rename_i e; cases e
  ·rename_i e;cases e
   split at h
   ·rename_i dm aq;cases h; rw [Cs aq]; rfl
   ·cases h
  ·cases h
def ym:List Value->Option (List n1)
 | []=>some []
 | v::l=>match ym l,mc v with
  | some r,some u=>some (u::r)
  | _,_=>none
theorem Dl:∀ {l:List Value}{r:List n1},ym l=some r->l.map mc=r.map some
 | [],r,h=>by cases h; rfl
 | v::l,r,h=>by
  unfold ym at h
  split at h
  ·rename_i wa u aq aB;cases h; simp [Dl aq,aB]
  ·cases h
theorem O.ou {Ba j':List ab}{va vb:List Value}{eR:List n1}(J:Rd g a (.agg Ba):=by exact .q) (ax:Rd g b (.agg j'):=by exact .q) (zD:xL Ba=some va:=by rfl) (B_:xL j'=some vb:=by rfl) (aP:ym va=some eR:=by rfl) (av:ym vb=some eR:=by rfl) (aw:tK P t eR=true:=by kernel_rfl):cg P g (.binOp .eql t a b t2) ty (a_ (lJ va vb)):=O.Bi (Cs zD ▸ J) (Cs B_ ▸ ax) (Dl aP) (Dl av) aw
theorem O.wn {Ba j':List ab}{va vb:List Value}{eR:List n1}(J:Rd g a (.agg Ba):=by exact .q) (ax:Rd g b (.agg j'):=by exact .q) (zD:xL Ba=some va:=by rfl) (B_:xL j'=some vb:=by rfl) (aP:ym va=some eR:=by rfl) (av:ym vb=some eR:=by rfl) (aw:tK P t eR=true:=by kernel_rfl):cg P g (.binOp .neq t a b t2) ty (a_ (!lJ va vb)):=O.Xp (Cs zD ▸ J) (Cs B_ ▸ ax) (Dl aP) (Dl av) aw
theorem O.Gm {en:bK α}{z0:α}{r:List α}{bC:Nat}{dI:Value}(h:nk m z0=some r) [het:hz P t α en] [aw:er P t e bC] [hzero:h6 P e dI] [iO:yJ P e gM] (J:Rd g a (.lit (.int s0 m)):=by exact .q) (ax:Rd g b (.lit (.int .i64 m)):=by exact .q) (h1:dI.cells.toList.all Value.oneCell'=true:=by rfl) (aa:dI.cells.toList.map lR=en.cells z0:=by rfl) (aX:bC=en.z:=by rfl) (av:Nat.ble gM 128=true:=by rfl):cg P g (.makeSlice t a b) ty (aj en r) :=
 O.mk (aX ▸ aw.p) J ax hzero.p h1 aa h iO.p av
theorem O.wl {en:bK α}{bC:Nat} [het:hz P t α en] [aw:er P t e bC] (aX:bC=en.z:=by rfl) (hzero:ih P e en.z=true:=by kernel_rfl):cg P g (.buildSlice t 0 #[]) ty (aj en ([]:List α)) :=
 O.df (ys:=[]) en [] (aX ▸ aw.p) rfl rfl rfl rfl rfl rfl hzero (by rw [Nat.zero_mul]; rfl) rfl
theorem O.Gn {en:bK α}{M r:List α}{bC:Nat}(h:c' [] M=some r) [aw:jm P t e bC gM] (aB:Rd g a .aL:=by exact .q) (J:Rd g b y:=by exact .q) (hm:n2 g en y M:=by (first | exact .i | exact .n | exact .o rfl rfl)) (aX:bC=en.z:=by rfl) (av:Nat.ble gM 128=true:=by rfl):cg P g (.call { callee:=.builtin .append,args:=#[a,b],argTypes:=#[t,t] }) ty (aj en M) :=
 O.RE aB J hm (aX ▸ aw.p) av h
theorem O.Gp {en:bK α}{L r:List α}{c:Operand}{n:Int}{k:IntKind}{bC:Nat}(h:nW L 0 n=some r) [aw:er P t e bC] (J:Rd g a (.bk en.z L.length (bo en L)):=by exact .q) (bY:Rd g c (.lit (.int k n)):=by exact .q) (aX:bC=en.z:=by rfl):cg P g (.slice t a none (some c) none) ty (ag en r):=O.YL J bY (aX ▸ aw.p) h
theorem O.Gq {en:bK α}{L r:List α}{k:IntKind}{bC:Nat}(h:nW L m L.length=some r) [aw:er P t e bC] (J:Rd g a (.bk en.z L.length (bo en L)):=by exact .q) (ak:Rd g b (.lit (.int k m)):=by exact .q) (aX:bC=en.z:=by rfl):cg P g (.slice t a (some b) none none) ty (ag en r):=O.YM J ak (aX ▸ aw.p) h
theorem O.Gr {en:bK α}{L r:List α}{c:Operand}{n:Int}{k oV:IntKind}{bC:Nat}(h:nW L m n=some r) [aw:er P t e bC] (J:Rd g a (.bk en.z L.length (bo en L)):=by exact .q) (ak:Rd g b (.lit (.int k m)):=by exact .q) (bY:Rd g c (.lit (.int oV n)):=by exact .q) (aX:bC=en.z:=by rfl):cg P g (.slice t a (some b) (some c) none) ty (ag en r):=O.YK J ak bY (aX ▸ aw.p) h
def E':List Nat->List Nat->Bool
 | [],[]=>true
 | a::l,b::m=>Nat.beq a b&&E' l m
 | _,_=>false
def FF (p q:Place):Bool:=!(Nat.beq p.root q.root&&E' p.path q.path)
theorem OP:∀ (l:List Nat),E' l l=true
 | []=>rfl
 | a::l=>by unfold E'; rw [OP l,Nat.beq_refl]; rfl
theorem Px {p q:Place}(h:FF p q=true):p≠q:=by
 rintro rfl;unfold FF at h;rw [Nat.beq_refl,OP] at h;cases h
def vL (p:Place):List (Nat × ab)->Bool
 | []=>true
 | (_,.bL _ q _ _ _)::l=>FF p q&&vL p l
 | _::l=>vL p l
theorem J2 {p:Place}:∀ {G:List (Nat × ab)},vL p G=true->∀ t z n m new,get G t≠some (.bL z p n m new)
 | [],_,t,z,n,m,new,e=>by cases e
 | (s,x)::G,h,t,z,n,m,new,e=>by
  simp only [get] at e
  split at e
  ·cases e;unfold vL at h;rw [Bool.and_eq_true] at h;exact Px h.1 rfl
  ·refine J2 (G:=G) ?_ t z n m new e;unfold vL at h
   split at h
   ·rename_i b9; cases b9
   ·rename_i b9; cases b9; rw [Bool.and_eq_true] at h; exact h.2
   ·rename_i b9; cases b9; exact h
def xQ (p:Place):Acc->Bool
 | []=>true
 | (_,_,some (.bL _ q _ _ _))::l=>FF p q&&xQ p l
 | _::l=>xQ p l
theorem O6 {p:Place}{G:List (Nat × ab)}{A:Nat->Bool}(c9:vL p G=true):∀ {acc:Acc},xQ p acc=true->∀ t z n m new,dg (get G) A acc t≠some (.bL z p n m new)
 | [],_,t,z,n,m,new,e=>J2 c9 t z n m new e
 | (k,d,r)::acc,h,t,z,n,m,new,e=>by
  have af:xQ p acc=true:=by
   unfold xQ at h
   split at h
   ·rename_i b9; cases b9
   ·rename_i b9; cases b9; rw [Bool.and_eq_true] at h; exact h.2
   ·rename_i b9; cases b9; exact h
  simp only [dg] at e
  split at e
  ·split at e
   ·subst e;unfold xQ at h;rw [Bool.and_eq_true] at h;exact Px h.1 rfl
   ·cases e
  ·exact O6 c9 af t z n m new e
theorem O.wr {en:bK α}{L M r:List α}{bC:Nat}{G:List (Nat × ab)}(h:c' L M=some r) [aw:jm P t e bC gM] (aB:Rd (get G) a (.a6 en.z p L.length):=by exact .q) (au:bB (get G) p=some (aj en L):=by rfl) (J:Rd (get G) b y:=by exact .q) (hm:n2 (get G) en y M:=by (first | exact .i | exact .n | exact .o rfl rfl)) (aX:bC=en.z:=by rfl) (av:Nat.ble gM 128=true:=by rfl) (bg:vL p G=true:=by rfl):cg P (get G) (.call { callee:=.builtin .append,args:=#[a,b],argTypes:=#[t,t] }) ty (.bL en.z p L.length M.length (bo en M)) :=
 O.tx aB au J hm (aX ▸ aw.p) av h (J2 bg)
theorem O.QD {en:bK α}{L M r:List α}{bC:Nat}{G:List (Nat × ab)}{A:Nat->Bool}{acc:Acc}(h:c' L M=some r) [aw:jm P t e bC gM] (aB:Rd (dg (get G) A acc) a (.a6 en.z p L.length):=by exact .q) (au:bB (dg (get G) A acc) p=some (aj en L):=by rfl) (J:Rd (dg (get G) A acc) b y:=by exact .q) (hm:n2 (dg (get G) A acc) en y M:=by (first | exact .i | exact .n | exact .o rfl rfl)) (aX:bC=en.z:=by rfl) (av:Nat.ble gM 128=true:=by rfl) (bg:vL p G=true:=by rfl) (VX:xQ p acc=true:=by rfl):cg P (dg (get G) A acc) (.call { callee:=.builtin .append,args:=#[a,b],argTypes:=#[t,t] }) ty (.bL en.z p L.length M.length (bo en M)) :=
 O.tx aB au J hm (aX ▸ aw.p) av h (O6 bg VX)
instance {s:Nat}{x:ab}{G:List (Nat × ab)} [h:pd s (get G)]:pd s (get ((s,x)::G)):=(pn (G:=G) (d:=s) (v:=x)) ▸ (inferInstance:pd s (cV (get G) s x))
instance {s d:Nat}{x:ab}{G:List (Nat × ab)} [h:pd s (get G)] [J:nv x]:pd s (get ((d,x)::G)):=(pn (G:=G) (d:=d) (v:=x)) ▸ (inferInstance:pd s (cV (get G) d x))
theorem O.Gb {en:bK α}{L M M2 r:List α}{bC s:Nat}(h:c' (L++M) M2=some r) [aw:jm P t e bC gM] (aB:Rd g a (.a6 en.z ⟨s,[]⟩ (L.length+M.length)):=by exact .q) (qn:g s=some (.bL en.z q L.length M.length (bo en M)):=by rfl) (au:bB g q=some (aj en L):=by rfl) (J:Rd g b y:=by exact .q) (hm:n2 g en y M2:=by (first | exact .i | exact .n | exact .o rfl rfl)) (aX:bC=en.z:=by rfl) (av:Nat.ble gM 128=true:=by rfl) [e9:pd s g]:cg P g (.call { callee:=.builtin .append,args:=#[a,b],argTypes:=#[t,t] }) ty (.bL en.z ⟨s,[]⟩ (L.length+M.length) M2.length (bo en M2)) :=
 O.D3 aB qn au J hm (aX ▸ aw.p) av h
theorem O.Gu {en:bK β}{r:List (List β)}{bC:Nat}{dI:Value}(h:nk m ([]:List β)=some r) [het:hz P t (List β) (br en)] [aw:er P t e bC] [hzero:h6 P e dI] [iO:yJ P e gM] (J:Rd g a (.lit (.int s0 m)):=by exact .q) (ax:Rd g b (.lit (.int .i64 m)):=by exact .q) (h1:dI.cells.toList.all Value.oneCell'=true:=by rfl) (aa:dI.cells.toList.map lR=[.aL]:=by rfl) (aX:bC=(br en).z:=by rfl) (av:Nat.ble gM 128=true:=by rfl):cg P g (.makeSlice t a b) ty (aj (br en) r) :=
 O.Xk (aX ▸ aw.p) J ax hzero.p h1 aa h iO.p av
theorem O.eY {en:bK α}{L:List α}{y:α}{bC:Nat} [aI:er P t e bC] (J:Rd g a (.bk en.z L.length (bo en L)):=by exact .q) (ax:Rd g b (.lit (.int s0 m)):=by exact .q) (aX:bC=en.z:=by rfl) (h:idx L m=some y:=by assumption):cg P g (.indexAddr t a b) ty (.cI (en.cells y++bo en (L.drop (m.toNat+1)))):=O.ri J ax (aX ▸ aI.p) h
theorem O.Gl {en:bK α}{L:List α}{y:α}{bC:Nat} [aI:er P t e bC] (J:Rd g a (.a6 en.z p L.length):=by exact .q) (au:bB g p=some (aj en L):=by rfl) (ax:Rd g b (.lit (.int s0 m)):=by exact .q) (aX:bC=en.z:=by rfl) (aQ:Nat.blt 0 en.z=true:=by rfl) (h:idx L m=some y:=by assumption):cg P g (.indexAddr t a b) ty (.ptr p (m.toNat * en.z+0)):=O.gi au J ax (aX ▸ aI.p) h aQ
end
def Cm (GK:List (Nat × ab)) (ex:List Nat) (Qe:List Nat):List (Nat × ab)->Option (List Nat)
 | []=>some []
 | (k,x)::l=>match Cm GK ex (k::Qe) l with
  | none=>none
  | some r=>match !ex.elem k&&!Qe.elem k&&(match x with | .ptr ⟨q,[]⟩ _=>!ex.elem q&&(match get GK q with | some (.obj _)=>true | _=>false) | _=>false) with
   | true=>some (k::r)
   | false=>some r
def oY (g g2:aK) (r:Nat):List (Nat × ab)->Bool
 | []=>true
 | (s,.ptr ⟨q,[]⟩ k)::l=>!Nat.beq s r&&(match g q,g2 q with | some (.obj cs),some (.obj kt)=>Nat.blt k cs.length&&Nat.blt k kt.length | _,_=>false)&&oY g g2 r l
 | _=>false
theorem Pf {g g2:aK}{r:Nat}{s:Nat}{x:ab}{l:List (Nat × ab)}(h:oY g g2 r ((s,x)::l)=true):(∃ q k cs kt,x=.ptr ⟨q,[]⟩ k/\Nat.beq s r=false/\g q=some (.obj cs)/\Nat.blt k cs.length=true/\g2 q=some (.obj kt)/\Nat.blt k kt.length=true)/\oY g g2 r l=true:=by
 unfold oY at h
 split at h
 ·rename_i e; cases e
 ·rename_i cT q k vH e;cases e;rw [Bool.and_eq_true,Bool.and_eq_true] at h;obtain ⟨⟨h1,af⟩,aI⟩:=h
  split at af
  ·rename_i cs kt cv b9;rw [Bool.and_eq_true] at af;exact ⟨⟨q,k,cs,kt,rfl,by simpa using h1,cv,af.1,b9,af.2⟩,aI⟩
  ·cases af
 ·cases h
theorem MY {g:aK}{r s:Nat}{x y:ab}(h:Nat.beq s r=false) (J:cV g r x s=some y):g s=some y:=by
 unfold cV at J;rw [if_neg (by rintro rfl; rw [Nat.beq_refl] at h; cases h)] at J;exact J
theorem Dc {g:aK}{k:Nat}{ks:List Nat}{G1:List (Nat × ab)}(h:pick g (k::ks)=some G1):∃ x l,g k=some x/\pick g ks=some l/\G1=(k,x)::l:=by
 unfold pick at h
 split at h
 ·rename_i x J
  split at h
  ·rename_i l ak;cases h; exact ⟨x,l,J,ak,rfl⟩
  ·cases h
 ·cases h
theorem An {g g2:aK}{r:Nat}{cs2:List ab}{T:List (Nat × ab)}(dM:k' g g2 r cs2 T):∀ {ks:List Nat}{G1:List (Nat × ab)},pick (cV g r (.obj cs2)) ks=some G1->(∀ e∈G1,cU e.2)->k' g g2 r cs2 (G1++T)
 | [],_,h,_=>by cases h; exact dM
 | k::ks,G1,h,aF=>by
  obtain ⟨x,l,J,ak,rfl⟩:=Dc h;have aU:=An dM ak λe h=>aF e (by simp [h]);have gg:=aF (k,x) (by simp);by_cases e:Nat.beq k r=true
  ·have:=Nat.eq_of_beq_eq_true e;subst this;simp only [cV,if_true] at J;cases J;have:dp cs2:=⟨by cases gg with | obj h=>exact h⟩;exact .b rfl aU
  ·have:cf x:=⟨gg⟩;have e:=Bool.eq_false_iff.2 e;exact .n e (MY e J) aU
theorem Ao {g g2:aK}{r:Nat}{cs2:List ab}:∀ {ks:List Nat}{G1:List (Nat × ab)},pick (cV g r (.obj cs2)) ks=some G1->oY g g2 r G1=true->k' g g2 r cs2 G1
 | [],_,h,_=>by cases h; exact .nil
 | k::ks,G1,h,aF=>by
  obtain ⟨x,l,J,ak,rfl⟩:=Dc h;obtain ⟨⟨q,j,cs,kt,rfl,h1,af,aI,bF,cF⟩,ej⟩:=Pf aF;exact .p h1 (MY h1 J) af aI bF cF (Ao ak ej)
theorem FC {g g2:aK}{ex:List Nat}{T:List (Nat × ab)}(dM:mQ ex g g2 T):∀ {ks:List Nat}{G1:List (Nat × ab)},pick g ks=some G1->(ks.all λk=>!ex.elem k)=true->(∀ e∈G1,cU e.2)->mQ ex g g2 (G1++T)
 | [],_,h,_,_=>by cases h; exact dM
 | k::ks,G1,h,he,aF=>by
  obtain ⟨x,l,J,ak,rfl⟩:=Dc h;rw [List.all_cons,Bool.and_eq_true] at he;have:cf x:=⟨aF (k,x) (by simp)⟩;exact .n (by simpa using he.1) J (FC dM ak he.2 λe h=>aF e (by simp [h]))
theorem FD {g g2:aK}{ex:List Nat}{r:Nat}:∀ {ks:List Nat}{G1:List (Nat × ab)},pick g ks=some G1->(ks.all λk=>!ex.elem k)=true->oY g g2 r G1=true->mQ ex g g2 G1
 | [],_,h,_,_=>by cases h; exact .nil
 | k::ks,G1,h,he,aF=>by
  obtain ⟨x,l,J,ak,rfl⟩:=Dc h;rw [List.all_cons,Bool.and_eq_true] at he;obtain ⟨⟨q,j,cs,kt,rfl,h1,af,aI,bF,cF⟩,ej⟩:=Pf aF;exact .p (by simpa using he.1) J bF cF (FD ak he.2 ej)
def rM:List (Nat × ab)->List (Nat × ab)->Option (List (Nat × ab))
 | [],T=>some T
 | p::l,T=>match rM l T with
  | some r=>some (p::r)
  | none=>none
theorem tz:∀ {l T r:List (Nat × ab)},rM l T=some r->r=l++T
 | [],_,_,h=>by cases h; rfl
 | p::l,T,r,h=>by
  unfold rM at h
  split at h
  ·rename_i dm aq;cases h; rw [tz aq]; rfl
  ·cases h
theorem rO {m:Option (List ab)}{ys:List ab}(h:m.bind ln=some ys):m=some ys:=by
 cases av:m with
 | none=>rw [av] at h; cases h
 | some c=>rw [av] at h; rw [xO h]
theorem cJ.mJ {P:Program}{g:aK}{xs:List Operand}{gm:Array TypeId}{f:FuncId}{ys args:List ab}{outs:List (Option ab)}{res:ab}(J:(gl g xs).bind ln=some ys) (hv:oG g ys args) (gQ:bU P f args outs res) [aq:p5 res] (aW:gN P f=true:=by kernel_rfl) (a1:sl outs=true:=by rfl):cJ P g (.call { callee:=.value (.func f),args:=xs.toArray,argTypes:=gm }) res:=cJ.vw (rO J) hv gQ aW a1
def oB (ks hU:List Nat) (P:Program) (N:c5) (g:aK) (o:Oper) (g':aK):Prop:=bm P N g o g'
section
variable {α:Type}{P:Program}{N:c5}{ops:Array Oper}{g:aK}{K:aK->Prop}{l:List Oper}{d r k0 s:Nat}{ty t:TypeId}{pos:String}{after:Array Edge}{a b x:Operand}{cs cs' ju cs2:List ab}{y:ab}{G2 il h8:List (Nat × ab)}{u:Option (Nat × Bool)}{p q:Place}{ks hU:List Nat}{en:bK α}{L M:List α}
theorem hZ.gK (aP:Rd g a (.ptr ⟨r,[]⟩ k0):=by exact .q) (aB:g r=some (.obj cs):=by rfl) (av:Rd g b (.agg cs'):=by exact .q) (he:o2 cs k0 cs'=some cs2:=by rfl) (au:pick (cV g r (.obj cs2)) ks=some il:=by rfl) (bg:pick (cV g r (.obj cs2)) hU=some h8:=by rfl) (c9:rM il h8=some G2:=by rfl) (db:oY g (get G2) r h8=true:=by rfl) (aX:hq P t cs'.length=true:=by kernel_rfl) (aQ:Nat.blt 0 cs'.length=true:=by rfl) (aq:(get G2 r).isSome=true:=by rfl) [aF:dp cs'] [e9:dp cs] [aO:iz il]:oB ks hU P N g ⟨none,.store t a b,ty,pos,after,none⟩ (get G2) :=
 .ji rfl rfl aB aP av rfl aX (Nat.ble_eq_true_of_le (lU he).2) aQ (lU he).1 aq (by have:=tz c9; subst this; exact An (Ao bg db) au aO.p)
theorem hZ.ns (aP:Rd g a (.ptr ⟨r,[]⟩ k0):=by exact .q) (aB:g r=some (.obj cs):=by rfl) (av:Rd g b y:=by exact .q) (aa:oK y=some [y]:=by rfl) (he:o2 cs k0 [y]=some cs2:=by rfl) (au:pick (cV g r (.obj cs2)) ks=some il:=by rfl) (bg:pick (cV g r (.obj cs2)) hU=some h8:=by rfl) (c9:rM il h8=some G2:=by rfl) (db:oY g (get G2) r h8=true:=by rfl) (aX:hq P t 1=true:=by kernel_rfl) (aq:(get G2 r).isSome=true:=by rfl) [aF:cf y] [e9:dp cs] [aO:iz il]:oB ks hU P N g ⟨none,.store t a b,ty,pos,after,none⟩ (get G2) :=
 .ji rfl rfl aB aP av aa aX (Nat.ble_eq_true_of_le (lU he).2) rfl (lU he).1 aq (by have:=tz c9; subst this; exact An (Ao bg db) au aO.p)
theorem hZ.jH (J:Rd g x (.a6 en.z p L.length):=by exact .q) (au:bB g p=some (aj en L):=by rfl) (hk:pick g ks=some il:=by rfl) (dq:(ks.all λk=>![p.root].elem k)=true:=by rfl) (bg:pick g hU=some h8:=by rfl) (c9:rM il h8=some G2:=by rfl) (BO:(hU.all λk=>![p.root].elem k)=true:=by rfl) (db:oY g (get G2) 1000000 h8=true:=by rfl) (aO:get G2 d=none:=by rfl) (bd:N.ok d=true:=by rfl) [aF:iz il]:oB ks hU P N g ⟨some d,.assign x,ty,pos,after,u⟩ (cV (get G2) d (aj en L)) :=
 .y3 rfl rfl J au (by have:=tz c9; subst this; exact FC (FD bg BO db) hk dq aF.p) aO bd
theorem hZ.Rt (J:Rd g x y:=by exact .q) (hk:pick g ks=some G2:=by rfl) (aO:get G2 d=none:=by rfl) (bd:N.ok d=true:=by rfl) [ax:cf y] [aF:iz G2]:oB ks hU P N g ⟨some d,.assign x,ty,pos,after,u⟩ (cV (get G2) d y) :=
 .A4 rfl rfl J (.f .nil) .refl (uF hk aF.p) aO bd
theorem hZ.wF (J:Rd g x (.a6 en.z ⟨s,[]⟩ (L.length+M.length)):=by exact .q) (aB:g s=some (.bL en.z q L.length M.length (bo en M)):=by rfl) (au:bB g q=some (aj en L):=by rfl) (hk:pick g ks=some il:=by rfl) (dq:(ks.all λk=>![s,q.root].elem k)=true:=by rfl) (IX:pick g hU=some h8:=by rfl) (c9:rM il h8=some G2:=by rfl) (BO:(hU.all λk=>![s,q.root].elem k)=true:=by rfl) (db:oY g (get G2) 1000000 h8=true:=by rfl) (bg:Nat.beq q.root s=false:=by rfl) (aO:get G2 d=none:=by rfl) (bd:N.ok d=true:=by rfl) [aF:iz il]:oB ks hU P N g ⟨some d,.assign x,ty,pos,after,u⟩ (cV (get G2) d (aj en (L++M))) :=
 .LC rfl rfl J aB au bg (by have:=tz c9; subst this; exact FC (FD IX BO db) hk dq aF.p) aO bd
theorem hZ.rC {jl y2:α}{m:Int}{o:Nat}{eC x2 y0:ab}(aP:Rd g a (.ptr p (m.toNat * en.z+o)):=by exact .q) (au:bB g p=some (aj en L):=by rfl) (h:idx L m=some jl:=by assumption) (av:Rd g b y:=by exact .q) (aa:oK y=some cs':=by rfl) (he:e5 (en.cells jl) o cs'=en.cells y2:=by rfl) (iH:cu g p (aj en (L.set m.toNat y2)) p.root=some eC:=by rfl) (iw:Fk eC=some x2:=by rfl) (hk:pick (cV g p.root x2) ks=some G2:=by rfl) (aX:hq P t cs'.length=true:=by kernel_rfl) (hlen:Nat.ble (o+cs'.length) en.z=true:=by rfl) (aQ:Nat.blt 0 cs'.length=true:=by rfl) (aq:(get G2 p.root).isSome=true:=by rfl) (rh:g p.root=some y0:=by rfl) [aF:cf y] [e9:cf y0] [aO:iz G2]:oB ks hU P N g ⟨none,.store t a b,ty,pos,after,none⟩ (get G2) :=
 .tg rfl rfl aP av au h aX aa he hlen aQ (by rw [iH,O3 iw]) aq rh (Kj hk aO.p)
theorem hZ.P8 {g1:aK}{bx:ab}(av:Rd g b y) (aw:e6 g [y] [bx] g1) (aP:Rd g a (.ptr ⟨r,[]⟩ k0):=by exact .q) (aa:oK bx=some cs':=by rfl) (aB:g1 r=some (.obj ju):=by rfl) (he:o2 ju k0 cs'=some cs2:=by rfl) (hk:pick (cV g1 r (.obj cs2)) ks=some il:=by rfl) (fW:pick (cV g1 r (.obj cs2)) hU=some h8:=by rfl) (c9:rM il h8=some G2:=by rfl) (db:oY g1 (get G2) r h8=true:=by rfl) (aX:hq P t cs'.length=true:=by kernel_rfl) (aQ:Nat.blt 0 cs'.length=true:=by rfl) (aq:(get G2 r).isSome=true:=by rfl) [e9:dp ju] [aO:iz il]:oB ks hU P N g ⟨none,.store t a b,ty,pos,after,none⟩ (get G2) :=
 .pX rfl rfl aP av aw .refl aa aX aB (Nat.ble_eq_true_of_le (lU he).2) aQ (lU he).1 aq (by have:=tz c9; subst this; exact An (Ao fW db) hk aO.p)
theorem hZ.mR {g1:aK}{bx:ab}(av:Rd g x y) (aw:e6 g [y] [bx] g1) (hk:pick g1 ks=some G2:=by rfl) (aO:get G2 d=none:=by rfl) (bd:N.ok d=true:=by rfl) [aF:iz G2]:oB ks hU P N g ⟨some d,.assign x,ty,pos,after,u⟩ (cV (get G2) d bx) :=
 .A4 rfl rfl av aw .refl (uF hk aF.p) aO bd
theorem hZ.D3 {M2:List α}{s2:Nat}(J:Rd g x (.a6 en.z ⟨s,[]⟩ (L.length+M2.length+M.length)):=by exact .q) (aB:g s=some (.bL en.z ⟨s2,[]⟩ (L.length+M2.length) M.length (bo en M)):=by rfl) (ll:g s2=some (.bL en.z q L.length M2.length (bo en M2)):=by rfl) (au:bB g q=some (aj en L):=by rfl) (bg:Nat.beq q.root s=false:=by rfl) (uh:Nat.beq q.root s2=false:=by rfl) (B4:Nat.beq s s2=false:=by rfl) (hk:pick g ks=some il:=by rfl) (dq:(ks.all λk=>![s,s2,q.root].elem k)=true:=by rfl) (IX:pick g hU=some h8:=by rfl) (c9:rM il h8=some G2:=by rfl) (BO:(hU.all λk=>![s,s2,q.root].elem k)=true:=by rfl) (db:oY g (get G2) 1000000 h8=true:=by rfl) (aO:get G2 d=none:=by rfl) (bd:N.ok d=true:=by rfl) [aF:iz il]:oB ks hU P N g ⟨some d,.assign x,ty,pos,after,u⟩ (cV (get G2) d (aj en (L++M2++M))) :=
 .Ro rfl rfl J aB ll au bg uh B4 (by have:=tz c9; subst this; exact FC (FD IX BO db) hk dq aF.p) aO bd
theorem hZ.sp (av:Rd g b (.a6 en.z ⟨s,[]⟩ (L.length+M.length)):=by exact .q) (qn:g s=some (.bL en.z q L.length M.length (bo en M)):=by rfl) (au:bB g q=some (aj en L):=by rfl) (aP:Rd g a (.ptr ⟨r,[]⟩ k0):=by exact .q) (aB:cu (cu g ⟨s,[]⟩ .dead) q .dead r=some (.obj ju):=by rfl) (he:o2 ju k0 [aj en (L++M)]=some cs2:=by rfl) (hk:pick (cV (cu (cu g ⟨s,[]⟩ .dead) q .dead) r (.obj cs2)) ks=some il:=by rfl) (fW:pick (cV (cu (cu g ⟨s,[]⟩ .dead) q .dead) r (.obj cs2)) hU=some h8:=by rfl) (c9:rM il h8=some G2:=by rfl) (db:oY (cu (cu g ⟨s,[]⟩ .dead) q .dead) (get G2) r h8=true:=by rfl) (bg:Nat.beq q.root s=false:=by rfl) (aX:hq P t 1=true:=by kernel_rfl) (aq:(get G2 r).isSome=true:=by rfl) [e9:dp ju] [aO:iz il]:oB ks hU P N g ⟨none,.store t a b,ty,pos,after,none⟩ (get G2) :=
 .F7 rfl rfl aP av qn au bg .kB .h3 rfl rfl aX aB (Nat.ble_eq_true_of_le (lU he).2) (lU he).1 aq (by have:=tz c9; subst this; exact An (Ao fW db) hk aO.p)
theorem hZ.th (av:Rd g b (.a6 en.z p L.length):=by exact .q) (au:bB g p=some (aj en L):=by rfl) (aP:Rd g a (.ptr ⟨r,[]⟩ k0):=by exact .q) (aB:cu g p .dead r=some (.obj ju):=by rfl) (he:o2 ju k0 [aj en L]=some cs2:=by rfl) (hk:pick (cV (cu g p .dead) r (.obj cs2)) ks=some il:=by rfl) (fW:pick (cV (cu g p .dead) r (.obj cs2)) hU=some h8:=by rfl) (c9:rM il h8=some G2:=by rfl) (db:oY (cu g p .dead) (get G2) r h8=true:=by rfl) (aX:hq P t 1=true:=by kernel_rfl) (aq:(get G2 r).isSome=true:=by rfl) [e9:dp ju] [aO:iz il]:oB ks hU P N g ⟨none,.store t a b,ty,pos,after,none⟩ (get G2) :=
 .pX rfl rfl aP av (.r au .nil) .refl rfl aX aB (Nat.ble_eq_true_of_le (lU he).2) rfl (lU he).1 aq (by have:=tz c9; subst this; exact An (Ao fW db) hk aO.p)
end
def Fb:Nat->List (Option ab)->Option (Nat × List ab)
 | _,[]=>none
 | k,some (.obj cs)::_=>some (k,cs)
 | k,none::l=>Fb (k+1) l
 | _,_=>none
def JQ (g:aK) (xs:List Operand) (k:Nat):Option Nat :=
 match xs[k]? with
 | some (.tmp t)=>match g t with
  | some (.ptr ⟨r,[]⟩ 0)=>some r
  | some (.obj _)=>some t
  | _=>none
 | _=>none
theorem hZ.l' {P:Program}{N:c5}{g:aK}{d r k0:Nat}{ty:TypeId}{pos:String}{after:Array Edge}{u:Option (Nat × Bool)}{f:FuncId}{xs:List Operand}{gm:Array TypeId}{ys args cs cs':List ab}{outs:List (Option ab)}{res:ab}{ks:List Nat}{G2:List (Nat × ab)}
  (gQ:bU P f args outs res) (ak:Fb 0 outs=some (k0,cs')) (aq:JQ g xs k0=some r) (au:pick (cu g ⟨r,[]⟩ .dead) ks=some G2) (J:(gl g xs).bind ln=some ys) (aP:nu r cs k0 0 ys args) (aB:g r=some (.obj cs):=by rfl) (he:outs=uy args.length k0 (.obj cs'):=by rfl) (lM:Nat.blt k0 ys.length=true:=by rfl) (aW:gN P f=true:=by kernel_rfl) (aO:get G2 d=none:=by rfl) (r9:Nat.beq r d=false:=by rfl) (BX:pick (get ((r,.obj cs')::G2)) ks=some G2:=by rfl) (bd:N.ok d=true:=by rfl) [e9:dp cs] [ec:cf res] [BQ:dp cs'] [aF:iz G2] :
  bm P N g ⟨some d,.call { callee:=.value (.func f),args:=xs.toArray,argTypes:=gm },ty,pos,after,u⟩ (get ((d,res)::(r,.obj cs')::G2)) :=
 .call rfl bd (hP.l' (A:=[]) rfl rfl (rO J) aB aP lM (he ▸ gQ) aW (uF au aF.p) aO r9 (uF BX aF.p) .nil bd)
def q2:Acc->List (Nat × ab)->List (Nat × ab)
 | [],G=>G
 | (_,d,some x)::acc,G=>(d,x)::q2 acc G
 | (_,_,none)::acc,G=>q2 acc G
def cO (eh:List Nat) (P:Program) (N:c5) (ops:Array Oper) (bf:List (List Nat)) (g0:aK) (i:Nat) (acc:Acc) (l:List Oper) (K:aK->Prop):Prop:=bz P N ops bf g0 i acc l K
section
variable {α β:Type}{P:Program}{N:c5}{ops:Array Oper}{bf:List (List Nat)}{acc:Acc}{E ks:List Nat}{t x y z:lA}{A B c:Code}{G G1 G2:List (Nat × ab)}{g:aK}{g':aK}{Φ oz:Exit->aK->Prop}{Ψ:aK->Prop}{K:aK->Prop}{id k s d i bG j cT:Nat}{b cD:Bool}{l:List Oper}{o:Oper}{op:Op}{ty yt:TypeId}{pos:String}{after:Array Edge}{v y':ab}{u:Option (Nat × Bool)}{a aD a2:Operand}
theorem cM.Yp (h:cM E t P N .ret G Φ):cM E t P N .ret G Φ:=h
theorem ar.ts (h:ar P N ops (⟨none,.store ty aD a2,yt,pos,after,u⟩::l) g K):ar P N ops (⟨none,.store ty aD a2,yt,pos,after,u⟩::l) g K:=h
theorem cO.ts {eh:List Nat}(h:cO eh P N ops bf g i acc (⟨none,.store ty aD a2,yt,pos,after,u⟩::l) K):cO eh P N ops bf g i acc (⟨none,.store ty aD a2,yt,pos,after,u⟩::l) K:=h
theorem cO.bO (op:Op) (u:Option (Nat × Bool)) {eh:List Nat}(h:cO eh P N ops bf g i acc (⟨some d,op,ty,pos,after,u⟩::l) K):cO eh P N ops bf g i acc (⟨some d,op,ty,pos,after,u⟩::l) K:=h
theorem cO.nl {eh:List Nat}(h:cO eh P N ops bf g i acc [] K):cO eh P N ops bf g i acc [] K:=h
def FL (g:aK) (d:Nat):Operand->Option ab
 | .tmp t=>bif Nat.beq t d then none else FM g t
 | .const v=>FJ g (.const v)
 | _=>none
theorem Rd.pR {g:aK}{a:Operand}{y:ab}(h:FL g d a=some y):Rd (del g d) a y:=by
 unfold FL at h
 split at h
 ·rename_i t;cases av:Nat.beq t d with
  | true=>rw [av] at h; cases h
  | false =>
   rw [av] at h;have dq:t≠d:=Nat.ne_of_beq_eq_false av;refine Rd.Aq ?_;unfold FM at h ⊢;simpa [del,dq] using h
 ·exact .q (by unfold FJ at h ⊢; exact h)
 ·cases h
theorem Ri {y':ab}(J:FL (get G) d a=some v) (aW:get G d=some y') (ak:leaf y'=true) (hk:ar P N ops l (get ((d,v)::G)) K) (bd:N.ok d=true:=by rfl):ar P N ops (⟨some d,.assign a,ty,pos,after,none⟩::l) (get G) K:=.over (.assign (Rd.pR J).bs) bd aW ak (pn ▸ hk)
theorem Rj {y':ab}(J:FL (get G) d a=some v) (aW:get G d=some y') (ak:leaf y'=true) (hk:ar P N ops l (get ((d,v)::G)) K) (bd:N.ok d=true:=by rfl):ar P N ops (⟨some d,.move a,ty,pos,after,none⟩::l) (get G) K:=.over (.move (Rd.pR J).bs) bd aW ak (pn ▸ hk)
theorem Q5 {hU:List Nat}(lM:s3 [] G=some ks) (hg:Cm G [] [] G=some hU) (he:oB ks hU P N (get G) o (get G2)) (hk:ar P N ops l (get G2) K) (aO:o.guard=none:=by rfl):ar P N ops (o::l) (get G) K:=.kP aO he hk
theorem Q3 {f:FuncId}{xs:List Operand}{gm:Array TypeId}{ys args cs cs':List ab}{outs:List (Option ab)}{res:ab}{r k0:Nat}(gQ:bU P f args outs res) (ak:Fb 0 outs=some (k0,cs')) (aq:JQ (get G) xs k0=some r) (hk:s3 [r,d] G=some ks) (au:pick (cu (get G) ⟨r,[]⟩ .dead) ks=some G2) (J:(gl (get G) xs).bind ln=some ys) (aP:nu r cs k0 0 ys args) (di:ar P N ops l (get ((d,res)::(r,.obj cs')::G2)) K) (aB:get G r=some (.obj cs):=by rfl) (he:outs=uy args.length k0 (.obj cs'):=by rfl) (lM:Nat.blt k0 ys.length=true:=by rfl) (aW:gN P f=true:=by kernel_rfl) (aO:get G2 d=none:=by rfl) (r9:Nat.beq r d=false:=by rfl) (BX:pick (get ((r,.obj cs')::G2)) ks=some G2:=by rfl) (bd:N.ok d=true:=by rfl) [e9:dp cs] [ec:cf res] [BQ:dp cs'] [aF:iz G2] :
  ar P N ops (⟨some d,.call { callee:=.value (.func f),args:=xs.toArray,argTypes:=gm },ty,pos,after,none⟩::l) (get G) K:=.kP rfl (hZ.l' gQ ak aq au J aP aB he lM aW aO r9 BX bd) di
theorem QW {eh:List Nat}{f:FuncId}{xs:List Operand}{gm:Array TypeId}{ys args cs cs':List ab}{outs:List (Option ab)}{res:ab}{r k0:Nat}(gQ:bU P f args outs res) (ak:Fb 0 outs=some (k0,cs')) (aq:JQ (dg (get G) (λ_=>true) acc) xs k0=some r) (hk:s3 [r,d] (q2 acc G)=some ks) (au:pick (cu (dg (get G) (λ_=>true) acc) ⟨r,[]⟩ .dead) ks=some G2) (J:(gl (dg (get G) (λ_=>true) acc) xs).bind ln=some ys) (aP:nu r cs k0 0 ys args) (di:cO eh P N ops bf (get ((d,res)::(r,.obj cs')::G2)) (bG+1) [] l K) (aB:dg (get G) (λ_=>true) acc r=some (.obj cs):=by rfl) (he:outs=uy args.length k0 (.obj cs'):=by rfl) (lM:Nat.blt k0 ys.length=true:=by rfl) (aW:gN P f=true:=by kernel_rfl) (aO:get G2 d=none:=by rfl) (r9:Nat.beq r d=false:=by rfl) (BX:pick (get ((r,.obj cs')::G2)) ks=some G2:=by rfl) (bd:N.ok d=true:=by rfl) [e9:dp cs] [ec:cf res] [BQ:dp cs'] [aF:iz G2] (gR:rj ((acc.filterMap j0).map Place.root)=true:=by rfl) (fH:ma G=true:=by rfl) (ah:Nat.beq ops.size (bG+l.length+1)=true:=by rfl)
  (zm:(List.range bG).all (λk=>(bf.getD bG []).contains k)=true:=by kernel_rfl) (av:(List.range ops.size).all (λk=>Nat.ble k bG||(bf.getD k []).contains bG)=true:=by kernel_rfl) :
  cO (bG::eh) P N ops bf (get G) i acc (⟨some d,.call { callee:=.value (.func f),args:=xs.toArray,argTypes:=gm },ty,pos,after,none⟩::l) K:=bz.wM bG (hZ.l' gQ ak aq au J aP aB he lM aW aO r9 BX bd) rfl gR fH ah zm av di
theorem Q4 {hU:List Nat}(lM:s3 (d::roots G a) G=some ks) (hg:Cm G (d::roots G a) [] G=some hU) (he:oB ks hU P N (get G) ⟨some d,.assign a,ty,pos,after,none⟩ (cV (get G2) d v)) (hk:ar P N ops l (get ((d,v)::G2)) K):ar P N ops (⟨some d,.assign a,ty,pos,after,none⟩::l) (get G) K:=.q6 rfl he (pn ▸ hk)
theorem Rf {L:List α}{f:List α->Option β}{Kw:β}{M:List α}{e dx bC:Nat}{hh:TypeId}{parts:Array (Nat × Operand)}{ys:List ab}{en:bK α}(h:(c' L M).bind f=some Kw) [het:hz P hh α en] [aw:er P hh e bC] (hk:ar P N ops l (get ((d,ag en M)::G)) K) (J:(gl (get G) (parts.toList.map (·.2))).bind ln=some ys:=by rfl) (aa:mn ys=some (bo en M):=by rfl) (aX:ys.all (λy=>match jR y with | some c=>Nat.beq c.length en.z | none=>false)=true:=by rfl) (au:parts.toList=(parts.toList.map (·.2)).mapIdx (λi x=>(i,x)):=by rfl) (kx:(parts.toList.map (·.2)).length=dx:=by rfl) (ak:M.length=dx:=by rfl) (nI:bC=en.z:=by rfl) (hzero:ih P e en.z=true:=by kernel_rfl) (av:Nat.ble (dx * en.z) 16777216=true:=by rfl) (gW:Nat.ble dx 16777216=true:=by rfl) [hv:jb (aj en M) (ag en M)] (bd:N.ok d=true:=by rfl) (aW:get G d=none:=by rfl):ar P N ops (⟨some d,.buildSlice hh dx parts,ty,pos,after,none⟩::l) (get G) K :=
 .fi (O.df en M (nI ▸ aw.p) (rO J) aa aX au kx ak hzero av gW) bd aW .none (pn ▸ hk)
theorem LA (M:List α) {e dx bC:Nat}{hh:TypeId}{parts:Array (Nat × Operand)}{ys:List ab}{en:bK α}(aB:wh d l=false) [het:hz P hh α en] [aw:er P hh e bC] (hk:ar P N ops l (get ((d,aj en M)::G)) K) (J:(gl (get G) (parts.toList.map (·.2))).bind ln=some ys:=by rfl) (aa:mn ys=some (bo en M):=by rfl) (aX:ys.all (λy=>match jR y with | some c=>Nat.beq c.length en.z | none=>false)=true:=by rfl) (au:parts.toList=(parts.toList.map (·.2)).mapIdx (λi x=>(i,x)):=by rfl) (kx:(parts.toList.map (·.2)).length=dx:=by rfl) (ak:M.length=dx:=by rfl) (nI:bC=en.z:=by rfl) (hzero:ih P e en.z=true:=by kernel_rfl) (av:Nat.ble (dx * en.z) 16777216=true:=by rfl) (gW:Nat.ble dx 16777216=true:=by rfl) (bd:N.ok d=true:=by rfl) (aW:get G d=none:=by rfl):ar P N ops (⟨some d,.buildSlice hh dx parts,ty,pos,after,none⟩::l) (get G) K :=
 eA (O.df en M (nI ▸ aw.p) (rO J) aa aX au kx ak hzero av gW) hk bd aW
theorem Rg {M:List α}{e dx bC:Nat}{hh:TypeId}{parts:Array (Nat × Operand)}{ys:List ab}{en:bK α}(aB:wh d l=true) [het:hz P hh α en] [aw:er P hh e bC] (hk:ar P N ops l (get ((d,ag en M)::G)) K) (J:(gl (get G) (parts.toList.map (·.2))).bind ln=some ys:=by rfl) [aS:pa en ys M] (au:parts.toList=(parts.toList.map (·.2)).mapIdx (λi x=>(i,x)):=by rfl) (kx:(parts.toList.map (·.2)).length=dx:=by rfl) (ak:ys.length=dx:=by rfl) (nI:bC=en.z:=by rfl) (hzero:ih P e en.z=true:=by kernel_rfl) (av:Nat.ble (dx * en.z) 16777216=true:=by rfl) (gW:Nat.ble dx 16777216=true:=by rfl) [hv:jb (aj en M) (ag en M)] (bd:N.ok d=true:=by rfl) (aW:get G d=none:=by rfl):ar P N ops (⟨some d,.buildSlice hh dx parts,ty,pos,after,none⟩::l) (get G) K :=
 .fi (O.df en M (nI ▸ aw.p) (rO J) aS.p.1 aS.p.2.1 au kx (aS.p.2.2.trans ak) hzero av gW) bd aW .none (pn ▸ hk)
theorem Rh {M:List α}{e dx bC:Nat}{hh:TypeId}{parts:Array (Nat × Operand)}{ys:List ab}{en:bK α}(aB:wh d l=false) [het:hz P hh α en] [aw:er P hh e bC] (hk:ar P N ops l (get ((d,aj en M)::G)) K) (J:(gl (get G) (parts.toList.map (·.2))).bind ln=some ys:=by rfl) [aS:pa en ys M] (au:parts.toList=(parts.toList.map (·.2)).mapIdx (λi x=>(i,x)):=by rfl) (kx:(parts.toList.map (·.2)).length=dx:=by rfl) (ak:ys.length=dx:=by rfl) (nI:bC=en.z:=by rfl) (hzero:ih P e en.z=true:=by kernel_rfl) (av:Nat.ble (dx * en.z) 16777216=true:=by rfl) (gW:Nat.ble dx 16777216=true:=by rfl) (bd:N.ok d=true:=by rfl) (aW:get G d=none:=by rfl):ar P N ops (⟨some d,.buildSlice hh dx parts,ty,pos,after,none⟩::l) (get G) K :=
 eA (O.df en M (nI ▸ aw.p) (rO J) aS.p.1 aS.p.2.1 au kx (aS.p.2.2.trans ak) hzero av gW) hk bd aW
theorem ez {eh:List Nat}(au:cg P (jA bf g bG acc) op ty v) (hk:cO eh P N ops bf g i ((bG,d,some v)::acc) l K) (ah:Nat.beq ops.size (bG+l.length+1)=true:=by rfl) (aW:g d=none:=by rfl) (aF:acc.all (λe=>!Nat.beq e.2.1 d)=true:=by rfl) (bd:N.ok d=true:=by rfl):cO (bG::eh) P N ops bf g i acc (⟨some d,op,ty,pos,after,none⟩::l) K:=aE _ au hk ah aW aF bd
theorem eG {eh:List Nat}(au:cg P (jA bf g bG acc) op ty v) (hk:cO eh P N ops bf g i ((bG,d,some v)::acc) l K) (h:(ops[j]?).bind (·.dst)=some cT:=by rfl) (aO:jA bf g bG acc cT=some (.lit (.bool cD)):=by rfl) (av:cD=b:=by (first | rfl | assumption)) (ah:Nat.beq ops.size (bG+l.length+1)=true:=by rfl) (aW:g d=none:=by rfl) (aF:acc.all (λe=>!Nat.beq e.2.1 d)=true:=by rfl) (bd:N.ok d=true:=by rfl):cO (bG::eh) P N ops bf g i acc (⟨some d,op,ty,pos,after,some (j,b)⟩::l) K:=.v _ au ah aW aF bd (.fp h aO av) hk
theorem Ld {eh:List Nat}(au:cJ P (jA bf g bG acc) op v) (hk:cO eh P N ops bf g i ((bG,d,some v)::acc) l K) (ah:Nat.beq ops.size (bG+l.length+1)=true:=by rfl) (aW:g d=none:=by rfl) (aF:acc.all (λe=>!Nat.beq e.2.1 d)=true:=by rfl) (bd:N.ok d=true:=by rfl):cO (bG::eh) P N ops bf g i acc (⟨some d,op,ty,pos,after,none⟩::l) K:=.c _ au ah aW aF bd .none hk
theorem Lc {eh:List Nat}(au:cJ P (jA bf g bG acc) op v) (hk:cO eh P N ops bf g i ((bG,d,some v)::acc) l K) (h:(ops[j]?).bind (·.dst)=some cT:=by rfl) (aO:jA bf g bG acc cT=some (.lit (.bool cD)):=by rfl) (av:cD=b:=by (first | rfl | assumption)) (ah:Nat.beq ops.size (bG+l.length+1)=true:=by rfl) (aW:g d=none:=by rfl) (aF:acc.all (λe=>!Nat.beq e.2.1 d)=true:=by rfl) (bd:N.ok d=true:=by rfl):cO (bG::eh) P N ops bf g i acc (⟨some d,op,ty,pos,after,some (j,b)⟩::l) K:=.c _ au ah aW aF bd (.fp h aO av) hk
theorem Q0 {eh:List Nat}(hk:cO eh P N ops bf g i ((bG,d,some (.bW []))::acc) l K) (h:(ops[j]?).bind (·.dst)=some cT:=by rfl) (aO:jA bf g bG acc cT=some (.lit (.bool cD)):=by rfl) (av:cD=!b:=by (first | rfl | assumption)) (ah:Nat.beq ops.size (bG+l.length+1)=true:=by rfl) (aW:g d=none:=by rfl) (aF:acc.all (λe=>!Nat.beq e.2.1 d)=true:=by rfl) (bd:N.ok d=true:=by rfl):cO (bG::eh) P N ops bf g i acc (⟨some d,op,ty,pos,after,some (j,b)⟩::l) K:=.ps _ h aO av ah aW aF bd hk
theorem Q2 {eh:List Nat}(hk:cO eh P N ops bf g i ((bG,d,some (.bW []))::acc) l K) (h:(ops[j]?).bind (·.dst)=some cT:=by rfl) (aO:jA bf g bG acc cT=some (.bW []):=by rfl) (ah:Nat.beq ops.size (bG+l.length+1)=true:=by rfl) (aW:g d=none:=by rfl) (aF:acc.all (λe=>!Nat.beq e.2.1 d)=true:=by rfl) (bd:N.ok d=true:=by rfl):cO (bG::eh) P N ops bf g i acc (⟨some d,op,ty,pos,after,some (j,b)⟩::l) K:=.pu _ h aO ah aW aF bd hk
theorem QU {eh:List Nat}{L:List α}{f:List α->Option β}{Kw:β}{M:List α}{e dx bC:Nat}{hh:TypeId}{parts:Array (Nat × Operand)}{ys:List ab}{en:bK α}(h:(c' L M).bind f=some Kw) [het:hz P hh α en] [aw:er P hh e bC] (hk:cO eh P N ops bf g i ((bG,d,some (ag en M))::acc) l K) (J:(gl (jA bf g bG acc) (parts.toList.map (·.2))).bind ln=some ys:=by rfl) (aa:mn ys=some (bo en M):=by rfl) (aX:ys.all (λy=>match jR y with | some c=>Nat.beq c.length en.z | none=>false)=true:=by rfl) (au:parts.toList=(parts.toList.map (·.2)).mapIdx (λi x=>(i,x)):=by rfl) (kx:(parts.toList.map (·.2)).length=dx:=by rfl) (ak:M.length=dx:=by rfl) (nI:bC=en.z:=by rfl) (hzero:ih P e en.z=true:=by kernel_rfl) (av:Nat.ble (dx * en.z) 16777216=true:=by rfl) (gW:Nat.ble dx 16777216=true:=by rfl) [hv:jb (aj en M) (ag en M)] (ah:Nat.beq ops.size (bG+l.length+1)=true:=by rfl) (aW:g d=none:=by rfl) (aF:acc.all (λe=>!Nat.beq e.2.1 d)=true:=by rfl) (bd:N.ok d=true:=by rfl):cO (bG::eh) P N ops bf g i acc (⟨some d,.buildSlice hh dx parts,ty,pos,after,none⟩::l) K :=
 bz.fi bG (O.df en M (nI ▸ aw.p) (rO J) aa aX au kx ak hzero av gW) ah aW aF bd .none hk
theorem Q1 {eh:List Nat}(M:List α) {e dx bC:Nat}{hh:TypeId}{parts:Array (Nat × Operand)}{ys:List ab}{en:bK α}(aB:wh d l=true) [het:hz P hh α en] [aw:er P hh e bC] (hk:cO eh P N ops bf g i ((bG,d,some (ag en M))::acc) l K) (J:(gl (jA bf g bG acc) (parts.toList.map (·.2))).bind ln=some ys:=by rfl) (aa:mn ys=some (bo en M):=by rfl) (aX:ys.all (λy=>match jR y with | some c=>Nat.beq c.length en.z | none=>false)=true:=by rfl) (au:parts.toList=(parts.toList.map (·.2)).mapIdx (λi x=>(i,x)):=by rfl) (kx:(parts.toList.map (·.2)).length=dx:=by rfl) (ak:M.length=dx:=by rfl) (nI:bC=en.z:=by rfl) (hzero:ih P e en.z=true:=by kernel_rfl) (av:Nat.ble (dx * en.z) 16777216=true:=by rfl) (gW:Nat.ble dx 16777216=true:=by rfl) [hv:jb (aj en M) (ag en M)] (ah:Nat.beq ops.size (bG+l.length+1)=true:=by rfl) (aW:g d=none:=by rfl) (aF:acc.all (λe=>!Nat.beq e.2.1 d)=true:=by rfl) (bd:N.ok d=true:=by rfl):cO (bG::eh) P N ops bf g i acc (⟨some d,.buildSlice hh dx parts,ty,pos,after,none⟩::l) K :=
 bz.fi bG (O.df en M (nI ▸ aw.p) (rO J) aa aX au kx ak hzero av gW) ah aW aF bd .none hk
theorem Le {eh:List Nat}(M:List α) {e dx bC:Nat}{hh:TypeId}{parts:Array (Nat × Operand)}{ys:List ab}{en:bK α}(aB:wh d l=false) [het:hz P hh α en] [aw:er P hh e bC] (hk:cO eh P N ops bf g i ((bG,d,some (aj en M))::acc) l K) (J:(gl (jA bf g bG acc) (parts.toList.map (·.2))).bind ln=some ys:=by rfl) (aa:mn ys=some (bo en M):=by rfl) (aX:ys.all (λy=>match jR y with | some c=>Nat.beq c.length en.z | none=>false)=true:=by rfl) (au:parts.toList=(parts.toList.map (·.2)).mapIdx (λi x=>(i,x)):=by rfl) (kx:(parts.toList.map (·.2)).length=dx:=by rfl) (ak:M.length=dx:=by rfl) (nI:bC=en.z:=by rfl) (hzero:ih P e en.z=true:=by kernel_rfl) (av:Nat.ble (dx * en.z) 16777216=true:=by rfl) (gW:Nat.ble dx 16777216=true:=by rfl) (ah:Nat.beq ops.size (bG+l.length+1)=true:=by rfl) (aW:g d=none:=by rfl) (aF:acc.all (λe=>!Nat.beq e.2.1 d)=true:=by rfl) (bd:N.ok d=true:=by rfl):cO (bG::eh) P N ops bf g i acc (⟨some d,.buildSlice hh dx parts,ty,pos,after,none⟩::l) K :=
 ez (O.df en M (nI ▸ aw.p) (rO J) aa aX au kx ak hzero av gW) hk ah aW aF bd
theorem QV {eh:List Nat}{M:List α}{e dx bC:Nat}{hh:TypeId}{parts:Array (Nat × Operand)}{ys:List ab}{en:bK α}(aB:wh d l=true) [het:hz P hh α en] [aw:er P hh e bC] (hk:cO eh P N ops bf g i ((bG,d,some (ag en M))::acc) l K) (J:(gl (jA bf g bG acc) (parts.toList.map (·.2))).bind ln=some ys:=by rfl) [aS:pa en ys M] (au:parts.toList=(parts.toList.map (·.2)).mapIdx (λi x=>(i,x)):=by rfl) (kx:(parts.toList.map (·.2)).length=dx:=by rfl) (ak:ys.length=dx:=by rfl) (nI:bC=en.z:=by rfl) (hzero:ih P e en.z=true:=by kernel_rfl) (av:Nat.ble (dx * en.z) 16777216=true:=by rfl) (gW:Nat.ble dx 16777216=true:=by rfl) [hv:jb (aj en M) (ag en M)] (ah:Nat.beq ops.size (bG+l.length+1)=true:=by rfl) (aW:g d=none:=by rfl) (aF:acc.all (λe=>!Nat.beq e.2.1 d)=true:=by rfl) (bd:N.ok d=true:=by rfl):cO (bG::eh) P N ops bf g i acc (⟨some d,.buildSlice hh dx parts,ty,pos,after,none⟩::l) K :=
 bz.fi bG (O.df en M (nI ▸ aw.p) (rO J) aS.p.1 aS.p.2.1 au kx (aS.p.2.2.trans ak) hzero av gW) ah aW aF bd .none hk
theorem QY {eh:List Nat}{M:List α}{e dx bC:Nat}{hh:TypeId}{parts:Array (Nat × Operand)}{ys:List ab}{en:bK α}(aB:wh d l=false) [het:hz P hh α en] [aw:er P hh e bC] (hk:cO eh P N ops bf g i ((bG,d,some (aj en M))::acc) l K) (J:(gl (jA bf g bG acc) (parts.toList.map (·.2))).bind ln=some ys:=by rfl) [aS:pa en ys M] (au:parts.toList=(parts.toList.map (·.2)).mapIdx (λi x=>(i,x)):=by rfl) (kx:(parts.toList.map (·.2)).length=dx:=by rfl) (ak:ys.length=dx:=by rfl) (nI:bC=en.z:=by rfl) (hzero:ih P e en.z=true:=by kernel_rfl) (av:Nat.ble (dx * en.z) 16777216=true:=by rfl) (gW:Nat.ble dx 16777216=true:=by rfl) (ah:Nat.beq ops.size (bG+l.length+1)=true:=by rfl) (aW:g d=none:=by rfl) (aF:acc.all (λe=>!Nat.beq e.2.1 d)=true:=by rfl) (bd:N.ok d=true:=by rfl):cO (bG::eh) P N ops bf g i acc (⟨some d,.buildSlice hh dx parts,ty,pos,after,none⟩::l) K :=
 ez (O.df en M (nI ▸ aw.p) (rO J) aS.p.1 aS.p.2.1 au kx (aS.p.2.2.trans ak) hzero av gW) hk ah aW aF bd
theorem QZ {eh:List Nat}{hU:List Nat}(lM:s3 [] (q2 acc G)=some ks) (hg:Cm (q2 acc G) [] [] (q2 acc G)=some hU) (he:oB ks hU P N (dg (get G) (λ_=>true) acc) o (get G2)) (hk:cO eh P N ops bf (get G2) (bG+1) [] l K) (aO:o.guard=none:=by rfl) (gR:rj ((acc.filterMap j0).map Place.root)=true:=by rfl) (fH:ma G=true:=by rfl) (ah:Nat.beq ops.size (bG+l.length+1)=true:=by rfl)
  (aP:(List.range bG).all (λk=>(bf.getD bG []).contains k)=true:=by kernel_rfl) (av:(List.range ops.size).all (λk=>Nat.ble k bG||(bf.getD k []).contains bG)=true:=by kernel_rfl):cO (bG::eh) P N ops bf (get G) i acc (o::l) K:=.wM _ he aO gR fH ah aP av hk
theorem QX {eh:List Nat}{hU:List Nat}(lM:s3 (d::roots (q2 acc G) a) (q2 acc G)=some ks) (hg:Cm (q2 acc G) (d::roots (q2 acc G) a) [] (q2 acc G)=some hU) (he:oB ks hU P N (dg (get G) (λ_=>true) acc) ⟨some d,.assign a,ty,pos,after,none⟩ (cV (get G2) d v)) (hk:cO eh P N ops bf (get ((d,v)::G2)) (bG+1) [] l K) (gR:rj ((acc.filterMap j0).map Place.root)=true:=by rfl) (fH:ma G=true:=by rfl) (ah:Nat.beq ops.size (bG+l.length+1)=true:=by rfl)
  (aP:(List.range bG).all (λk=>(bf.getD bG []).contains k)=true:=by kernel_rfl) (av:(List.range ops.size).all (λk=>Nat.ble k bG||(bf.getD k []).contains bG)=true:=by kernel_rfl):cO (bG::eh) P N ops bf (get G) i acc (⟨some d,.assign a,ty,pos,after,none⟩::l) K:=.bv _ he rfl gR fH ah aP av hk
theorem bz.MC {K:aK->Prop}(aX:acc.filterMap j0=[]) (fH:ma G=true) (hi:Nat.ble i ops.size=true) (di:K (dg (get G) (λ_=>true) acc)):bz P N ops bf (get G) i acc [] K:=by
 intro dU j cn kT lh;have ah:j=ops.size:=by
  have h1:ops.size<=j:=by
   have:=congrArg List.length lh;rw [List.length_drop,List.length_nil,Array.length_toList] at this;omega
  have aI:j<=ops.size:=by
   cases kT with
   | nil=>exact Nat.le_of_ble_eq_true hi
   | step _ a1=>have:=(Array.getElem?_eq_some_iff.1 a1).1; omega
  omega
 subst ah;exact ⟨_,.fin kT (by rw [aX]; exact List.nodup_nil) (vM fH),di⟩
theorem QT {eh:List Nat}{DJ:lA->List (Nat × ab)->Prop}(lM:JM E [] (q2 acc G)=some ks) (au:pick (dg (get G) (λ_=>true) acc) ks=some G1) [aF:iz G1] (hk:DJ t G1) (aX:acc.filterMap j0=[]:=by rfl) (fH:ma G=true:=by rfl) (hi:Nat.ble i ops.size=true:=by rfl):cO eh P N ops bf (get G) i acc [] (yQ E t DJ) :=
 .MC aX fH hi ⟨G1,(uF (c:=true) (g2:=get G1) au aF.p).eY,hk⟩
theorem QS {eh:List Nat}{F:α->List (Nat × ab)}{j v:α}(h:some v=some j) (aw:Trim true (dg (get G) (λ_=>true) acc) (get (F v)) (F v)) (aX:acc.filterMap j0=[]:=by rfl) (fH:ma G=true:=by rfl) (hi:Nat.ble i ops.size=true:=by rfl):cO eh P N ops bf (get G) i acc [] (rH F j .normal):=by
 cases h; exact .MC aX fH hi ⟨rfl,.eY aw.eY .h3⟩
theorem cM.rd [hm:AQ P] (h:cO num P N l.toArray bf (get G) 0 [] l (yQ E y λt G1=>cM E t P N B G1 Φ)) (ev:ph l.toArray bf=true:=by kernel_rfl):cM E (.rd id bf y) P N (.seq (.region id l.toArray true) B) G Φ:=by
 obtain ⟨g',h1,G1,af,aI⟩:=h [] 0 .nil .nil (by simp);exact W.seq ((gf.draw hm.p ev h1).w (W.weaken af aI))
theorem cM.bV {m:Option α}{f:α->Option β}{r:β}{L c8:α->List (Nat × ab)} [hm:AQ P] (h:m.bind f=some r) (h1:∀ j,m=some j->cO num P N l.toArray bf (get G) 0 [] l (rH c8 j .normal)) (af:∀ j,m=some j->f j=some r->cM E y P N B (c8 j) Φ)
  (aN:∀ j,pick (pR (L j) G) ks=some (c8 j):=by intro j; rfl) (ev:ph l.toArray bf=true:=by kernel_rfl):cM E (.bV id bf ks L y) P N (.seq (.region id l.toArray true) B) G Φ:=by
 obtain ⟨j,ah,h⟩:=la h;obtain ⟨g',cv,_,fG⟩:=h1 j ah [] 0 .nil .nil (by simp);exact W.seq ((gf.draw hm.p ev cv).w (W.be (af j ah h) fG))
theorem cM.Yc [hm:AQ P] (h:cO num P N l.toArray bf (get G) 0 [] l (yQ E y λt G1=>et E t .normal Φ G1)) (ev:ph l.toArray bf=true:=by kernel_rfl):cM E (.rd id bf y) P N (.region id l.toArray true) G Φ:=by
 obtain ⟨g',h1,G1,af,aI⟩:=h [] 0 .nil .nil (by simp);exact (gf.draw hm.p ev h1).w (aI g' (.eY af .h3))
theorem cM.Yh {m:Option α}{f:α->Option β}{r:β}{L c8:α->List (Nat × ab)} [hm:AQ P] (h:m.bind f=some r) (h1:∀ j,m=some j->cO num P N l.toArray bf (get G) 0 [] l (rH c8 j .normal)) (af:∀ j,m=some j->f j=some r->et E y .normal Φ (c8 j))
  (aN:∀ j,pick (pR (L j) G) ks=some (c8 j):=by intro j; rfl) (ev:ph l.toArray bf=true:=by kernel_rfl):cM E (.bV id bf ks L y) P N (.region id l.toArray true) G Φ:=by
 obtain ⟨j,ah,h⟩:=la h;obtain ⟨g',cv,_,fG⟩:=h1 j ah [] 0 .nil .nil (by simp);exact (gf.draw hm.p ev cv).w (af j ah h _ fG)
theorem cM.Yg {m:Option α}{f:α->Option β}{r:β}{L c8:α->List (Nat × ab)}(h:m.bind f=some r) (h1:∀ j,m=some j->ar P N l.toArray l (get G) (rH c8 j .normal)) (af:∀ j,m=some j->f j=some r->et E y .normal Φ (c8 j))
  (aN:∀ j,pick (pR (L j) G) ks=some (c8 j):=by intro j; rfl):cM E (.ep id ks L y) P N (.region id l.toArray false) G Φ:=by
 obtain ⟨j,ah,h⟩:=la h;exact W.Aw λi hi=>by
  obtain ⟨g',cv,_,fG⟩:=h1 j ah i hi;exact ⟨g',cv,af j ah h _ fG⟩
theorem cM.gk {S R hb:Type}{f:S->Option (S ⊕ (R ⊕ hb))}{s:S}{HJ:R ⊕ hb->Option β}{r:β}{F c8:S->List (Nat × ab)}{ks sj Cn:List Nat}{X ml:R->List (Nat × ab)}{Y tv:hb->List (Nat × ab)}(h:(b1 f s).bind HJ=some r)
  (av:∀ s o,f s=some o->cM E x P N c (c8 s) (k_ c8 (AU id ml tv) o)) (J:∀ dm,HJ (.inl dm)=some r->et E y (.exit id) Φ (ml dm)) (ax:∀ dm,HJ (.inr dm)=some r->et E z .ret Φ (tv dm))
  (aN:∀ s,pick (pR (F s) G) ks=some (c8 s):=by intro s; rfl) (tR:∀ s,pick (pR (X s) G) sj=some (ml s):=by intro s; rfl) (w6:∀ s,pick (pR (Y s) G) Cn=some (tv s):=by intro s; rfl) (aw:Trim true (get G) (get (c8 s)) (c8 s):=by (repeat' first | exact .nil | refine .n rfl ?_ | refine .w rfl rfl .pP ?_ | refine .w rfl rfl .pO ?_ | refine .w rfl rfl (j_.obj (by (repeat' first | exact .nil | refine .f ?_ | refine .o ?_ | refine .i ?_))) ?_)) :
  cM E (.gk F ks id X sj Y Cn x y z) P N (.loop c) G Φ:=by
 obtain ⟨dm,ak,h⟩:=la h;exact W.dB aw (W.OR c8 id ml tv ak av (λq e=>J q (e ▸ h)) (λq e=>ax q (e ▸ h)))
theorem et.x2 {S R hb:Type}{r:R}{o:S ⊕ (R ⊕ hb)}{F:S->List (Nat × ab)}{X:R->List (Nat × ab)}{Y:hb->List (Nat × ab)}(h:some (.inr (.inl r))=some o) (aw:Trim true (get G) (get (X r)) (X r)):et E t (.exit id) (k_ F (AU id X Y) o) G:=by
 cases h; exact aC.x2 aw
theorem et.lu {S R hb:Type}{r:hb}{o:S ⊕ (R ⊕ hb)}{F:S->List (Nat × ab)}{X:R->List (Nat × ab)}{Y:hb->List (Nat × ab)}(h:some (.inr (.inr r))=some o) (aw:Trim true (get G) (get (Y r)) (Y r)):et E t .ret (k_ F (AU id X Y) o) G:=by
 cases h; exact aC.lu aw
end
section
variable {P:Program}{N:c5}{E:List Nat}{t x y z:lA}{A B c:Code}{G:List (Nat × ab)}{Φ:Exit->aK->Prop}{id k s:Nat}{o:Operand}
theorem j9.dN {α:Type}{en:bK α}{i:Option Nat}(h:cM E (.dN id s i en y) P N c G Φ):cM E (.dN id s i en y) P N c G Φ:=h
theorem j9.sF {α:Type}{en:bK α}{i:Option Nat}(h:cM E (.sF s i en y) P N c G Φ):cM E (.sF s i en y) P N c G Φ:=h
theorem j9.ep {α:Type}{ks:List Nat}{L:α->List (Nat × ab)}(h:cM E (.ep id ks L y) P N c G Φ):cM E (.ep id ks L y) P N c G Φ:=h
theorem j9.bV {α:Type}{bf:List (List Nat)}{ks:List Nat}{L:α->List (Nat × ab)}(h:cM E (.bV id bf ks L y) P N c G Φ):cM E (.bV id bf ks L y) P N c G Φ:=h
theorem j9.rd {bf:List (List Nat)}(h:cM E (.rd id bf y) P N c G Φ):cM E (.rd id bf y) P N c G Φ:=h
theorem j9.bE (h:cM E t P N (.cond o A B) G Φ):cM E t P N (.cond o A B) G Φ:=h
theorem j9.eQ (h:cM E t P N (.loop A) G Φ):cM E t P N (.loop A) G Φ:=h
theorem j9.JH {α:Type}{ks:List Nat}{L:α->List (Nat × ab)}(h:cM E (.dF ks L x y) P N (.block id A) G Φ):cM E (.dF ks L x y) P N (.block id A) G Φ:=h
theorem j9.rg {ops:Array Oper}{b:Bool}(h:cM E t P N (.region id ops b) G Φ):cM E t P N (.region id ops b) G Φ:=h
theorem j9.X0 {S R:Type}{F:S->List (Nat × ab)}{Ψ:R->Exit->aK->Prop}{o:S ⊕ R}{e:Exit}(h:et E t e (k_ F Ψ o) G):et E t e (k_ F Ψ o) G:=h
theorem j9.X3 {α:Type}{F:α->List (Nat × ab)}{j:α}{e:Exit}(h:et E t e (rH F j) G):et E t e (rH F j) G:=h
theorem j9.RY (h:et E t (.exit k) (l_ id Φ) G):et E t (.exit k) (l_ id Φ) G:=h
theorem j9.XZ {rs:List ResultVar}{n:Nat}{outs:List (Option ab)}{res:ab}{e:Exit}(h:et E t e (p4 P N rs n outs res) G):et E t e (p4 P N rs n outs res) G:=h
end
section
variable {P:Program}{N:c5}{E:List Nat}{t:lA}{G:List (Nat × ab)}{g':aK}{rs:List ResultVar}{ys xs:List ab}{res:ab}{outs:List (Option ab)}{n:Nat}
theorem j6.Mo {g w3:aK}{s z:Nat}{hh:TypeId}{cs ys0:List ab}{rs:List ResultVar}{ys xs:List ab}(h:g s=some (.obj cs)) [aw:km P hh z] (aX:cs.length=z) (aQ:Nat.blt 0 z=true) (ax:yg (λi x=>gr 0 ⟨s,[i]⟩ x) 0 num cs=some ys0) (hk:nx s g 0 ys0 cs w3) (aq:j6 P w3 rs ys xs g'):j6 P g (.cell s hh::rs) (.agg ys0::ys) (.agg cs::xs) g':=.c h aw.p aX aQ (by have:=Dj ax; simpa using this) hk aq
theorem et.eT (h:j6 P (get G) rs ys xs g':=by (repeat' first | exact .nil | (apply j6.f rfl rfl) | (apply j6.o rfl) | (apply j6.Mo rfl rfl rfl rfl) | (apply nx.f rfl) | (apply nx.o rfl))) (he:qF xs=res:=by rfl) (a1:qW g' N.pins 0 outs:=by (repeat' first | exact .nil | refine .no ?_ | refine .ao rfl rfl ?_)) (fm:(rs.filterMap fun | .cell t _=>some t | _=>none).Nodup:=by exact of_decide_eq_true (by kernel_rfl)) (ak:outs.length=n:=by rfl):et E t .ret (p4 P N rs n outs res) G:=ja h he a1 fm ak
theorem et.fn (h:j6 P (get G) rs ys xs g':=by (repeat' first | exact .nil | (apply j6.f rfl rfl) | (apply j6.o rfl) | (apply j6.Mo rfl rfl rfl rfl) | (apply nx.f rfl) | (apply nx.o rfl))) (he:qF xs=res:=by rfl) (a1:qW g' N.pins 0 outs:=by (repeat' first | exact .nil | refine .no ?_ | refine .ao rfl rfl ?_)) (fm:(rs.filterMap fun | .cell t _=>some t | _=>none).Nodup:=by exact of_decide_eq_true (by kernel_rfl)) (ak:outs.length=n:=by rfl):et E t .normal (p4 P N rs n outs res) G:=aC.fin (Fin.ro h he fm a1 ak (.inl rfl))
set_option maxRecDepth 1000000 in
/-- The walk: what it meets it does. -/
theorem dE {p:Prop}(h:p:=by
(repeat' (first
 | ((with_reducible apply ar.bO _ none); first
  | ((with_reducible apply ar.bO (.move _) none); first | refine eA (O.aZ .q) ?_)
  | ((with_reducible apply ar.bO (.assign (.const _)) none); first | refine eA (O.az .q) ?_)
  | ((with_reducible apply ar.bO (.assign (.tmp _)) none); first | refine eA (O.az .Aq) ?_)
  | ((with_reducible apply ar.bO (.load _ _) none); first | refine eA (O.ig) ?_ | refine eA (O.hy) ?_ | refine eA (O.AE) ?_ | refine eA (O.AF) ?_ | refine eA (O.Gg) ?_ | refine eA (O.Gk) ?_ | refine eA (O.Gv) ?_)
  | ((with_reducible apply ar.bO (.fieldAddr _ _ _) none); first | refine eA (O.Gc) ?_ | refine eA (O.Gd) ?_ | refine eA (O.wf) ?_)
  | ((with_reducible apply ar.bO (.indexAddr _ _ _) none); first | refine aM h λx J h=>eA (O.Gf J) ?_ | refine aM h λx J h=>eA (O.yw J) ?_ | refine eA (O.eY) ?_ | refine eA (O.Gl) ?_)
  | ((with_reducible apply ar.bO (.binOp .add _ _ _ _) none); first | refine eA (O.add .q .q) ?_ | refine aM h λx J h=>eA (O.cat .q .q J) ?_)
  | ((with_reducible apply ar.bO (.binOp .sub _ _ _ _) none); first | refine eA (O.sub .q .q) ?_)
  | ((with_reducible apply ar.bO (.binOp .mul _ _ _ _) none); first | refine eA (O.mul .q .q) ?_)
  | ((with_reducible apply ar.bO (.binOp .lss _ _ _ _) none); first | refine eA (O.lss .q .q) ?_)
  | ((with_reducible apply ar.bO (.binOp .leq _ _ _ _) none); first | refine eA (O.leq .q .q) ?_)
  | ((with_reducible apply ar.bO (.binOp .gtr _ _ _ _) none); first | refine eA (O.gtr .q .q) ?_)
  | ((with_reducible apply ar.bO (.binOp .geq _ _ _ _) none); first | refine eA (O.geq .q .q) ?_)
  | ((with_reducible apply ar.bO (.binOp .eql _ _ _ _) none); first | refine eA (O.eql .q .q) ?_ | refine eA (O.qf .q .q) ?_ | refine eA (O.Eh .q .q (by kernel_rfl)) ?_ | refine eA (O.ou) ?_)
  | ((with_reducible apply ar.bO (.binOp .neq _ _ _ _) none); first | refine eA (O.neq .q .q) ?_ | refine eA (O.oo .q .q) ?_ | refine eA (O.wn) ?_)
  | ((with_reducible apply ar.bO (.binOp .quo _ _ _ _) none); first | refine aM h λx J h=>eA (O.quo .q .q J) ?_ | refine aM h λx J h=>eA (O.rq .q .q J) ?_)
  | ((with_reducible apply ar.bO (.binOp .rem _ _ _ _) none); first | refine aM h λx J h=>eA (O.rem .q .q J) ?_ | refine aM h λx J h=>eA (O.rv .q .q J) ?_)
  | ((with_reducible apply ar.bO (.unOp .not _ _) none); first | refine eA (O.not .q) ?_)
  | ((with_reducible apply ar.bO (.unOp .neg _ _) none); first | refine eA (O.neg .q) ?_)
  | ((with_reducible apply ar.bO (.pick _ _ _) none); first | refine eA (O.hW .q (by first | rfl | assumption) .q) ?_ | refine eA (O.dz .q (by first | rfl | assumption) .q) ?_)
  | ((with_reducible apply ar.bO (.nilCheck _) none); first | refine eA (O.eV .q) ?_ | refine eA (O.xP .q) ?_)
  | ((with_reducible apply ar.bO (.index _ _ _) none); first | refine aM h λx J h=>eA (O.mm .q .q iZ.p J) ?_)
  | ((with_reducible apply ar.bO (.extract _ _) none); first | refine eA (O.Gt) ?_)
  | ((with_reducible apply ar.bO (.convert _ _ _) none); first | refine eA (O.Gj) ?_ | refine eA (O.Gi) ?_)
  | ((with_reducible apply ar.bO (.box _ _) none); first | refine eA (O.Ga) ?_)
  | ((with_reducible apply ar.bO (.alloc _) none); first | refine eA (O.Gh) ?_)
  | ((with_reducible apply ar.bO (.build _ _) none); first | refine eA (O.Gs) ?_)
  | ((with_reducible apply ar.bO (.field _ _ _) none); first | refine eA (O.wd) ?_)
  | ((with_reducible apply ar.bO (.makeSlice _ _ _) none); first | refine aM h λx J h=>eA (O.Gm J) ?_ | refine aM h λx J h=>eA (O.Gu J) ?_)
  | ((with_reducible apply ar.bO (.buildSlice _ 0 #[]) none); first | refine eA (O.wl) ?_)
  | ((with_reducible apply ar.bO (.makeFunc _ _ _) none); first | refine eA (O.zO rfl) ?_)
  | ((with_reducible apply ar.bO (.slice _ _ _ _ _) none); first | refine aM h λx J h=>eA (O.yn .q .q .q iZ.p J) ?_ | refine aM h λx J h=>eA (O.F0 .q .q iZ.p J) ?_ | refine aM h λx J h=>eA (O.F1 .q .q iZ.p J) ?_ | refine aM h λx J h=>eA (O.Gr J) ?_ | refine aM h λx J h=>eA (O.Gp J) ?_ | refine aM h λx J h=>eA (O.Gq J) ?_)
  | ((with_reducible apply ar.bO (.call { callee:=.builtin .len,args:=#[_],argTypes:=#[_] }) none); first | refine eA (O.kz .q er.p) ?_ | refine eA (O.mD .q er.p) ?_ | refine eA (O.ux .q iZ.p) ?_)
  | ((with_reducible apply ar.bO (.call { callee:=.builtin .append,args:=#[_,_],argTypes:=#[_,_] }) none); first | refine aM h λx J h=>eA (O.wp J) ?_ | refine aM h λx J h=>eA (O.Gn J) ?_ | refine aM h λx J h=>eA (O.Gb J) ?_ | refine aM h λx J h=>eA (O.wr J) ?_)
  | ((with_reducible apply ar.bO (.call { callee:=.value _,args:=_,argTypes:=_ }) none); first | (refine aM h λx J h=>Ly (cJ.fB ?_ (bD.go J)) ?_; · (repeat' first | exact .nil | refine .cD .q ?_)) | (refine aM h λx J h=>Ly (cJ.mJ rfl ?_ (bD.go J)) ?_; · (repeat' first | exact .nil | refine .s ?_ | refine .c (View.nU rfl rfl) ?_ | refine .c (.row rfl) ?_ | refine .c (View.mR ?_) ?_ | refine .c (View.cl ?_) ?_)) | (refine aM h λx J h=>Q3 (bD.go J) rfl rfl rfl rfl rfl (by repeat' first | exact .nil | refine .b rfl ?_ | refine .n rfl ?_) ?_))
  | ((with_reducible apply ar.bO (.buildSlice _ _ _) none); first | refine Rf h ?_ | refine Rg rfl ?_ | refine Rh rfl ?_ | refine LA [_] rfl ?_ | refine LA [_,_] rfl ?_)
  | ((with_reducible apply ar.bO (.assign _) none); refine Ri rfl rfl rfl ?_)
  | ((with_reducible apply ar.bO (.move _) none); refine Rj rfl rfl rfl ?_)
  | ((with_reducible apply ar.bO (.move _) none); first | refine GO rfl rfl (O.aZ .q) ?_)
  | ((with_reducible apply ar.bO (.assign (.const _)) none); first | refine GO rfl rfl (O.az .q) ?_)
  | ((with_reducible apply ar.bO (.assign (.tmp _)) none); first | refine GO rfl rfl (O.az .Aq) ?_)
  | ((with_reducible apply ar.bO (.assign (.tmp _)) none); refine Q4 rfl rfl (by first | exact hZ.jH | exact hZ.wF | exact hZ.D3 | exact hZ.mR .q (by repeat' first | exact e6.nil | (apply e6.f) | (apply e6.r rfl) | (apply e6.mR) | (apply e6.b rfl))) ?_))
 | ((with_reducible apply ar.ts); refine Q5 rfl rfl (by first | exact hZ.gK | exact hZ.ns | exact hZ.th | exact hZ.sp | exact hZ.rC | exact hZ.P8 .q (by repeat' first | exact e6.nil | (apply e6.f) | (apply e6.r rfl) | (apply e6.mR) | (apply e6.b rfl))) ?_)
 | ((with_reducible apply ar.bO _ (some _)); first
  | refine qR ?_
  | refine Q9 ?_
  | ((with_reducible apply ar.bO (.move _) (some _)); first | refine eH (O.aZ .q) ?_)
  | ((with_reducible apply ar.bO (.assign (.const _)) (some _)); first | refine eH (O.az .q) ?_)
  | ((with_reducible apply ar.bO (.assign (.tmp _)) (some _)); first | refine eH (O.az .Aq) ?_)
  | ((with_reducible apply ar.bO (.load _ _) (some _)); first | refine eH (O.ig) ?_ | refine eH (O.hy) ?_ | refine eH (O.AE) ?_ | refine eH (O.AF) ?_ | refine eH (O.Gg) ?_ | refine eH (O.Gk) ?_ | refine eH (O.Gv) ?_)
  | ((with_reducible apply ar.bO (.fieldAddr _ _ _) (some _)); first | refine eH (O.Gc) ?_ | refine eH (O.Gd) ?_ | refine eH (O.wf) ?_)
  | ((with_reducible apply ar.bO (.indexAddr _ _ _) (some _)); first | refine aM h λx J h=>eH (O.Gf J) ?_ | refine aM h λx J h=>eH (O.yw J) ?_ | refine eH (O.eY) ?_ | refine eH (O.Gl) ?_)
  | ((with_reducible apply ar.bO (.binOp .add _ _ _ _) (some _)); first | refine eH (O.add .q .q) ?_ | refine aM h λx J h=>eH (O.cat .q .q J) ?_)
  | ((with_reducible apply ar.bO (.binOp .sub _ _ _ _) (some _)); first | refine eH (O.sub .q .q) ?_)
  | ((with_reducible apply ar.bO (.binOp .mul _ _ _ _) (some _)); first | refine eH (O.mul .q .q) ?_)
  | ((with_reducible apply ar.bO (.binOp .lss _ _ _ _) (some _)); first | refine eH (O.lss .q .q) ?_)
  | ((with_reducible apply ar.bO (.binOp .leq _ _ _ _) (some _)); first | refine eH (O.leq .q .q) ?_)
  | ((with_reducible apply ar.bO (.binOp .gtr _ _ _ _) (some _)); first | refine eH (O.gtr .q .q) ?_)
  | ((with_reducible apply ar.bO (.binOp .geq _ _ _ _) (some _)); first | refine eH (O.geq .q .q) ?_)
  | ((with_reducible apply ar.bO (.binOp .eql _ _ _ _) (some _)); first | refine eH (O.eql .q .q) ?_ | refine eH (O.qf .q .q) ?_ | refine eH (O.Eh .q .q (by kernel_rfl)) ?_ | refine eH (O.ou) ?_)
  | ((with_reducible apply ar.bO (.binOp .neq _ _ _ _) (some _)); first | refine eH (O.neq .q .q) ?_ | refine eH (O.oo .q .q) ?_ | refine eH (O.wn) ?_)
  | ((with_reducible apply ar.bO (.binOp .quo _ _ _ _) (some _)); first | refine aM h λx J h=>eH (O.quo .q .q J) ?_ | refine aM h λx J h=>eH (O.rq .q .q J) ?_)
  | ((with_reducible apply ar.bO (.binOp .rem _ _ _ _) (some _)); first | refine aM h λx J h=>eH (O.rem .q .q J) ?_ | refine aM h λx J h=>eH (O.rv .q .q J) ?_)
  | ((with_reducible apply ar.bO (.unOp .not _ _) (some _)); first | refine eH (O.not .q) ?_)
  | ((with_reducible apply ar.bO (.unOp .neg _ _) (some _)); first | refine eH (O.neg .q) ?_)
  | ((with_reducible apply ar.bO (.pick _ _ _) (some _)); first | refine eH (O.hW .q (by first | rfl | assumption) .q) ?_ | refine eH (O.dz .q (by first | rfl | assumption) .q) ?_)
  | ((with_reducible apply ar.bO (.nilCheck _) (some _)); first | refine eH (O.eV .q) ?_ | refine eH (O.xP .q) ?_)
  | ((with_reducible apply ar.bO (.index _ _ _) (some _)); first | refine aM h λx J h=>eH (O.mm .q .q iZ.p J) ?_)
  | ((with_reducible apply ar.bO (.extract _ _) (some _)); first | refine eH (O.Gt) ?_)
  | ((with_reducible apply ar.bO (.convert _ _ _) (some _)); first | refine eH (O.Gj) ?_ | refine eH (O.Gi) ?_)
  | ((with_reducible apply ar.bO (.box _ _) (some _)); first | refine eH (O.Ga) ?_)
  | ((with_reducible apply ar.bO (.alloc _) (some _)); first | refine eH (O.Gh) ?_)
  | ((with_reducible apply ar.bO (.build _ _) (some _)); first | refine eH (O.Gs) ?_)
  | ((with_reducible apply ar.bO (.field _ _ _) (some _)); first | refine eH (O.wd) ?_)
  | ((with_reducible apply ar.bO (.makeSlice _ _ _) (some _)); first | refine aM h λx J h=>eH (O.Gm J) ?_ | refine aM h λx J h=>eH (O.Gu J) ?_)
  | ((with_reducible apply ar.bO (.buildSlice _ 0 #[]) (some _)); first | refine eH (O.wl) ?_)
  | ((with_reducible apply ar.bO (.makeFunc _ _ _) (some _)); first | refine eH (O.zO rfl) ?_)
  | ((with_reducible apply ar.bO (.slice _ _ _ _ _) (some _)); first | refine aM h λx J h=>eH (O.yn .q .q .q iZ.p J) ?_ | refine aM h λx J h=>eH (O.F0 .q .q iZ.p J) ?_ | refine aM h λx J h=>eH (O.F1 .q .q iZ.p J) ?_ | refine aM h λx J h=>eH (O.Gr J) ?_ | refine aM h λx J h=>eH (O.Gp J) ?_ | refine aM h λx J h=>eH (O.Gq J) ?_)
  | ((with_reducible apply ar.bO (.call { callee:=.builtin .len,args:=#[_],argTypes:=#[_] }) (some _)); first | refine eH (O.kz .q er.p) ?_ | refine eH (O.mD .q er.p) ?_ | refine eH (O.ux .q iZ.p) ?_)
  | ((with_reducible apply ar.bO (.call { callee:=.builtin .append,args:=#[_,_],argTypes:=#[_,_] }) (some _)); first | refine aM h λx J h=>eH (O.wp J) ?_ | refine aM h λx J h=>eH (O.Gn J) ?_ | refine aM h λx J h=>eH (O.Gb J) ?_ | refine aM h λx J h=>eH (O.wr J) ?_)
  | ((with_reducible apply ar.bO (.call { callee:=.value _,args:=_,argTypes:=_ }) (some _)); first | (refine aM h λx J h=>Lk (cJ.fB ?_ (bD.go J)) ?_; · (repeat' first | exact .nil | refine .cD .q ?_)) | (refine aM h λx J h=>Lk (cJ.mJ rfl ?_ (bD.go J)) ?_; · (repeat' first | exact .nil | refine .s ?_ | refine .c (View.nU rfl rfl) ?_ | refine .c (.row rfl) ?_ | refine .c (View.mR ?_) ?_ | refine .c (View.cl ?_) ?_)))
  | refine Hl h (λav h=>?_) (λav h=>?_))
 | ((with_reducible apply ar.nl); first | refine GI rfl rfl ?_ | refine Q6 h (by (repeat' first | exact .nil | refine .n rfl ?_ | refine .w rfl rfl .pP ?_ | refine .w rfl rfl .pO ?_ | refine .w rfl rfl (j_.obj (by (repeat' first | exact .nil | refine .f ?_ | refine .o ?_ | refine .i ?_))) ?_)))
 | ((with_reducible apply cO.bO _ none); first
  | ((with_reducible apply cO.bO (.move _) none); first | refine ez (O.aZ .q) ?_)
  | ((with_reducible apply cO.bO (.assign (.const _)) none); first | refine ez (O.az .q) ?_)
  | ((with_reducible apply cO.bO (.assign (.tmp _)) none); first | refine ez (O.az .Aq) ?_)
  | ((with_reducible apply cO.bO (.load _ _) none); first | refine ez (O.ig) ?_ | refine ez (O.hy) ?_ | refine ez (O.AE) ?_ | refine ez (O.AF) ?_ | refine ez (O.Gg) ?_ | refine ez (O.Gk) ?_ | refine ez (O.Gv) ?_)
  | ((with_reducible apply cO.bO (.fieldAddr _ _ _) none); first | refine ez (O.Gc) ?_ | refine ez (O.Gd) ?_ | refine ez (O.wf) ?_)
  | ((with_reducible apply cO.bO (.indexAddr _ _ _) none); first | refine aM h λx J h=>ez (O.Gf J) ?_ | refine aM h λx J h=>ez (O.yw J) ?_ | refine ez (O.eY) ?_ | refine ez (O.Gl) ?_)
  | ((with_reducible apply cO.bO (.binOp .add _ _ _ _) none); first | refine ez (O.add .q .q) ?_ | refine aM h λx J h=>ez (O.cat .q .q J) ?_)
  | ((with_reducible apply cO.bO (.binOp .sub _ _ _ _) none); first | refine ez (O.sub .q .q) ?_)
  | ((with_reducible apply cO.bO (.binOp .mul _ _ _ _) none); first | refine ez (O.mul .q .q) ?_)
  | ((with_reducible apply cO.bO (.binOp .lss _ _ _ _) none); first | refine ez (O.lss .q .q) ?_)
  | ((with_reducible apply cO.bO (.binOp .leq _ _ _ _) none); first | refine ez (O.leq .q .q) ?_)
  | ((with_reducible apply cO.bO (.binOp .gtr _ _ _ _) none); first | refine ez (O.gtr .q .q) ?_)
  | ((with_reducible apply cO.bO (.binOp .geq _ _ _ _) none); first | refine ez (O.geq .q .q) ?_)
  | ((with_reducible apply cO.bO (.binOp .eql _ _ _ _) none); first | refine ez (O.eql .q .q) ?_ | refine ez (O.qf .q .q) ?_ | refine ez (O.Eh .q .q (by kernel_rfl)) ?_ | refine ez (O.ou) ?_)
  | ((with_reducible apply cO.bO (.binOp .neq _ _ _ _) none); first | refine ez (O.neq .q .q) ?_ | refine ez (O.oo .q .q) ?_ | refine ez (O.wn) ?_)
  | ((with_reducible apply cO.bO (.binOp .quo _ _ _ _) none); first | refine aM h λx J h=>ez (O.quo .q .q J) ?_ | refine aM h λx J h=>ez (O.rq .q .q J) ?_)
  | ((with_reducible apply cO.bO (.binOp .rem _ _ _ _) none); first | refine aM h λx J h=>ez (O.rem .q .q J) ?_ | refine aM h λx J h=>ez (O.rv .q .q J) ?_)
  | ((with_reducible apply cO.bO (.unOp .not _ _) none); first | refine ez (O.not .q) ?_)
  | ((with_reducible apply cO.bO (.unOp .neg _ _) none); first | refine ez (O.neg .q) ?_)
  | ((with_reducible apply cO.bO (.pick _ _ _) none); first | refine ez (O.hW .q (by first | rfl | assumption) .q) ?_ | refine ez (O.dz .q (by first | rfl | assumption) .q) ?_)
  | ((with_reducible apply cO.bO (.nilCheck _) none); first | refine ez (O.eV .q) ?_ | refine ez (O.xP .q) ?_)
  | ((with_reducible apply cO.bO (.index _ _ _) none); first | refine aM h λx J h=>ez (O.mm .q .q iZ.p J) ?_)
  | ((with_reducible apply cO.bO (.extract _ _) none); first | refine ez (O.Gt) ?_)
  | ((with_reducible apply cO.bO (.convert _ _ _) none); first | refine ez (O.Gj) ?_ | refine ez (O.Gi) ?_)
  | ((with_reducible apply cO.bO (.box _ _) none); first | refine ez (O.Ga) ?_)
  | ((with_reducible apply cO.bO (.alloc _) none); first | refine ez (O.Gh) ?_)
  | ((with_reducible apply cO.bO (.build _ _) none); first | refine ez (O.Gs) ?_)
  | ((with_reducible apply cO.bO (.field _ _ _) none); first | refine ez (O.wd) ?_)
  | ((with_reducible apply cO.bO (.makeSlice _ _ _) none); first | refine aM h λx J h=>ez (O.Gm J) ?_ | refine aM h λx J h=>ez (O.Gu J) ?_)
  | ((with_reducible apply cO.bO (.buildSlice _ 0 #[]) none); first | refine ez (O.wl) ?_)
  | ((with_reducible apply cO.bO (.makeFunc _ _ _) none); first | refine ez (O.zO rfl) ?_)
  | ((with_reducible apply cO.bO (.slice _ _ _ _ _) none); first | refine aM h λx J h=>ez (O.yn .q .q .q iZ.p J) ?_ | refine aM h λx J h=>ez (O.F0 .q .q iZ.p J) ?_ | refine aM h λx J h=>ez (O.F1 .q .q iZ.p J) ?_ | refine aM h λx J h=>ez (O.Gr J) ?_ | refine aM h λx J h=>ez (O.Gp J) ?_ | refine aM h λx J h=>ez (O.Gq J) ?_)
  | ((with_reducible apply cO.bO (.call { callee:=.builtin .len,args:=#[_],argTypes:=#[_] }) none); first | refine ez (O.kz .q er.p) ?_ | refine ez (O.mD .q er.p) ?_ | refine ez (O.ux .q iZ.p) ?_)
  | ((with_reducible apply cO.bO (.call { callee:=.builtin .append,args:=#[_,_],argTypes:=#[_,_] }) none); first | refine aM h λx J h=>ez (O.wp J) ?_ | refine aM h λx J h=>ez (O.Gn J) ?_ | refine aM h λx J h=>ez (O.Gb J) ?_ | refine aM h λx J h=>ez (O.QD J) ?_)
  | ((with_reducible apply cO.bO (.call { callee:=.value _,args:=_,argTypes:=_ }) none); first | (refine aM h λx J h=>Ld (cJ.fB ?_ (bD.go J)) ?_; · (repeat' first | exact .nil | refine .cD .q ?_)) | (refine aM h λx J h=>Ld (cJ.mJ rfl ?_ (bD.go J)) ?_; · (repeat' first | exact .nil | refine .s ?_ | refine .c (View.nU rfl rfl) ?_ | refine .c (.row rfl) ?_ | refine .c (View.mR ?_) ?_ | refine .c (View.cl ?_) ?_)) | (refine aM h λx J h=>QW (bD.go J) rfl rfl rfl rfl rfl (by repeat' first | exact .nil | refine .b rfl ?_ | refine .n rfl ?_) ?_))
  | ((with_reducible apply cO.bO (.buildSlice _ _ _) none); first | refine QU h ?_ | refine QV rfl ?_ | refine QY rfl ?_ | refine Q1 [_,_] rfl ?_ | refine Le [_] rfl ?_ | refine Le [_,_] rfl ?_)
  | ((with_reducible apply cO.bO (.assign _) none); refine QX rfl rfl (by first | exact hZ.jH | exact hZ.wF | exact hZ.D3 | exact hZ.Rt | exact hZ.mR .q (by repeat' first | exact e6.nil | (apply e6.f) | (apply e6.r rfl) | (apply e6.mR) | (apply e6.b rfl))) ?_))
 | ((with_reducible apply cO.ts); refine QZ rfl rfl (by first | exact hZ.gK | exact hZ.ns | exact hZ.th | exact hZ.sp | exact hZ.rC | exact hZ.P8 .q (by repeat' first | exact e6.nil | (apply e6.f) | (apply e6.r rfl) | (apply e6.mR) | (apply e6.b rfl))) ?_)
 | ((with_reducible apply cO.bO _ (some _)); first
  | refine Q0 ?_
  | refine Q2 ?_
  | ((with_reducible apply cO.bO (.move _) (some _)); first | refine eG (O.aZ .q) ?_)
  | ((with_reducible apply cO.bO (.assign (.const _)) (some _)); first | refine eG (O.az .q) ?_)
  | ((with_reducible apply cO.bO (.assign (.tmp _)) (some _)); first | refine eG (O.az .Aq) ?_)
  | ((with_reducible apply cO.bO (.load _ _) (some _)); first | refine eG (O.ig) ?_ | refine eG (O.hy) ?_ | refine eG (O.AE) ?_ | refine eG (O.AF) ?_ | refine eG (O.Gg) ?_ | refine eG (O.Gk) ?_ | refine eG (O.Gv) ?_)
  | ((with_reducible apply cO.bO (.fieldAddr _ _ _) (some _)); first | refine eG (O.Gc) ?_ | refine eG (O.Gd) ?_ | refine eG (O.wf) ?_)
  | ((with_reducible apply cO.bO (.indexAddr _ _ _) (some _)); first | refine aM h λx J h=>eG (O.Gf J) ?_ | refine aM h λx J h=>eG (O.yw J) ?_ | refine eG (O.eY) ?_ | refine eG (O.Gl) ?_)
  | ((with_reducible apply cO.bO (.binOp .add _ _ _ _) (some _)); first | refine eG (O.add .q .q) ?_ | refine aM h λx J h=>eG (O.cat .q .q J) ?_)
  | ((with_reducible apply cO.bO (.binOp .sub _ _ _ _) (some _)); first | refine eG (O.sub .q .q) ?_)
  | ((with_reducible apply cO.bO (.binOp .mul _ _ _ _) (some _)); first | refine eG (O.mul .q .q) ?_)
  | ((with_reducible apply cO.bO (.binOp .lss _ _ _ _) (some _)); first | refine eG (O.lss .q .q) ?_)
  | ((with_reducible apply cO.bO (.binOp .leq _ _ _ _) (some _)); first | refine eG (O.leq .q .q) ?_)
  | ((with_reducible apply cO.bO (.binOp .gtr _ _ _ _) (some _)); first | refine eG (O.gtr .q .q) ?_)
  | ((with_reducible apply cO.bO (.binOp .geq _ _ _ _) (some _)); first | refine eG (O.geq .q .q) ?_)
  | ((with_reducible apply cO.bO (.binOp .eql _ _ _ _) (some _)); first | refine eG (O.eql .q .q) ?_ | refine eG (O.qf .q .q) ?_ | refine eG (O.Eh .q .q (by kernel_rfl)) ?_ | refine eG (O.ou) ?_)
  | ((with_reducible apply cO.bO (.binOp .neq _ _ _ _) (some _)); first | refine eG (O.neq .q .q) ?_ | refine eG (O.oo .q .q) ?_ | refine eG (O.wn) ?_)
  | ((with_reducible apply cO.bO (.binOp .quo _ _ _ _) (some _)); first | refine aM h λx J h=>eG (O.quo .q .q J) ?_ | refine aM h λx J h=>eG (O.rq .q .q J) ?_)
  | ((with_reducible apply cO.bO (.binOp .rem _ _ _ _) (some _)); first | refine aM h λx J h=>eG (O.rem .q .q J) ?_ | refine aM h λx J h=>eG (O.rv .q .q J) ?_)
  | ((with_reducible apply cO.bO (.unOp .not _ _) (some _)); first | refine eG (O.not .q) ?_)
  | ((with_reducible apply cO.bO (.unOp .neg _ _) (some _)); first | refine eG (O.neg .q) ?_)
  | ((with_reducible apply cO.bO (.pick _ _ _) (some _)); first | refine eG (O.hW .q (by first | rfl | assumption) .q) ?_ | refine eG (O.dz .q (by first | rfl | assumption) .q) ?_)
  | ((with_reducible apply cO.bO (.nilCheck _) (some _)); first | refine eG (O.eV .q) ?_ | refine eG (O.xP .q) ?_)
  | ((with_reducible apply cO.bO (.index _ _ _) (some _)); first | refine aM h λx J h=>eG (O.mm .q .q iZ.p J) ?_)
  | ((with_reducible apply cO.bO (.extract _ _) (some _)); first | refine eG (O.Gt) ?_)
  | ((with_reducible apply cO.bO (.convert _ _ _) (some _)); first | refine eG (O.Gj) ?_ | refine eG (O.Gi) ?_)
  | ((with_reducible apply cO.bO (.box _ _) (some _)); first | refine eG (O.Ga) ?_)
  | ((with_reducible apply cO.bO (.alloc _) (some _)); first | refine eG (O.Gh) ?_)
  | ((with_reducible apply cO.bO (.build _ _) (some _)); first | refine eG (O.Gs) ?_)
  | ((with_reducible apply cO.bO (.field _ _ _) (some _)); first | refine eG (O.wd) ?_)
  | ((with_reducible apply cO.bO (.makeSlice _ _ _) (some _)); first | refine aM h λx J h=>eG (O.Gm J) ?_ | refine aM h λx J h=>eG (O.Gu J) ?_)
  | ((with_reducible apply cO.bO (.buildSlice _ 0 #[]) (some _)); first | refine eG (O.wl) ?_)
  | ((with_reducible apply cO.bO (.makeFunc _ _ _) (some _)); first | refine eG (O.zO rfl) ?_)
  | ((with_reducible apply cO.bO (.slice _ _ _ _ _) (some _)); first | refine aM h λx J h=>eG (O.yn .q .q .q iZ.p J) ?_ | refine aM h λx J h=>eG (O.F0 .q .q iZ.p J) ?_ | refine aM h λx J h=>eG (O.F1 .q .q iZ.p J) ?_ | refine aM h λx J h=>eG (O.Gr J) ?_ | refine aM h λx J h=>eG (O.Gp J) ?_ | refine aM h λx J h=>eG (O.Gq J) ?_)
  | ((with_reducible apply cO.bO (.call { callee:=.builtin .len,args:=#[_],argTypes:=#[_] }) (some _)); first | refine eG (O.kz .q er.p) ?_ | refine eG (O.mD .q er.p) ?_ | refine eG (O.ux .q iZ.p) ?_)
  | ((with_reducible apply cO.bO (.call { callee:=.builtin .append,args:=#[_,_],argTypes:=#[_,_] }) (some _)); first | refine aM h λx J h=>eG (O.wp J) ?_ | refine aM h λx J h=>eG (O.Gn J) ?_ | refine aM h λx J h=>eG (O.Gb J) ?_ | refine aM h λx J h=>eG (O.QD J) ?_)
  | ((with_reducible apply cO.bO (.call { callee:=.value _,args:=_,argTypes:=_ }) (some _)); first | (refine aM h λx J h=>Lc (cJ.fB ?_ (bD.go J)) ?_; · (repeat' first | exact .nil | refine .cD .q ?_)) | (refine aM h λx J h=>Lc (cJ.mJ rfl ?_ (bD.go J)) ?_; · (repeat' first | exact .nil | refine .s ?_ | refine .c (View.nU rfl rfl) ?_ | refine .c (.row rfl) ?_ | refine .c (View.mR ?_) ?_ | refine .c (View.cl ?_) ?_)))
  | refine Hl h (λav h=>?_) (λav h=>?_))
 | ((with_reducible apply cO.nl); first | refine QT rfl rfl ?_ | refine QS h (by (repeat' first | exact .nil | refine .n rfl ?_ | refine .w rfl rfl .pP ?_ | refine .w rfl rfl .pO ?_ | refine .w rfl rfl (j_.obj (by (repeat' first | exact .nil | refine .f ?_ | refine .o ?_ | refine .i ?_))) ?_)))
 | ((with_reducible apply j9.dN); refine cM.dN rfl (by first | exact .w | exact .n | exact .c rfl .w rfl | exact .c rfl .n rfl) rfl rfl ?_)
 | ((with_reducible apply j9.sF); refine cM.sF rfl (by first | exact .w | exact .n | exact .c rfl .w rfl | exact .c rfl .n rfl) rfl rfl ?_)
 | ((with_reducible apply j9.ep); first | refine cM.ep h (λj h=>?_) (λj ah h=>?_) | refine cM.Yg h (λj h=>?_) (λj ah h=>?_))
 | ((with_reducible apply j9.bV); first | refine cM.bV h (λj h=>?_) (λj ah h=>?_) | refine cM.Yh h (λj h=>?_) (λj ah h=>?_))
 | ((with_reducible apply j9.rd); first | refine cM.rd ?_ | refine cM.Yc ?_)
 | (with_reducible apply cM.rg)
 | (with_reducible apply cM.bA)
 | ((with_reducible apply j9.bE); first
  | refine cM.W' h (λj h=>?_) (λj ah h=>?_)
  | refine cM.cd h (λav h=>?_) (λav h=>?_)
  | refine cM.ce h (λav h=>?_) (λav h=>?_)
  | refine cM.Sw ?_
  | refine cM.Sv ?_)
 | ((with_reducible apply j9.JH); refine cM.JH h (λj h=>?_) (λj ah h=>?_))
 | (with_reducible apply cM.wM)
 | (with_reducible apply cM.b')
 | (with_reducible apply cM.de)
 | (with_reducible apply cM.fj)
 | ((with_reducible apply cM.Yp); first
  | (refine cM.Ks h (by (repeat' first | exact .nil | refine .z rfl rfl ?_ ?_ | exact .refl | exact .Cz | exact h7.vw | refine fk.obj ?_ | refine .f ?_ | refine .o ?_ | refine .z ?_)) (by (repeat' first | exact .nil | refine .n rfl ?_ | refine .w rfl rfl .pP ?_ | refine .w rfl rfl .pO ?_ | refine .w rfl rfl (j_.obj (by (repeat' first | exact .nil | refine .f ?_ | refine .o ?_ | refine .i ?_))) ?_)))
  | (cases h; refine cM.h3 rfl (by (repeat' first | exact .nil | refine .z rfl rfl ?_ ?_ | exact .refl | exact .Cz | exact h7.vw | refine fk.obj ?_ | refine .f ?_ | refine .o ?_ | refine .z ?_)) ?_; exact et.eT)
  | refine cM.Di ?_)
 | (with_reducible apply et.bA)
 | (with_reducible apply et.fh)
 | (with_reducible apply et.jj)
 | (with_reducible apply et.b')
 | (with_reducible apply et.ff)
 | (with_reducible apply et.mS)
 | ((with_reducible apply j9.RY); refine et.G7 ?_)
 | ((with_reducible apply j9.X0); first
  | refine et.go h (by (repeat' first | exact .nil | refine .n rfl ?_ | refine .w rfl rfl .pP ?_ | refine .w rfl rfl .pO ?_ | refine .w rfl rfl (j_.obj (by (repeat' first | exact .nil | refine .f ?_ | refine .o ?_ | refine .i ?_))) ?_))
  | refine et.a8 h (by (repeat' first | exact .nil | refine .n rfl ?_ | refine .w rfl rfl .pP ?_ | refine .w rfl rfl .pO ?_ | refine .w rfl rfl (j_.obj (by (repeat' first | exact .nil | refine .f ?_ | refine .o ?_ | refine .i ?_))) ?_))
  | refine et.x2 h (by (repeat' first | exact .nil | refine .n rfl ?_ | refine .w rfl rfl .pP ?_ | refine .w rfl rfl .pO ?_ | refine .w rfl rfl (j_.obj (by (repeat' first | exact .nil | refine .f ?_ | refine .o ?_ | refine .i ?_))) ?_))
  | refine et.lu h (by (repeat' first | exact .nil | refine .n rfl ?_ | refine .w rfl rfl .pP ?_ | refine .w rfl rfl .pO ?_ | refine .w rfl rfl (j_.obj (by (repeat' first | exact .nil | refine .f ?_ | refine .o ?_ | refine .i ?_))) ?_)))
 | ((with_reducible apply j9.X3); refine et.dF h (by (repeat' first | exact .nil | refine .n rfl ?_ | refine .w rfl rfl .pP ?_ | refine .w rfl rfl .pO ?_ | refine .w rfl rfl (j_.obj (by (repeat' first | exact .nil | refine .f ?_ | refine .o ?_ | refine .i ?_))) ?_)))
 | ((with_reducible apply j9.eQ); first
  | refine cM.eQ h (λs o h=>?_) (λr aq h=>?_)
  | refine cM.gk h (λs o h=>?_) (λr h=>?_) (λr h=>?_))
 | ((with_reducible apply j9.rg); with_reducible apply cM.rt)
 | ((with_reducible apply j9.XZ); cases h; first | exact et.eT | exact et.fn)
 | refine Hl h (λav h=>?_) (λav h=>?_)))):p:=h
class yX (P:Program) (N:c5) (Φ:Exit->aK->Prop) (rs:outParam (List ResultVar)) (n:outParam Nat) (outs:outParam (List (Option ab))) (res:outParam ab):Prop where p:∀ g,p4 P N rs n outs res .ret g->Φ .ret g
instance:yX P N (p4 P N rs n outs res) rs n outs res:=⟨λ_ h=>h⟩
instance {Ψ:aK->Prop}{Φ:Exit->aK->Prop} [h:yX P N Φ rs n outs res]:yX P N (o5 Ψ Φ) rs n outs res:=⟨λg bY=>h.p g bY⟩
instance {id:Nat}{Φ:Exit->aK->Prop} [h:yX P N Φ rs n outs res]:yX P N (l_ id Φ) rs n outs res:=⟨λg bY=>h.p g bY⟩
class yW {S R hb:Type}(Φ:Exit->aK->Prop) (F:outParam (S->List (Nat × ab))) (id:outParam Nat) (X:outParam (R->List (Nat × ab))) (Y:outParam (hb->List (Nat × ab))) (o:outParam (S ⊕ (R ⊕ hb))):Prop where p:∀ g,k_ F (AU id X Y) o .ret g->Φ .ret g
section
variable {S R hb:Type}{F:S->List (Nat × ab)}{id:Nat}{X:R->List (Nat × ab)}{Y:hb->List (Nat × ab)}{o:S ⊕ (R ⊕ hb)}{Φ:Exit->aK->Prop}
instance:yW (k_ F (AU id X Y) o) F id X Y o:=⟨λ_ h=>h⟩
instance {Ψ:aK->Prop} [h:yW Φ F id X Y o]:yW (o5 Ψ Φ) F id X Y o:=⟨λg bY=>h.p g bY⟩
instance {i:Nat} [h:yW Φ F id X Y o]:yW (l_ i Φ) F id X Y o:=⟨λg bY=>h.p g bY⟩
theorem cM.Ks {v:hb} [aY:yW Φ F id X Y o] (h:some (.inr (.inr v))=some o) (aX:n4 ((Y v).map Prod.fst) (get G) (get (Y v)) (Y v)) (au:Trim true (get (Y v)) (get (Y v)) (Y v)):cM E t P N .ret G Φ:=by
 cases h;exact W.dN _ aX (W.rt λg av=>aY.p g (aC.lu au g av))
end
def Yf:ResultVar->ab->Option (Nat × ab)
 | .tmp t,x=>some (t,x)
 | .cell s _,.agg cs=>some (s,.obj cs)
 | _,_=>none
def Kq:List ResultVar->List ab->List (Nat × ab)->Option (List (Nat × ab))
 | [],[],T=>some T
 | r::rs,x::xs,T=>match Kq rs xs T,Yf r x with
  | some l,some p=>some (p::l)
  | _,_=>none
 | _,_,_=>none
def J5:List Nat->List (Option ab)->Option (List (Nat × ab))
 | _,[]=>some []
 | j::eh,none::l=>J5 eh l
 | j::eh,some x::l=>match J5 eh l with
  | some r=>some ((j,x)::r)
  | none=>none
 | _,_=>none
def Ye (rs:List ResultVar) (outs:List (Option ab)) (res:ab):Option (List (Nat × ab)) :=
 match J5 num outs with
 | none=>none
 | some T=>match rs,res with
  | [r],x=>Kq [r] [x] T
  | rs,.bW xs=>Kq rs xs T
  | _,_=>none
theorem h7.vw {x y:ab} [aF:cf x] [hv:jb x y]:h7 x y:=.pL aF.bl (hv.v _)
inductive qP {α:Type}(en:bK α):Option Nat->ab->ab->Prop
 | w {Ef:bK α}{L:List α} [h:jb (aj Ef L) (ag en L)]:qP en none (aj Ef L) (ag en L)
 | n [h:jb .aL (ag en ([]:List α))]:qP en none .aL (ag en ([]:List α))
 | c {i:Nat}{cs cs':List ab}{x y:ab}(J:cs[i]?=some x) (h:qP en none x y) (he:o2 cs i [y]=some cs'):qP en (some i) (.obj cs) (.obj cs')
theorem qP.one {α:Type}{en:bK α}{x y:ab}(h:qP en none x y):h7 x y/\nv y:=by
 cases h with
 | @w Ef L h=>exact ⟨.pL (.own (pU Ef L)) (h.v _),⟨by intro _ _ _ _ _ e; cases e⟩⟩
 | @n h=>exact ⟨.pL .aL (h.v _),⟨by intro _ _ _ _ _ e; cases e⟩⟩
theorem qP.dN {α:Type}{en:bK α}{i:Option Nat}{x y:ab}(h:qP en i x y):h7 x y/\nv y:=by
 cases h with
 | w=>exact qP.one .w
 | n=>exact qP.one .n
 | @c i cs cs' x y J h he =>
  obtain ⟨h1,af⟩:=lU he;subst h1;refine ⟨.obj (by simp [e5] at af ⊢; omega) λk a b aP av=>?_,⟨by simp⟩⟩;unfold e5 at av;simp only [List.length_singleton] at af av;by_cases hk:k<i
  ·rw [List.append_assoc,List.getElem?_append_left (by simp; omega),List.getElem?_take,if_pos hk,aP] at av;cases av; exact .refl
  ·by_cases fW:k=i
   ·subst fW;rw [List.append_assoc,List.getElem?_append_right (by rw [List.length_take]; exact Nat.min_le_left _ _),List.length_take,Nat.min_eq_left (by omega),Nat.sub_self] at av;simp at av;subst av;rw [J] at aP; cases aP;exact h.one.1
   ·rw [List.getElem?_append_right (by simp; omega)] at av;simp only [List.length_append,List.length_take,List.length_singleton,List.getElem?_drop] at av;rw [show i+1+(k - (min i cs.length+1))=k by omega,aP] at av;cases av; exact .refl
theorem Kh {g g2:aK}{s:Nat}:∀ {ks:List Nat}{G1:List (Nat × ab)},pick g ks=some G1->(ks.all λk=>![s].elem k)=true->(∀ e∈G1,cU e.2)->n4 [s] g g2 G1
 | [],_,h,_,_=>by cases h; exact .nil
 | k::ks,G1,h,he,aF=>by
  obtain ⟨x,l,J,ak,rfl⟩:=Dc h;rw [List.all_cons,Bool.and_eq_true] at he;have:cf x:=⟨aF (k,x) (by simp)⟩;exact .n (by simpa using he.1) J (Kh ak he.2 λe h=>aF e (by simp [h]))
def W_ (id:Nat):Code->Bool
 | .seq (.region k _ _) _=>Nat.beq k id
 | .region k _ _=>Nat.beq k id
 | _=>false
theorem cM.dN {α:Type}{en:bK α}{id s:Nat}{i:Option Nat}{B:Code}{Φ:Exit->aK->Prop}{x y:ab}{ks:List Nat}{il:List (Nat × ab)}(aB:get G s=some x) (ax:qP en i x y) (hk:s3 [s] G=some ks) (au:pick (get G) ks=some il) (h:cM E t P N B ((s,y)::il) Φ) (acw:W_ id B=true:=by rfl) (dq:(ks.all λk=>![s].elem k)=true:=by rfl) [J:cf x] [aF:iz il]:cM E (.dN id s i en t) P N B G Φ :=
 have:=ax.dN.2
 W.dN [s] (.z (by simp) aB ax.dN.1 (Kh au dq aF.p)) h
theorem cM.sF {α:Type}{en:bK α}{s:Nat}{i:Option Nat}{c:Code}{Φ:Exit->aK->Prop}{x y:ab}{ks:List Nat}{il:List (Nat × ab)}(aB:get G s=some x) (ax:qP en i x y) (hk:s3 [s] G=some ks) (au:pick (get G) ks=some il) (h:cM E t P N (.loop c) ((s,y)::il) Φ) (dq:(ks.all λk=>![s].elem k)=true:=by rfl) [J:cf x] [aF:iz il]:cM E (.sF s i en t) P N (.loop c) G Φ :=
 have:=ax.dN.2
 W.dN [s] (.z (by simp) aB ax.dN.1 (Kh au dq aF.p)) h
theorem cM.h3 {Φ:Exit->aK->Prop}{G1:List (Nat × ab)} [aY:yX P N Φ rs n outs res] (c9:Ye rs outs res=some G1) (aX:n4 (G1.map Prod.fst) (get G) (get G1) G1) (au:et E t .ret (p4 P N rs n outs res) G1):cM E t P N .ret G Φ :=
 W.dN _ aX (W.rt λg av=>aY.p g (au g av))
def Ft:List Nat->Nat->List ab->Option (List (Nat × ab))
 | _,_,[]=>some []
 | [],_,_::_=>none
 | j::eh,k,x::l=>match Ft eh (k+1) l with
  | none=>none
  | some r=>match s6 x,Nat.beq j k with
   | some y,true=>some ((j,y)::r)
   | _,_=>none
theorem O9:∀ {l:List ab}{eh:List Nat}{k:Nat}{r:List (Nat × ab)},Ft eh k l=some r->xS k l=r
 | [],eh,k,r,h=>by cases eh <;> (cases h; rfl)
 | x::l,[],k,r,h=>by cases h
 | x::l,j::eh,k,r,h=>by
  unfold Ft at h
  split at h
  ·cases h
  ·rename_i dm aq
   split at h
   ·rename_i y ax ah;cases h; rw [<- O9 aq,<- vJ ax,Nat.eq_of_beq_eq_true ah]; rfl
   ·cases h
def lits:List Nat:=[0,1,2,3,4,5,6,7,8,9,10,11,12]
theorem bU.bt {f:FuncId}{fn:Func}{c:Code}{args:List ab}{outs:List (Option ab)}{res:ab}(E:List Nat) (t:lA) (aW:P.funcs[f]?=some fn) (av:fn.body=some c) (bd:fn.ntmps=N.size) (aP:Nat.ble args.length N.size=true) (hlen:outs.length=args.length) (c9:Ft lits 0 args=some G) (hw:cM E t P N c G (p4 P N fn.results.toList args.length outs res)):bU P f args outs res:=bU.go aW av bd aP hlen (W.fin (by rw [O9 c9]; exact hw))
end
end Go.Own
