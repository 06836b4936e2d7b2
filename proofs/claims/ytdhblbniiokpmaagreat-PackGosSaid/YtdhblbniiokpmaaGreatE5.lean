/-
  Parts of the proof that the last text states. No condition of their own.
-/
import Derived.KernelRfl
import Derived.Test.YtdhblbniiokpmaaGreatRows
import Derived.Test.YtdhblbniiokpmaaGreatE4
namespace Go.Proofs
open Tryz
open Go Go.Own Go.Sort
set_option maxRecDepth 100000
set_option linter.unusedVariables false
theorem Ps {α:Type}(keep:α->Bool) (val:α->Int) {l:List α}(ak:l.length<=1000):lA (ix keep val l):=by
 refine ⟨λp au=>?_,?_⟩
 all_goals grind [W7,XT]
theorem L1 (l:List Row) (ak:l.length<=200) (ao:∀ r∈l,lA r.fx/\r.fx.length<=1000):Tot (xY l) λr=>r.1=l.map (·.Def)/\∀ a n,rq r.2 a n=some (q_ (l.map (·.fx)) a n):=by
 unfold xY;refine .aB (Ξ:=λs:List Int × List (List ca)=>s.1=l.map (·.Def)/\s.2=l.map (·.fx)) ?_ λs aC=>?_
 ·refine Tot.upto (λs=>s.2.2) l.length (λk s=>s.1=(l.take k).map (·.Def)/\s.2.1=(l.take k).map (·.fx)) rfl (by omega) ⟨rfl,rfl⟩ λk s hk he bf=>?_;obtain ⟨A,B,i⟩:=s;obtain ⟨h1,af⟩:=bf;simp only at he h1 af ⊢;subst he h1 af;rw [eR k (by omega)];refine Tot.br (λaT=>?_) (λdU=>.aq ?_)
  ·have aT:k<l.length:=by omega
   rw [eu aT];refine Tot.aV (.aB (Ξ:=λ_=>True) (Tot.ap (by simp [lim]; omega) trivial) λ_ _=>.aB (Ξ:=λ_=>True) (Tot.ap (by simp [lim]; omega) trivial) λ_ _=>.aq ⟨aT,rfl,?_,?_⟩)
   all_goals grind [lW]
  grind
 ·obtain ⟨h1,af⟩:=aC;rw [af];have dd:p' (l.map (·.fx)):=⟨by simp; omega,λr ec=>by
   grind⟩
  have fm:DX (l.map (·.fx)):=⟨by simp; omega,λr ec=>by
   grind⟩
  refine .aB (R5 _ fm) λc aa=>.aq ⟨h1,λa n=>?_⟩;obtain ⟨ha,o,hO,h6⟩:=aa.2 dd;exact Tz dd hO h6 (h6.inv dd (List.pairwise_reverse.2 hO.Kb)) ha a n
structure A0 (g:bO) (d:gS) (t:Tables):Prop where
 Mj:t.Def=d.cO.map λr=>jy (red r)
 gd:t.kn=(List.range g.b3.length).map λa=>jy (pos (ee d a))
 ac:∀ a n,rq t.cO a n=some (q_ (d.cO.map λr=>(lT r).fx) a n)
 go:∀ a n,rq t.gD a n=some (q_ ((List.range g.b3.length).map λa=>(lp (ee d a)).fx) a n)
 le:t.Left=g.bj.map (·.Left)
 nh:t.mJ=g.bj.map λp=>(p.eI.length:Int)
theorem jT (g:bO) (n:Nat) (d:gS) (aS:sx g n d) (hk:uS g):Tot (vM g d) (A0 g d):=by
 have aO:=aS.sG;have aw:=aO.kW;have kO:=aO.dz;have ue:=aO.h';have k':=aS.gY;have tQ:=aS.a;have zs:=aS.o;unfold vM;refine .aB (tD g n d aS) λa8 h1=>?_;subst h1;refine .aB (L1 _ (by simp; omega) λr ao=>?_) λx2 af=>.aB (R1 g n d aS) λa7 aI=>?_
 ·obtain ⟨q,bg,rfl⟩:=List.mem_map.1 ao;have ak:=(aS.jH q bg).1;have:=vZ (lP (jy (red q))) mQ q;exact ⟨Ps _ _ (by omega),by show (ix _ _ q).length<=_; omega⟩
 subst aI;refine .aB (L1 _ (by simp; omega) λr ao=>?_) λbs bK=>?_
 ·obtain ⟨a,_,rfl⟩:=List.mem_map.1 ao;have ak:=wP d a;have:=vZ (lQ (jy (pos (ee d a)))) id (ee d a);exact ⟨Ps _ _ (by omega),by show (ix _ _ (ee d a)).length<=_; omega⟩
 refine .aB (Ξ:=λs:List Int × List Int=>s.1=g.bj.map (·.Left)/\s.2=g.bj.map λp=>(p.eI.length:Int)) ?_ λbC ei=>.aB (R2 g hk (by omega)) λeF _=>.aq ?_
 ·refine Tot.upto (λs=>s.2.2) g.bj.length (λk s=>s.1=(g.bj.take k).map (·.Left)/\s.2.1=(g.bj.take k).map λp=>(p.eI.length:Int)) rfl (by omega) ⟨rfl,rfl⟩ λk s xa he bf=>?_;obtain ⟨A,B,i⟩:=s;obtain ⟨h1,af⟩:=bf;simp only at he h1 af ⊢;subst he h1 af;rw [eR k (by omega)];refine Tot.br (λaT=>?_) (λdU=>.aq ?_)
  ·have aT:k<g.bj.length:=by omega
   rw [eu aT];refine Tot.aV (.aB (Ξ:=λ_=>True) (Tot.ap (by simp [lim]; omega) trivial) λ_ _=>.aB (Ξ:=λ_=>True) (Tot.ap (by simp [lim]; omega) trivial) λ_ _=>.aq ⟨aT,rfl,?_,?_⟩)
   all_goals grind [lW]
  grind
 ·refine ⟨?_,?_,λa m=>?_,λa m=>?_,ei.1,ei.2⟩
  ·show x2.1=_;rw [af.1,List.map_map];rfl
  ·show bs.1=_;rw [bK.1,List.map_map];rfl
  ·show rq x2.2 a m=_;rw [af.2,List.map_map];rfl
  ·show rq bs.2 a m=_;rw [bK.2,List.map_map];rfl
theorem L0 (s:Source) (av:rO s):Tot (s7 s) λr=>r.2.2.2=true->(∃ n,sx r.1 n r.2.1)/\uS r.1:=by
 refine (Par.ji (RW s av) (Ψ:=λr=>r.2.2.2=true->uS r.1) ?_).use λr ao h=>⟨ao.1 h,ao.2 h⟩;have XC:Par (x3 s) λr=>r.2=true->uS r.1:=by
  unfold x3;exact .aB (XD s av) λr ao=>.aq λh=>ao (of_decide_eq_true h)
 have XB:Par (x0 s) λr=>r.2.2=true->uS r.1:=by
  unfold x0;exact .aB XC λr ao=>Par.bF (λ_=>.aq λh=>by cases h) (λh=>.aB (Ξ:=λ_=>True) (λ_ _=>trivial) λm _=>.aq λ_=>ao (by simpa using h))
 have XA:Par (vT s) λr=>r.2.2.2=true->uS r.1:=by
  unfold vT;exact .aB XB λr ao=>Par.bF (λ_=>.aq λh=>by cases h) (λh=>.aB (Ξ:=λ_=>True) (λ_ _=>trivial) λqD _=>.aB (Ξ:=λ_=>True) (λ_ _=>trivial) λcs _=>.aq λ_=>ao (by simpa using h))
 unfold s7;exact .aB XA λr ao=>Par.bF (λ_=>.aq λh=>by cases h) (λh=>.aB (Ξ:=λ_=>True) (λ_ _=>trivial) λ_ _=>.aB (Ξ:=λ_=>True) (λ_ _=>trivial) λ_ _=>.aq λ_=>ao (by simpa using h))
def Dj (r:List Act) (k:Int):Option Act:=if (lH (lT r).fx k).2=true then Ad (lH (lT r).fx k).1 else some (if jy (red r)<0 then ⟨0,0⟩ else ⟨2,jy (red r)⟩)
theorem Mm {g:bO}{d:gS}{t:Tables}(h:A0 g d t) (s k:Int):pT t s k=match idx d.cO s with | some r=>Dj r k | none=>some ⟨0,0⟩:=by
 unfold pT;rw [h.ac,Option.bind_some];have Nw:t.Def.length=d.cO.length:=by rw [h.Mj]; simp
 cases aC:idx d.cO s with
 | none =>
  grind [idx,q_]
 | some r =>
  have av:=nb aC;have aZ:idx (d.cO.map λr=>(lT r).fx) s=some (lT r).fx:=by
   grind [idx]
  have abT:idx t.Def s=some (jy (red r)):=by
   rw [h.Mj]
   grind [idx]
  grind [q_,Dj]
def FI (c:List Int) (s:Int):Int:=if (lH (lp c).fx s).2=true then (lH (lp c).fx s).1 else jy (pos c)
theorem Mn {g:bO}{d:gS}{t:Tables}(h:A0 g d t) (s a:Int):uy t s a=some (if 0<=a/\a<g.b3.length then FI (ee d a.toNat) s else -1):=by
 unfold uy;rw [h.go,Option.bind_some];have Iq:t.kn.length=g.b3.length:=by rw [h.gd]; simp
 by_cases aP:0<=a/\a<(g.b3.length:Int)
 ·obtain ⟨k,rfl⟩:∃ k:Nat,a=(k:Int):=⟨a.toNat,by omega⟩;have hk:k<g.b3.length:=by omega
  have aZ:idx ((List.range g.b3.length).map λa=>(lp (ee d a)).fx) (k:Int)=some (lp (ee d k)).fx:=by
   unfold idx;rw [if_pos (by omega),Int.toNat_natCast,List.getElem?_map,List.getElem?_range hk]; rfl
  have jK:idx t.kn (k:Int)=some (jy (pos (ee d k))):=by
   rw [h.gd];unfold idx;rw [if_pos (by omega),Int.toNat_natCast,List.getElem?_map,List.getElem?_range hk]; rfl
  rw [if_pos aP,Int.toNat_natCast];unfold q_ FI;rw [aZ];simp only;by_cases af:(lH (lp (ee d k)).fx s).2=true
  ·simp [af]
  ·have af:(lH (lp (ee d k)).fx s).2=false:=by simpa using af
   have d1:decide ((k:Int)<0)=false:=decide_eq_false (by omega);have d2:decide ((t.kn.length:Int)<=(k:Int))=false:=decide_eq_false (by omega);rw [af,d1,d2,jK];simp
 ·have aZ:idx ((List.range g.b3.length).map λa=>(lp (ee d a)).fx) a=none:=by
   unfold idx;split
   ·rw [List.getElem?_eq_none];simp; omega
   ·rfl
  rw [if_neg aP];unfold q_;rw [aZ];simp only [cond_false];by_cases aR:a<0
  ·simp [aR]
  ·have h1:(t.kn.length:Int)<=a:=by omega
   simp [aR,h1]
theorem XX (r:List Act) (k:Int):∃ a,Dj r k=some a:=by
 unfold Dj;split
 ·obtain ⟨a,h,_⟩:=Y9 (lH (lT r).fx k).1
  grind [Mo]
 grind
theorem S7 {g:bO}{d:gS}{t:Tables}(h:A0 g d t) (s k:Int):∃ a,pT t s k=some a:=by
 rw [Mm h];split
 ·exact XX _ k
 grind
theorem S8 {g:bO}{n:Nat}{d:gS}{t:Tables}(jK:sx g n d) (h:A0 g d t) (s k:Int):vQ d (d.cO.map lT) s k=pT t s k:=by
 have aw:=jK.sG.kW;rw [Mm h];unfold vQ;cases aC:idx d.cO s with
 | none =>
  grind [idx]
 | some r =>
  have av:=nb aC;have ak:=(jK.jH r av.2.2).1;have aZ:idx (d.cO.map lT) s=some (lT r):=by
   grind [idx]
  have d1:decide (s<0)=false:=decide_eq_false (by omega);have d2:decide (((d.cO.map lT).length:Int)<=s)=false:=decide_eq_false (by simp; omega);have ud:(lT r).fx.length<=100000:=by
   have:=vZ (lP (jy (red r))) mQ r;show (ix _ _ r).length<=_;omega
  grind [g19,Dj,lT,Mo]
theorem t4 (x:o7) (aE a2:Int):J4 x aE a2=some true:=by
 suffices h:Tot (J4 x aE a2) λr=>r=true by
  obtain ⟨r,ao,e⟩:=h
  grind
 unfold J4;rw [Qs];refine Tot.aV (.aB (t10 x) λy av=>.aB (L0 y av) λD aS=>Tot.bF (λ_=>.aq rfl) (λh=>?_));obtain ⟨⟨n,jK⟩,hk⟩:=aS (by simpa using h);generalize D.1=g at *;generalize D.2.1=d at *;have k':=jK.gY;have aw:=jK.sG.kW;have tQ:=jK.a;refine .aB (jT g n d jK hk) λt cx=>.aB (tB g n d jK) λR aZ=>?_;subst aZ;have key:∀ s k:Int,∃ a,pT t s k=some a/\vQ d (d.cO.map lT) s k=some a:=λs k=>by
  obtain ⟨a,aP⟩:=S7 cx s k
  grind [S8]
 refine .aB (Ξ:=hK (λ_=>True) (λ_:Bool=>False)) ?_ λx J=>?_
 ·refine Tot.count (λs=>s) ((d.cO.length:Int)+1) (λs=>-1<=s) (Int.le_refl _) (by show (d.cO.length:Int)+1 - -1<_; omega) λs aC=>?_;refine Tot.br (λhle=>?_) (λ_=>.aq trivial);have I3:aL (s+1)=s+1:=by rw [cJ]; omega
  rw [I3];refine .aB (Ξ:=hK (λ_=>True) (λ_:Bool=>False)) ?_ λx J=>?_
  ·have Wh:aL ((g.ba.length:Int)+2)=(g.ba.length:Int)+2:=by rw [cJ]; omega
   rw [Wh];refine Tot.count (λs=>s) ((g.ba.length:Int)+3) (λs=>-2<=s) (Int.le_refl _) (by show (g.ba.length:Int)+3 - -2<_; omega) λk fW=>?_;refine Tot.br (λacs=>?_) (λ_=>.aq trivial);have qw:aL (k+1)=k+1:=by rw [cJ]; omega
   rw [qw];obtain ⟨a,cz,cf⟩:=key s k;rw [cz,cf];exact ⟨.inl (k+1),by simp,⟨by show -2<=k+1; omega,by show k<k+1; omega,by show k+1<=_; omega⟩⟩
  ·rcases x with x | x
   ·obtain ⟨a,cz,cf⟩:=key s a2;simp only [cz,cf,Option.bind_some];exact ⟨.inl (s+1),by simp,⟨by show -1<=s+1; omega,by show s<s+1; omega,by show s+1<=_; omega⟩⟩
   grind
 ·rcases x with x | x
  ·obtain ⟨a,cz,cf⟩:=key aE a2;simp only [cz,cf,Option.bind_some];exact ⟨true,by simp,rfl⟩
  grind
theorem t5 (x:o7) (aE a2:Int):Ae x aE a2=some true:=by
 suffices h:Tot (Ae x aE a2) λr=>r=true by
  obtain ⟨r,ao,e⟩:=h
  grind
 unfold Ae;rw [Qs];refine Tot.aV (.aB (t10 x) λy av=>.aB (L0 y av) λD aS=>Tot.bF (λ_=>.aq rfl) (λh=>?_));obtain ⟨⟨n,jK⟩,hk⟩:=aS (by simpa using h);generalize D.1=g at *;generalize D.2.1=d at *;have k':=jK.gY;have kO:=jK.sG.dz;have tQ:=jK.a;have zs:=jK.o;refine .aB (jT g n d jK hk) λt cx=>.aB (nz g n d jK) λR aZ=>?_;subst aZ;have Nd:((List.range g.b3.length).map λa=>lp (ee d a)).length=g.b3.length:=by simp
 refine .aB (Ξ:=hK (λ_=>True) (λ_:Bool=>False)) ?_ λx J=>?_
 ·refine Tot.count (λs=>s) ((g.b3.length:Int)+1) (λs=>-1<=s) (Int.le_refl _) (by show (g.b3.length:Int)+1 - -1<_; omega) λs aC=>?_;rw [Nd];refine Tot.br (λhle=>?_) (λ_=>.aq trivial);have I3:aL (s+1)=s+1:=by rw [cJ]; omega
  rw [I3];refine .aB (Ξ:=λl:List Int=>l.length<=1000) ?_ λl ak=>?_
  ·refine Tot.upto (λs=>s.2) d.cO.length (λk s=>s.1.length=k+3) rfl (by omega) rfl λk s xa he bf=>?_;obtain ⟨L,i⟩:=s;simp only at he bf ⊢;subst he;rw [eR k (by omega)];refine Tot.br (λaT=>?_) (λ_=>.aq (by show L.length<=1000; omega));refine .aB (Ξ:=λ_=>True) (Tot.ap (by simp [lim]; omega) trivial) λ_ _=>.aq ⟨by omega,rfl,by show (L++[_]).length=_; simp; omega⟩
  ·refine .aB (Ξ:=hK (λ_=>True) (λ_:Bool=>False)) ?_ λx J=>?_
   ·refine Tot.upto (λs=>s) l.length (λ_ _=>True) rfl (by omega) trivial λk i xa he _=>?_;subst he;rw [eR k (by omega)];refine Tot.br (λaT=>?_) (λ_=>.aq trivial);have aT:k<l.length:=by omega
    rw [eu aT];generalize l[k]=q at *;have e:=Mn cx q s;refine .aB (Ξ:=λc:Bool=>c=decide (0<=s/\s<(g.b3.length:Int))) (Tot.br (λh=>.aq (by simp [h])) (λh=>.aq (by simp [h]))) λc aa=>?_;subst aa;refine .aB (Ξ:=λv:Int=>v=if 0<=s/\s<(g.b3.length:Int) then FI (ee d s.toNat) q else -1) (Tot.br (λh=>?_) (λh=>.aq (if_neg h).symm)) λv hv=>?_
    ·rw [if_pos h];have aZ:idx ((List.range g.b3.length).map λa=>lp (ee d a)) s=some (lp (ee d s.toNat)):=by
      grind [idx]
     have ud:(lp (ee d s.toNat)).fx.length<=100000:=by
      have h1:=vZ (lQ (jy (pos (ee d s.toNat)))) id (ee d s.toNat);have af:=wP d s.toNat;show (ix _ _ (ee d s.toNat)).length<=_;omega
     rw [aZ];simp only [Option.bind_some];rw [g19 _ _ ud];unfold FI;simp only [Option.bind_some];by_cases af:(lH (lp (ee d s.toNat)).fx q).2=true
     ·rw [if_pos af,af];exact .aq rfl
     ·have aI:(lH (lp (ee d s.toNat)).fx q).2=false:=by simpa using af
      rw [if_neg af,aI];exact .aq rfl
    ·subst hv;simp only [Option.bind_some,e];exact ⟨.inl ((k+1:Nat):Int),by simp,aT,rfl,trivial⟩
   ·rcases x with x | x
    ·exact .aq ⟨by show -1<=s+1; omega,by show s<s+1; omega,by show s+1<=_; omega⟩
    grind
 ·rcases x with x | x
  ·rw [Nd];have e:=Mn cx aE a2;refine .aB (Ξ:=λc:Bool=>c=true) ?_ λc aa=>.aq aa;refine Tot.br (λh1=>Tot.br (λaf=>.aq rfl) (λaf=>?_)) (λh1=>?_)
   ·rw [e,if_neg (λh=>af h.2)];exact .aq rfl
   ·rw [e,if_neg (λh=>h1 h.1)];exact .aq rfl
  grind
end Go.Proofs
namespace Go.Own
open Go
section
variable {P:Program}{N:c6}{ops:Array Oper}{bd:List (List Nat)}{g g0:aM}{K:aM->Prop}{l:List Oper}{acc:Acc}{d i j t':Nat}{op:Op}{ty:TypeId}{pos:String}{after:Array Edge}{x:ab}{b c:Bool}
theorem gg (av:c=!b) (hk:ar P N ops l (cV g d (.bW [])) K) (h:(ops[j]?).bind (·.dst)=some t':=by rfl) (aO:g t'=some (.lit (.bool c)):=by rfl) (bc:N.ok d=true:=by rfl) (aW:g d=none:=by rfl):ar P N ops (⟨some d,op,ty,pos,after,some (j,b)⟩::l) g K:=.ps h aO av bc aW hk
theorem DW (hk:ar P N ops l (cV g d (.bW [])) K) (h:(ops[j]?).bind (·.dst)=some t':=by rfl) (aO:g t'=some (.bW []):=by rfl) (bc:N.ok d=true:=by rfl) (aW:g d=none:=by rfl):ar P N ops (⟨some d,op,ty,pos,after,some (j,b)⟩::l) g K:=.pu h aO bc aW hk
theorem cc (av:c=b) (au:ch P g op ty x) (hk:ar P N ops l (cV g d x) K) (h:(ops[j]?).bind (·.dst)=some t':=by rfl) (aO:g t'=some (.lit (.bool c)):=by rfl) (bc:N.ok d=true:=by rfl) (aW:g d=none:=by rfl):ar P N ops (⟨some d,op,ty,pos,after,some (j,b)⟩::l) g K:=.v au bc aW (.fi h aO av) hk
theorem Q6 (hk:ar P N ops l (cV g d (.bW [])) K) (h:(ops[j]?).bind (·.dst)=some t':=by rfl) (aO:g t'=some (.lit (.bool c)):=by rfl) (av:c=!b:=by assumption) (bc:N.ok d=true:=by rfl) (aW:g d=none:=by rfl):ar P N ops (⟨some d,op,ty,pos,after,some (j,b)⟩::l) g K:=.ps h aO av bc aW hk
theorem fl (au:ch P g op ty x) (hk:ar P N ops l (cV g d x) K) (h:(ops[j]?).bind (·.dst)=some t':=by rfl) (aO:g t'=some (.lit (.bool c)):=by rfl) (av:c=b:=by assumption) (bc:N.ok d=true:=by rfl) (aW:g d=none:=by rfl):ar P N ops (⟨some d,op,ty,pos,after,some (j,b)⟩::l) g K:=.v au bc aW (.fi h aO av) hk
theorem ig (bG:Nat) (av:c=!b) (hk:bz P N ops bd g0 i ((bG,d,some (.bW []))::acc) l K) (h:(ops[j]?).bind (·.dst)=some t':=by rfl) (aO:jA bd g0 bG acc t'=some (a_ c):=by rfl) (ah:Nat.beq ops.size (bG+l.length+1)=true:=by rfl) (aW:g0 d=none:=by rfl) (aF:acc.all (λe=>!Nat.beq e.2.1 d)=true:=by rfl) (bc:N.ok d=true:=by rfl):bz P N ops bd g0 i acc (⟨some d,op,ty,pos,after,some (j,b)⟩::l) K:=.ps bG h aO av ah aW aF bc hk
theorem k1 (bG:Nat) (hk:bz P N ops bd g0 i ((bG,d,some (.bW []))::acc) l K) (h:(ops[j]?).bind (·.dst)=some t':=by rfl) (aO:jA bd g0 bG acc t'=some (.bW []):=by rfl) (ah:Nat.beq ops.size (bG+l.length+1)=true:=by rfl) (aW:g0 d=none:=by rfl) (aF:acc.all (λe=>!Nat.beq e.2.1 d)=true:=by rfl) (bc:N.ok d=true:=by rfl):bz P N ops bd g0 i acc (⟨some d,op,ty,pos,after,some (j,b)⟩::l) K:=.pu bG h aO ah aW aF bc hk
theorem iV (bG:Nat) (av:c=b) (au:ch P (jA bd g0 bG acc) op ty x) (hk:bz P N ops bd g0 i ((bG,d,some x)::acc) l K) (h:(ops[j]?).bind (·.dst)=some t':=by rfl) (aO:jA bd g0 bG acc t'=some (.lit (.bool c)):=by rfl) (ah:Nat.beq ops.size (bG+l.length+1)=true:=by rfl) (aW:g0 d=none:=by rfl) (aF:acc.all (λe=>!Nat.beq e.2.1 d)=true:=by rfl) (bc:N.ok d=true:=by rfl):bz P N ops bd g0 i acc (⟨some d,op,ty,pos,after,some (j,b)⟩::l) K:=.v bG au ah aW aF bc (.fi h aO av) hk
end
section
variable {P:Program}{N:c6}{ops:Array Oper}{g:aM}{K:aM->Prop}{l:List Oper}{A B:Code}{G G1:List (Nat × ab)}{Φ:Exit->aM->Prop}{t id:Nat}{b:Bool}{α:Type}{X Y o:α}
theorem W.b8 (h:(bif b then X else Y)=o) (aa:get G t=some (a_ b)) (dL:b=true->X=o->W P N A (get G) Φ) (aN:b=false->Y=o->W P N B (get G) Φ):W P N (.cond (.tmp t) A B) (get G) Φ:=W.fq aa (λe=>dL e (Sq e h)) (λe=>aN e (Sp e h))
def pick (g:aM):List Nat->Option (List (Nat × ab))
 | []=>some []
 | k::ks=>match g k with
  | some x=>match pick g ks with
   | some l=>some ((k,x)::l)
   | none=>none
  | none=>none
class iA (l:List (Nat × ab)):Prop where p:∀ e∈l,cU e.2
instance:iA []:=⟨λ_ h=>by cases h⟩
instance {k:Nat}{x:ab}{l:List (Nat × ab)} [h:cg x] [ak:iA l]:iA ((k,x)::l):=⟨λe he=>by
 rcases List.mem_cons.1 he with rfl | he
 ·exact h.bn
 ·exact ak.p e he⟩
theorem uB {c:Bool}{g g2:aM}:∀ {ks:List Nat}{G1:List (Nat × ab)},pick g ks=some G1->(∀ e∈G1,cU e.2)->Trim c g g2 G1
 | [],_,h,_=>by cases h; exact .nil
 | k::ks,G1,h,aF=>by
  unfold pick at h
  split at h
  ·rename_i x J
   split at h
   ·rename_i l ak;cases h;have:cg x:=⟨aF (k,x) (by simp)⟩;exact .n J (uB ak λe he=>aF e (by simp [he]))
   ·cases h
  ·cases h
structure yM (ks:List Nat) (G1:List (Nat × ab)) (g':aM):Prop where p:kp g' (get G1)
theorem bL {ks:List Nat}(h:pick g ks=some G1) [aF:iA G1]:ar P N ops [] g (yM ks G1):=.nil ⟨(uB (c:=true) (g2:=get G1) h aF.p).eW⟩
theorem OF {l:List Oper}{ks:List Nat}(h:ar P N l.toArray l g (yM ks G1)):ar P N l.toArray l g λg'=>kp g' (get G1):=λi hi=>by
 obtain ⟨g',h1,af⟩:=h i hi;exact ⟨g',h1,af.p⟩
theorem ar.bS (ks:List Nat) (h:pick g ks=some G1) [aF:iA G1] (hk:ar P N ops l (get G1) K):ar P N ops l g K:=.Dk (uB h aF.p) hk
theorem W.bS {l:List Oper}(ks:List Nat) (h:ar P N l.toArray l (get G) (yM ks G1)) (hk:aA .normal Φ G1):W P N (.region id l.toArray false) (get G) Φ:=W.rx G1 (OF h) hk
theorem W.rs {l:List Oper}(G1:List (Nat × ab)) (h:ar P N l.toArray l (get G) λg'=>kp g' (get G1)) (hk:W P N B (get G1) Φ):W P N (.seq (.region id l.toArray false) B) (get G) Φ:=W.bB (W.rx G1 h (aA.bw hk))
theorem W.cN {l:List Oper}(ks:List Nat) (h:ar P N l.toArray l (get G) (yM ks G1)) (hk:W P N B (get G1) Φ):W P N (.seq (.region id l.toArray false) B) (get G) Φ:=W.rs G1 (OF h) hk
end
end Go.Own
namespace Go.Own
open Go
class fN (P:Program) (t:TypeId):Prop where p:jq P t=true:=by kernel_rfl
class iX (P:Program) (t:TypeId):Prop where p:o1 P t=true:=by kernel_rfl
class ep (P:Program) (t:TypeId) (e:outParam TypeId) (z:outParam Nat):Prop where p:fu P t e z=true:=by kernel_rfl
class c' (P:Program) (s:TypeId) (f:Nat) (off:outParam Nat) (t:outParam TypeId):Prop where p:hM P s f off t=true:=by kernel_rfl
section
variable {P:Program}{N:c6}{ops:Array Oper}{g:aM}{K:aM->Prop}{l:List Oper}{ty t:TypeId}{a:Operand}{k r z n:Nat}{cs jI:List ab}
theorem O.oW {v:Value}(aC:g r=some (.obj cs)) (J:Rd g a (.ptr ⟨r,[]⟩ k)) (aw:jq P t=true) (aa:cs[k]?=some (.lit v)):ch P g (.load t a) ty (.lit v):=O.mA aC J aw aa rfl
theorem O.zI (aC:g r=some (.obj cs)) (J:Rd g a (.ptr ⟨r,[]⟩ k)) (aw:jq P t=true) (aa:cs[k]?=some (.bm z n jI)):ch P g (.load t a) ty (.bm z n jI):=O.mA aC J aw aa rfl
theorem O.zJ (aC:g r=some (.obj cs)) (J:Rd g a (.ptr ⟨r,[]⟩ k)) (aw:jq P t=true) (aa:cs[k]?=some (.own z n jI)):ch P g (.load t a) ty (.a6 z ⟨r,[k]⟩ n):=O.mA aC J aw aa rfl
end
section
variable {P:Program}{N:c6}{ops:Array Oper}{g:aM}{K:aM->Prop}{l:List Oper}{t0 d:Nat}{t1 t2 ty:TypeId}{aE a2 a3:Operand}{nT:Nat}{v0:Value}{pos:String}{after:Array Edge}{op:Op}{abD:Nat × Bool}
theorem ar.bN (op:Op) (u:Option (Nat × Bool)) (h:ar P N ops (⟨some d,op,ty,pos,after,u⟩::l) g K):ar P N ops (⟨some d,op,ty,pos,after,u⟩::l) g K:=h
theorem ar.nl (h:ar P N ops [] g K):ar P N ops [] g K:=h
theorem ar.bq (h:ar P N ops l g K:=by
(repeat' (first
 | exact gT .nil
 | exact .nil
 | refine .n rfl ?_
 | (first
  | ((with_reducible apply ar.bN (.move (.tmp _)) none); (first | refine bZ rfl ?_ | refine al (O.aX (.bm rfl)) ?_ | refine al (O.aX (.own rfl)) ?_ | refine al (O.aX (.obj rfl)) ?_ | refine al (O.aX (.cI rfl)) ?_ | refine al (O.aX (.ptr rfl)) ?_ | refine al (O.aX (.a6 rfl)) ?_))
  | ((with_reducible apply ar.bN (.load _ _) none); (first | refine al (O.oW rfl (.ptr rfl) fN.p rfl) ?_ | refine al (O.Cr (.cI rfl) fN.p rfl) ?_ | refine al (O.zI rfl (.ptr rfl) fN.p rfl) ?_ | refine al (O.oW rfl (.obj rfl) fN.p rfl) ?_ | refine al (O.zI rfl (.obj rfl) fN.p rfl) ?_ | refine al (O.zJ rfl (.ptr rfl) fN.p rfl) ?_ | refine al (O.zJ rfl (.obj rfl) fN.p rfl) ?_))
  | ((with_reducible apply ar.bN (.fieldAddr _ _ _) none); (first | refine al (O.kt rfl (.obj rfl) c'.p rfl) ?_ | refine al (O.Bm (.cI rfl) c'.p) ?_ | refine al (O.kt rfl (.ptr rfl) c'.p rfl) ?_))
  | ((with_reducible apply ar.bN (.assign (.tmp _)) none); (first | refine nw rfl ?_ | refine al (O.az (.bm rfl)) ?_ | refine al (O.az (.own rfl)) ?_ | refine al (O.az (.obj rfl)) ?_ | refine al (O.az (.cI rfl)) ?_ | refine al (O.az (.ptr rfl)) ?_ | refine al (O.az (.a6 rfl)) ?_))
  | ((with_reducible apply ar.bN (.assign (.const _)) none); (first | refine Lq rfl ?_ | refine al (O.az .xD) ?_))
  | ((with_reducible apply ar.bN (.indexAddr _ _ _) none); (first | refine al (O.rl (.bm rfl) (.lit rfl) ep.p (by assumption)) ?_ | refine al (O.rl (.bm rfl) (.k rfl) ep.p (by assumption)) ?_))
  | ((with_reducible apply ar.bN (.binOp .add _ _ _ _) none); (first | refine al (O.add (.lit rfl) (.k rfl)) ?_ | refine al (O.add (.lit rfl) (.lit rfl)) ?_ | refine al (O.add (.k rfl) (.lit rfl)) ?_))
  | ((with_reducible apply ar.bN (.binOp .lss _ _ _ _) none); (first | refine al (O.lss (.lit rfl) (.k rfl)) ?_ | refine al (O.lss (.lit rfl) (.lit rfl)) ?_ | refine al (O.lss (.k rfl) (.lit rfl)) ?_))
  | ((with_reducible apply ar.bN (.binOp .eql _ _ _ _) none); (first | refine al (O.eql (.lit rfl) (.k rfl)) ?_ | refine al (O.eql (.lit rfl) (.lit rfl)) ?_ | refine al (O.eql (.k rfl) (.lit rfl)) ?_ | refine al (O.qj (.lit rfl) (.lit rfl)) ?_ | refine al (O.qj (.lit rfl) (.k rfl)) ?_))
  | ((with_reducible apply ar.bN (.binOp .neq _ _ _ _) none); (first | refine al (O.neq (.lit rfl) (.k rfl)) ?_ | refine al (O.neq (.lit rfl) (.lit rfl)) ?_ | refine al (O.neq (.k rfl) (.lit rfl)) ?_ | refine al (O.ov (.lit rfl) (.lit rfl)) ?_ | refine al (O.ov (.lit rfl) (.k rfl)) ?_))
  | ((with_reducible apply ar.bN (.binOp .geq _ _ _ _) none); (first | refine al (O.geq (.lit rfl) (.k rfl)) ?_ | refine al (O.geq (.lit rfl) (.lit rfl)) ?_ | refine al (O.geq (.k rfl) (.lit rfl)) ?_))
  | ((with_reducible apply ar.bN (.binOp .gtr _ _ _ _) none); (first | refine al (O.gtr (.lit rfl) (.k rfl)) ?_ | refine al (O.gtr (.lit rfl) (.lit rfl)) ?_ | refine al (O.gtr (.k rfl) (.lit rfl)) ?_))
  | ((with_reducible apply ar.bN (.binOp .sub _ _ _ _) none); (first | refine al (O.sub (.lit rfl) (.k rfl)) ?_ | refine al (O.sub (.lit rfl) (.lit rfl)) ?_ | refine al (O.sub (.k rfl) (.lit rfl)) ?_))
  | ((with_reducible apply ar.bN (.binOp .leq _ _ _ _) none); (first | refine al (O.leq (.lit rfl) (.k rfl)) ?_ | refine al (O.leq (.lit rfl) (.lit rfl)) ?_ | refine al (O.leq (.k rfl) (.lit rfl)) ?_))
  | ((with_reducible apply ar.bN (.pick _ _ _) none); (first | refine al (O.hG (.lit rfl) rfl (.lit rfl)) ?_ | refine al (O.dA (.lit rfl) rfl (.lit rfl)) ?_ | refine al (O.hG (.lit rfl) rfl (.k rfl)) ?_ | refine al (O.dA (.lit rfl) rfl (.k rfl)) ?_ | refine al (O.hG (.lit rfl) (by assumption) (.lit rfl)) ?_ | refine al (O.dA (.lit rfl) (by assumption) (.lit rfl)) ?_ | refine al (O.hG (.lit rfl) (by assumption) (.k rfl)) ?_ | refine al (O.dA (.lit rfl) (by assumption) (.k rfl)) ?_))
  | ((with_reducible apply ar.bN (.call { callee:=.builtin .len,args:=#[_],argTypes:=#[_] }) none); (first | refine al (O.kv (.bm rfl) ep.p) ?_ | refine al (O.mB (.a6 rfl) ep.p) ?_ | refine al (O.mB (.own rfl) ep.p) ?_ | refine al (O.ur (.lit rfl) iX.p) ?_))
  | ((with_reducible apply ar.bN (.unOp .not _ _) none); (first | refine al (O.not (.lit rfl)) ?_))
  | ((with_reducible apply ar.bN (.nilCheck _) none); (first | refine al (O.eT (.ptr rfl)) ?_ | refine al (O.xJ (.cI rfl)) ?_ | refine al (O.eT (.obj rfl)) ?_))
  | ((with_reducible apply ar.bN (.index _ _ _) none); (first | refine al (O.ml (.lit rfl) (.lit rfl) iX.p (by assumption)) ?_))
  | ((with_reducible apply ar.bN (.move (.const _)) none); (first | refine al (O.aX (.k rfl)) ?_ | refine al (O.aX .xD) ?_)))
 | ((with_reducible apply ar.nl); first | exact bL rfl | refine gT ?_)
 | ((with_reducible apply ar.bN _ (some _)); first
  | (first | refine gg rfl ?_ | refine Q6 ?_ | refine DW ?_)
  | ((with_reducible apply ar.bN (.move (.tmp _)) (some _)); (first | refine cc rfl (O.aX (.lit rfl)) ?_ | refine fl (O.aX (.lit rfl)) ?_ | refine cc rfl (O.aX (.bm rfl)) ?_ | refine fl (O.aX (.bm rfl)) ?_ | refine cc rfl (O.aX (.own rfl)) ?_ | refine fl (O.aX (.own rfl)) ?_ | refine cc rfl (O.aX (.obj rfl)) ?_ | refine fl (O.aX (.obj rfl)) ?_ | refine cc rfl (O.aX (.cI rfl)) ?_ | refine fl (O.aX (.cI rfl)) ?_ | refine cc rfl (O.aX (.ptr rfl)) ?_ | refine fl (O.aX (.ptr rfl)) ?_ | refine cc rfl (O.aX (.a6 rfl)) ?_ | refine fl (O.aX (.a6 rfl)) ?_))
  | ((with_reducible apply ar.bN (.load _ _) (some _)); (first | refine cc rfl (O.oW rfl (.ptr rfl) fN.p rfl) ?_ | refine fl (O.oW rfl (.ptr rfl) fN.p rfl) ?_ | refine cc rfl (O.Cr (.cI rfl) fN.p rfl) ?_ | refine fl (O.Cr (.cI rfl) fN.p rfl) ?_ | refine cc rfl (O.zI rfl (.ptr rfl) fN.p rfl) ?_ | refine fl (O.zI rfl (.ptr rfl) fN.p rfl) ?_ | refine cc rfl (O.oW rfl (.obj rfl) fN.p rfl) ?_ | refine fl (O.oW rfl (.obj rfl) fN.p rfl) ?_ | refine cc rfl (O.zI rfl (.obj rfl) fN.p rfl) ?_ | refine fl (O.zI rfl (.obj rfl) fN.p rfl) ?_ | refine cc rfl (O.zJ rfl (.ptr rfl) fN.p rfl) ?_ | refine fl (O.zJ rfl (.ptr rfl) fN.p rfl) ?_ | refine cc rfl (O.zJ rfl (.obj rfl) fN.p rfl) ?_ | refine fl (O.zJ rfl (.obj rfl) fN.p rfl) ?_))
  | ((with_reducible apply ar.bN (.fieldAddr _ _ _) (some _)); (first | refine cc rfl (O.kt rfl (.obj rfl) c'.p rfl) ?_ | refine fl (O.kt rfl (.obj rfl) c'.p rfl) ?_ | refine cc rfl (O.Bm (.cI rfl) c'.p) ?_ | refine fl (O.Bm (.cI rfl) c'.p) ?_ | refine cc rfl (O.kt rfl (.ptr rfl) c'.p rfl) ?_ | refine fl (O.kt rfl (.ptr rfl) c'.p rfl) ?_))
  | ((with_reducible apply ar.bN (.indexAddr _ _ _) (some _)); (first | refine cc rfl (O.rl (.bm rfl) (.lit rfl) ep.p (by assumption)) ?_ | refine fl (O.rl (.bm rfl) (.lit rfl) ep.p (by assumption)) ?_ | refine cc rfl (O.rl (.bm rfl) (.k rfl) ep.p (by assumption)) ?_ | refine fl (O.rl (.bm rfl) (.k rfl) ep.p (by assumption)) ?_))
  | ((with_reducible apply ar.bN (.binOp .add _ _ _ _) (some _)); (first | refine cc rfl (O.add (.lit rfl) (.k rfl)) ?_ | refine fl (O.add (.lit rfl) (.k rfl)) ?_ | refine cc rfl (O.add (.lit rfl) (.lit rfl)) ?_ | refine fl (O.add (.lit rfl) (.lit rfl)) ?_ | refine cc rfl (O.add (.k rfl) (.lit rfl)) ?_ | refine fl (O.add (.k rfl) (.lit rfl)) ?_))
  | ((with_reducible apply ar.bN (.binOp .lss _ _ _ _) (some _)); (first | refine cc rfl (O.lss (.lit rfl) (.k rfl)) ?_ | refine fl (O.lss (.lit rfl) (.k rfl)) ?_ | refine cc rfl (O.lss (.lit rfl) (.lit rfl)) ?_ | refine fl (O.lss (.lit rfl) (.lit rfl)) ?_ | refine cc rfl (O.lss (.k rfl) (.lit rfl)) ?_ | refine fl (O.lss (.k rfl) (.lit rfl)) ?_))
  | ((with_reducible apply ar.bN (.binOp .eql _ _ _ _) (some _)); (first | refine cc rfl (O.eql (.lit rfl) (.k rfl)) ?_ | refine fl (O.eql (.lit rfl) (.k rfl)) ?_ | refine cc rfl (O.eql (.lit rfl) (.lit rfl)) ?_ | refine fl (O.eql (.lit rfl) (.lit rfl)) ?_ | refine cc rfl (O.eql (.k rfl) (.lit rfl)) ?_ | refine fl (O.eql (.k rfl) (.lit rfl)) ?_ | refine cc rfl (O.qj (.lit rfl) (.lit rfl)) ?_ | refine fl (O.qj (.lit rfl) (.lit rfl)) ?_ | refine cc rfl (O.qj (.lit rfl) (.k rfl)) ?_ | refine fl (O.qj (.lit rfl) (.k rfl)) ?_))
  | ((with_reducible apply ar.bN (.binOp .neq _ _ _ _) (some _)); (first | refine cc rfl (O.neq (.lit rfl) (.k rfl)) ?_ | refine fl (O.neq (.lit rfl) (.k rfl)) ?_ | refine cc rfl (O.neq (.lit rfl) (.lit rfl)) ?_ | refine fl (O.neq (.lit rfl) (.lit rfl)) ?_ | refine cc rfl (O.neq (.k rfl) (.lit rfl)) ?_ | refine fl (O.neq (.k rfl) (.lit rfl)) ?_ | refine cc rfl (O.ov (.lit rfl) (.lit rfl)) ?_ | refine fl (O.ov (.lit rfl) (.lit rfl)) ?_ | refine cc rfl (O.ov (.lit rfl) (.k rfl)) ?_ | refine fl (O.ov (.lit rfl) (.k rfl)) ?_))
  | ((with_reducible apply ar.bN (.binOp .geq _ _ _ _) (some _)); (first | refine cc rfl (O.geq (.lit rfl) (.k rfl)) ?_ | refine fl (O.geq (.lit rfl) (.k rfl)) ?_ | refine cc rfl (O.geq (.lit rfl) (.lit rfl)) ?_ | refine fl (O.geq (.lit rfl) (.lit rfl)) ?_ | refine cc rfl (O.geq (.k rfl) (.lit rfl)) ?_ | refine fl (O.geq (.k rfl) (.lit rfl)) ?_))
  | ((with_reducible apply ar.bN (.binOp .gtr _ _ _ _) (some _)); (first | refine cc rfl (O.gtr (.lit rfl) (.k rfl)) ?_ | refine fl (O.gtr (.lit rfl) (.k rfl)) ?_ | refine cc rfl (O.gtr (.lit rfl) (.lit rfl)) ?_ | refine fl (O.gtr (.lit rfl) (.lit rfl)) ?_ | refine cc rfl (O.gtr (.k rfl) (.lit rfl)) ?_ | refine fl (O.gtr (.k rfl) (.lit rfl)) ?_))
  | ((with_reducible apply ar.bN (.binOp .sub _ _ _ _) (some _)); (first | refine cc rfl (O.sub (.lit rfl) (.k rfl)) ?_ | refine fl (O.sub (.lit rfl) (.k rfl)) ?_ | refine cc rfl (O.sub (.lit rfl) (.lit rfl)) ?_ | refine fl (O.sub (.lit rfl) (.lit rfl)) ?_ | refine cc rfl (O.sub (.k rfl) (.lit rfl)) ?_ | refine fl (O.sub (.k rfl) (.lit rfl)) ?_))
  | ((with_reducible apply ar.bN (.binOp .leq _ _ _ _) (some _)); (first | refine cc rfl (O.leq (.lit rfl) (.k rfl)) ?_ | refine fl (O.leq (.lit rfl) (.k rfl)) ?_ | refine cc rfl (O.leq (.lit rfl) (.lit rfl)) ?_ | refine fl (O.leq (.lit rfl) (.lit rfl)) ?_ | refine cc rfl (O.leq (.k rfl) (.lit rfl)) ?_ | refine fl (O.leq (.k rfl) (.lit rfl)) ?_))
  | ((with_reducible apply ar.bN (.call { callee:=.builtin .len,args:=#[_],argTypes:=#[_] }) (some _)); (first | refine cc rfl (O.kv (.bm rfl) ep.p) ?_ | refine fl (O.kv (.bm rfl) ep.p) ?_ | refine cc rfl (O.mB (.a6 rfl) ep.p) ?_ | refine fl (O.mB (.a6 rfl) ep.p) ?_ | refine cc rfl (O.mB (.own rfl) ep.p) ?_ | refine fl (O.mB (.own rfl) ep.p) ?_ | refine cc rfl (O.ur (.lit rfl) iX.p) ?_ | refine fl (O.ur (.lit rfl) iX.p) ?_))
  | ((with_reducible apply ar.bN (.unOp .not _ _) (some _)); (first | refine cc rfl (O.not (.lit rfl)) ?_ | refine fl (O.not (.lit rfl)) ?_))
  | ((with_reducible apply ar.bN (.nilCheck _) (some _)); (first | refine cc rfl (O.eT (.ptr rfl)) ?_ | refine fl (O.eT (.ptr rfl)) ?_ | refine cc rfl (O.xJ (.cI rfl)) ?_ | refine fl (O.xJ (.cI rfl)) ?_ | refine cc rfl (O.eT (.obj rfl)) ?_ | refine fl (O.eT (.obj rfl)) ?_))
  | ((with_reducible apply ar.bN (.index _ _ _) (some _)); (first | refine cc rfl (O.ml (.lit rfl) (.lit rfl) iX.p (by assumption)) ?_ | refine fl (O.ml (.lit rfl) (.lit rfl) iX.p (by assumption)) ?_)))))):ar P N ops l g K:=h
theorem W.Rn {id:Nat}{l:List Oper}{G G1:List (Nat × ab)}{Φ:Exit->aM->Prop}(ks:List Nat) (hk:aA .normal Φ G1) (h:ar P N l.toArray l (get G) (yM ks G1):=by exact ar.bq):W P N (.region id l.toArray false) (get G) Φ:=W.bS ks h hk
theorem W.cp {id:Nat}{l:List Oper}{B:Code}{G G1:List (Nat × ab)}{Φ:Exit->aM->Prop}(ks:List Nat) (hk:W P N B (get G1) Φ) (h:ar P N l.toArray l (get G) (yM ks G1):=by exact ar.bq):W P N (.seq (.region id l.toArray false) B) (get G) Φ:=W.cN ks h hk
end
end Go.Own
namespace Go.Own
open Go
section
variable {P:Program}{N:c6}{G:List (Nat × ab)}{g':aM}
theorem i_ {rs:List ResultVar}{ys xs:List ab}{res:ab}{outs:List (Option ab)}{n:Nat}(h:j5 P (get G) rs ys xs g') (he:qJ xs=res:=by rfl) (a1:q0 g' N.pins 0 outs:=by (repeat' first | exact .nil | refine .no ?_)) (ft:(rs.filterMap fun | .cell t _=>some t | _=>none).Nodup:=by exact of_decide_eq_true (by kernel_rfl)) (ak:outs.length=n:=by rfl):aA .ret (p6 P N rs n outs res) G:=aA.fin (Fin.ro h he ft a1 ak (.inr rfl))
end
end Go.Own
namespace Go.Own
open Go
section
variable {P:Program}{N:c6}{G:List (Nat × ab)}{g':aM}{S R:Type}
theorem aJ {α β:Type}{x:Option α}{f:α->Option β}{r:β}{G:Prop}(h:x.bind f=some r) (k:∀ a,x=some a->f a=some r->G):G:=by
 obtain ⟨a,h1,af⟩:=k7 h
 grind
theorem Rd.bh {g:aM}{t:Nat}{v:Value}(h:g t=some (.lit v):=by rfl):Rd g (.tmp t) (.lit v):=.lit h
theorem Rd.z2 {g:aM}{t z n:Nat}{cs:List ab}(h:g t=some (.bm z n cs):=by rfl):Rd g (.tmp t) (.bm z n cs):=.bm h
theorem Rd.z3 {g:aM}{t z n:Nat}{cs:List ab}(h:g t=some (.own z n cs):=by rfl):Rd g (.tmp t) (.a6 z ⟨t,[]⟩ n):=.own h
theorem Rd.z4 {g:aM}{t:Nat}{c:ab}{cs:List ab}(h:g t=some (.obj (c::cs)):=by rfl):Rd g (.tmp t) (.ptr ⟨t,[]⟩ 0):=.obj h
theorem Rd.z5 {g:aM}{t k:Nat}{p:Place}(h:g t=some (.ptr p k):=by rfl):Rd g (.tmp t) (.ptr p k):=.ptr h
theorem Rd.dg {g:aM}{t z n:Nat}{p:Place}(h:g t=some (.a6 z p n):=by rfl):Rd g (.tmp t) (.a6 z p n):=.a6 h
theorem Rd.n1 {g:aM}{t:Nat}{cs:List ab}(h:g t=some (.cI cs):=by rfl):Rd g (.tmp t) (.cI cs):=.cI h
theorem Rd.cD {g:aM}{v:Value}(h:ofConst v=.lit v:=by rfl):Rd g (.const v) (.lit v):=.k h
theorem aA.dS {G1:List (Nat × ab)}(h:Trim true (get G) (get G1) G1:=by (repeat' first | exact .nil | refine .n rfl ?_)):aA .normal (λe g=>e=.normal/\ie g G1) G:=aA.dF h
theorem aA.gt {s:S}{F:S->List (Nat × ab)}{Ψ:R->Exit->aM->Prop}(h:Trim true (get G) (get (F s)) (F s):=by (repeat' first | exact .nil | refine .n rfl ?_)):aA .normal (k4 F Ψ (.inl s)) G:=aA.go h
theorem aA.t1 {id:Nat}{r:R}{F:S->List (Nat × ab)}{mg:R->List (Nat × ab)}(h:Trim true (get G) (get (mg r)) (mg r):=by (repeat' first | exact .nil | refine .n rfl ?_)):aA (.exit id) (k4 F (λr e g=>e=.exit id/\ie g (mg r)) (.inr r)) G:=aA.a8 h
theorem oD {rs:List ResultVar}{ys xs:List ab}{res:ab}{outs:List (Option ab)}{n:Nat}(h:j5 P (get G) rs ys xs g':=by exact .f rfl rfl .nil) (he:qJ xs=res:=by rfl) (a1:q0 g' N.pins 0 outs:=by (repeat' first | exact .nil | refine .no ?_)) (ft:(rs.filterMap fun | .cell t _=>some t | _=>none).Nodup:=by exact of_decide_eq_true (by kernel_rfl)) (ak:outs.length=n:=by rfl):aA .ret (p6 P N rs n outs res) G:=by grind [i_]
end
end Go.Own
namespace Go.Own
open Go
section
variable {α:Type}{P:Program}{g:aM}{ty t:TypeId}{a b:Operand}{k r z n:Nat}{cs cs':List ab}{x y:ab}{p:Place}{m:Int}{sY:IntKind}{e:TypeId}{N:c6}{ops:Array Oper}
theorem O.bx {cT f off:Nat} [h:c' P cT f off t] (J:Rd g a (.ptr ⟨r,[]⟩ k):=by exact .obj rfl) (aC:g r=some (.obj cs):=by rfl) (ak:Nat.blt (k+off) cs.length=true:=by rfl):ch P g (.fieldAddr cT a f) ty (.ptr ⟨r,[]⟩ (k+off)):=O.kt aC J h.p ak
theorem O.y2 {cT f off:Nat} [h:c' P cT f off t] (J:Rd g a (.ptr ⟨r,[]⟩ k):=by exact .ptr rfl) (aC:g r=some (.obj cs):=by rfl) (ak:Nat.blt (k+off) cs.length=true:=by rfl):ch P g (.fieldAddr cT a f) ty (.ptr ⟨r,[]⟩ (k+off)):=O.kt aC J h.p ak
theorem O.ed {v:Value} [h:fN P t] (J:Rd g a (.ptr ⟨r,[]⟩ k):=by exact .ptr rfl) (aC:g r=some (.obj cs):=by rfl) (aa:cs[k]?=some (.lit v):=by rfl):ch P g (.load t a) ty (.lit v):=O.oW aC J h.p aa
theorem O.eK {en:bJ α}{L:List α}{y:α}{bE:Nat}(h:idx L m=some y) [aI:ep P t e bE] (J:Rd g a (.bm en.z L.length (bo en L)):=by exact .bm rfl) (ax:Rd g b (.lit (.int sY m)):=by exact .lit rfl) (aY:bE=en.z:=by rfl):ch P g (.indexAddr t a b) ty (.cI (en.cells y++bo en (L.drop (m.toNat+1)))):=O.rl J ax (aY ▸ aI.p) h
theorem O.c7 [h:fN P t] (J:Rd g a (.ptr ⟨r,[]⟩ k):=by exact .ptr rfl) (aC:g r=some (.obj cs):=by rfl) (aa:cs[k]?=some x:=by rfl) (ax:gx 0 ⟨r,[k]⟩ x=y:=by rfl):ch P g (.load t a) ty y:=O.mA aC J h.p aa ax
theorem O.fI [h:fN P t] (J:Rd g a (.cI cs):=by exact .cI rfl) (aa:cs.head?=some x:=by rfl):ch P g (.load t a) ty x:=O.Cr J h.p aa
theorem O.iK {cT f off:Nat} [h:c' P cT f off t] (J:Rd g a (.cI cs):=by exact .cI rfl):ch P g (.fieldAddr cT a f) ty (.cI (cs.drop off)):=O.Bm J h.p
theorem O.iy {bE:Nat} [h:ep P t e bE] (J:Rd g a (.bm z n cs):=by exact .bm rfl):ch P g (.call { callee:=.builtin .len,args:=#[a],argTypes:=#[t] }) ty (ae n):=O.kv J h.p
theorem cB.eY {xs:List Operand}{gq:Array TypeId}{f:FuncId}{ys:List ab}{outs:List (Option ab)}{res:ab}(J:qZ g xs ys) (gQ:bV P f ys outs res) [ao:cg res] (aW:gN P f=true:=by kernel_rfl) (a1:sm outs=true:=by rfl):cB P g (.call { callee:=.value (.func f),args:=xs.toArray,argTypes:=gq }) res:=by grind [cB.go]
theorem cB.pZ {xs:List Operand}{gq:Array TypeId}{f:FuncId}{ys args:List ab}{outs:List (Option ab)}{res:ab}(J:gn g xs=some ys) (hv:oG g ys args) (gQ:bV P f args outs res) [ao:p7 res] (aW:gN P f=true:=by kernel_rfl) (a1:sm outs=true:=by rfl):cB P g (.call { callee:=.value (.func f),args:=xs.toArray,argTypes:=gq }) res:=by grind [cB.vw]
end
section
variable {P:Program}{N:c6}{ops:Array Oper}{bd:List (List Nat)}{K:aM->Prop}{i:Nat}{acc:Acc}{l:List Oper}{d:Nat}
theorem bz.hx (bG:Nat) {G G2:List (Nat × ab)}{o:Oper}(he:bk P N (dh (get G) (λ_=>true) acc) o (get G2)) (hk:bz P N ops bd (get G2) (bG+1) [] l K) (aO:o.guard=none:=by rfl) (gR:rn ((acc.filterMap j0).map Place.root)=true:=by rfl) (fH:mb G=true:=by rfl) (ah:Nat.beq ops.size (bG+l.length+1)=true:=by rfl) (aP:(List.range bG).all (λk=>(bd.getD bG []).contains k)=true:=by kernel_rfl) (av:(List.range ops.size).all (λk=>Nat.ble k bG||(bd.getD k []).contains bG)=true:=by kernel_rfl):bz P N ops bd (get G) i acc (o::l) K:=.wF bG he aO gR fH ah aP av hk
theorem bz.D9 (bG:Nat) {G G2:List (Nat × ab)}{o:Oper}{x:ab}(he:bk P N (dh (get G) (λ_=>true) acc) o (cV (get G2) d x)) (hk:bz P N ops bd (get ((d,x)::G2)) (bG+1) [] l K) (aO:o.guard=none:=by rfl) (gR:rn ((acc.filterMap j0).map Place.root)=true:=by rfl) (fH:mb G=true:=by rfl) (ah:Nat.beq ops.size (bG+l.length+1)=true:=by rfl) (aP:(List.range bG).all (λk=>(bd.getD bG []).contains k)=true:=by kernel_rfl) (av:(List.range ops.size).all (λk=>Nat.ble k bG||(bd.getD k []).contains bG)=true:=by kernel_rfl):bz P N ops bd (get G) i acc (o::l) K:=.bv bG he aO gR fH ah aP av hk
end
end Go.Own
namespace Go.Own
open Go
set_option linter.unusedVariables false
def o0:List ab->Nat->List ab->Option (List ab)
 | [],0,[]=>some []
 | [],_,_=>none
 | x::l,0,[]=>some (x::l)
 | _::l,0,y::c=>match o0 l 0 c with
  | some r=>some (y::r)
  | none=>none
 | x::l,k+1,c=>match o0 l k c with
  | some r=>some (x::r)
  | none=>none
theorem lV:∀ {l:List ab}{k:Nat}{c r:List ab},o0 l k c=some r->e5 l k c=r/\k+c.length<=l.length
 | [],0,[],r,h=>by cases h; exact ⟨rfl,Nat.le_refl _⟩
 | [],0,_::_,_,h=>by cases h
 | [],_+1,_,_,h=>by cases h
 | x::l,0,[],r,h=>by cases h; exact ⟨by simp [e5],by simp⟩
 | x::l,0,y::c,r,h=>by
  unfold o0 at h
  split at h
  ·rename_i dm ao;cases h;obtain ⟨h1,af⟩:=lV ao;subst h1;exact ⟨by simp [e5],by simp at af ⊢; omega⟩
  ·cases h
 | x::l,k+1,c,r,h=>by
  unfold o0 at h
  split at h
  ·rename_i dm ao;cases h;obtain ⟨h1,af⟩:=lV ao;subst h1;exact ⟨by simp [e5,Nat.add_right_comm],by simp; omega⟩
  ·cases h
theorem Dd {g g2:aM}{r:Nat}{cs2:List ab}:∀ {ks:List Nat}{G1:List (Nat × ab)},pick (cV g r (.obj cs2)) ks=some G1->(∀ e∈G1,cU e.2)->k5 g g2 r cs2 G1
 | [],_,h,_=>by cases h; exact .nil
 | k::ks,G1,h,aF=>by
  unfold pick at h
  split at h
  ·rename_i x J
   split at h
   ·rename_i l ak;cases h;have aw:=Dd (g2:=g2) ak λe he=>aF e (by simp [he]);by_cases e:k=r
    ·subst e;have e:x=.obj cs2:=by simpa [cV] using J.symm
     subst e;have J:cU (.obj cs2):=aF (k,.obj cs2) (by simp);have:dp cs2:=⟨by cases J; assumption⟩;exact .b rfl aw
    ·have:cg x:=⟨aF (k,x) (by simp)⟩;exact .n (by rw [<- Bool.not_eq_true,Nat.beq_eq]; exact e) (by simpa [cV,e] using J) aw
   ·cases h
  ·cases h
theorem J_ {g g2:aM}{ex:List Nat}:∀ {ks:List Nat}{G1:List (Nat × ab)},pick g ks=some G1->(ks.all λk=>!ex.elem k)=true->(∀ e∈G1,cU e.2)->mN ex g g2 G1
 | [],_,h,_,_=>by cases h; exact .nil
 | k::ks,G1,h,he,aF=>by
  unfold pick at h;rw [List.all_cons,Bool.and_eq_true] at he
  split at h
  ·rename_i x J
   split at h
   ·rename_i l ak;cases h;have:cg x:=⟨aF (k,x) (by simp)⟩;exact .n (by simpa using he.1) J (J_ ak he.2 λe h=>aF e (by simp [h]))
   ·cases h
  ·cases h
def Fh:List ab->Option (List ab)
 | []=>some []
 | x::l=>match Fh l with
  | some r=>some (x::r)
  | none=>none
theorem OS:∀ {l r:List ab},Fh l=some r->l=r
 | [],r,h=>by cases h; rfl
 | x::l,r,h=>by
  unfold Fh at h
  split at h
  ·rename_i dm ao;cases h; rw [OS ao]
  ·cases h
def Fi:ab->Option ab
 | .obj cs=>match Fh cs with
  | some r=>some (.obj r)
  | none=>none
 | .own z n cs=>some (.own z n cs)
 | _=>none
theorem OT {x y:ab}(h:Fi x=some y):x=y:=by
 unfold Fi at h
 grind [OS]
theorem J' {g g2:aM}{r:Nat}{x2:ab}:∀ {ks:List Nat}{G1:List (Nat × ab)},pick (cV g r x2) ks=some G1->(∀ e∈G1,cU e.2)->kG g g2 r x2 G1
 | [],_,h,_=>by cases h; exact .nil
 | k::ks,G1,h,aF=>by
  unfold pick at h
  split at h
  ·rename_i x J
   split at h
   ·rename_i l ak;cases h;have aw:=J' (g2:=g2) ak λe he=>aF e (by simp [he]);by_cases e:k=r
    ·subst e;have e:x=x2:=by simpa [cV] using J.symm
     subst e;have:cg x:=⟨aF (k,x) (by simp)⟩;exact .b rfl aw
    ·have:cg x:=⟨aF (k,x) (by simp)⟩;exact .n (by rw [<- Bool.not_eq_true,Nat.beq_eq]; exact e) (by simpa [cV,e] using J) aw
   ·cases h
  ·cases h
section
variable {P:Program}{N:c6}{ops:Array Oper}{g:aM}{K:aM->Prop}{l:List Oper}{d r k0:Nat}{ty t:TypeId}{pos:String}{after:Array Edge}{a b x:Operand}{cs cs' cs2:List ab}{y:ab}{G2:List (Nat × ab)}{u:Option (Nat × Bool)}{p q:Place}
theorem Rd.QD {α:Type}{en:bJ α}{L:List α}{t:Nat}(h:g t=some (ag en L)):Rd g (.tmp t) (ag en L):=.bm h
theorem bk.gp (ks:List Nat) (aP:Rd g a (.ptr ⟨r,[]⟩ k0):=by (first | exact .obj rfl | exact .ptr rfl)) (aC:g r=some (.obj cs):=by rfl) (av:Rd g b (.agg cs'):=by (first | exact .ds rfl rfl | exact .JB rfl)) (he:o0 cs k0 cs'=some cs2:=by rfl) (au:pick (cV g r (.obj cs2)) ks=some G2:=by rfl) (aY:hl P t cs'.length=true:=by kernel_rfl) (aR:Nat.blt 0 cs'.length=true:=by rfl) (ao:(get G2 r).isSome=true:=by rfl) [aF:dp cs'] [e9:dp cs] [aO:iA G2]:bk P N g ⟨none,.store t a b,ty,pos,after,none⟩ (get G2) :=
 .jh rfl rfl aC aP av rfl aY (Nat.ble_eq_true_of_le (lV he).2) aR (lV he).1 ao (Dd au aO.p)
theorem bk.nq (ks:List Nat) (aP:Rd g a (.ptr ⟨r,[]⟩ k0):=by (first | exact .ptr rfl | exact .obj rfl)) (aC:g r=some (.obj cs):=by rfl) (av:Rd g b y:=by (first | exact .lit rfl | exact .k rfl | exact .QD rfl | exact .xD | exact .bm rfl)) (aa:oL y=some [y]:=by rfl) (he:o0 cs k0 [y]=some cs2:=by rfl) (au:pick (cV g r (.obj cs2)) ks=some G2:=by rfl) (aY:hl P t 1=true:=by kernel_rfl) (ao:(get G2 r).isSome=true:=by rfl) [aF:cg y] [e9:dp cs] [aO:iA G2]:bk P N g ⟨none,.store t a b,ty,pos,after,none⟩ (get G2) :=
 .jh rfl rfl aC aP av aa aY (Nat.ble_eq_true_of_le (lV he).2) rfl (lV he).1 ao (Dd au aO.p)
theorem bk.jH {α:Type}{en:bJ α}{L:List α}(ks:List Nat) (J:Rd g x (.a6 en.z p L.length):=by (first | exact .own rfl | exact .a6 rfl)) (au:bD g p=some (aj en L):=by rfl) (hk:pick g ks=some G2:=by rfl) (dq:(ks.all λk=>![p.root].elem k)=true:=by rfl) (aO:get G2 d=none:=by rfl) (bc:N.ok d=true:=by rfl) [aF:iA G2]:bk P N g ⟨some d,.assign x,ty,pos,after,u⟩ (cV (get G2) d (aj en L)) :=
 .yW rfl rfl J au (J_ hk dq aF.p) aO bc
theorem bk.uZ {α:Type}{en:bJ α}{L M:List α}{s:Nat}(ks:List Nat) (J:Rd g x (.a6 en.z ⟨s,[]⟩ (L.length+M.length)):=by exact .bM rfl) (aC:g s=some (.bM en.z q L.length M.length (bo en M)):=by rfl) (au:bD g q=some (aj en L):=by rfl) (hk:pick g ks=some G2:=by rfl) (dq:(ks.all λk=>![s,q.root].elem k)=true:=by rfl) (bg:Nat.beq q.root s=false:=by rfl) (aO:get G2 d=none:=by rfl) (bc:N.ok d=true:=by rfl) [aF:iA G2]:bk P N g ⟨some d,.assign x,ty,pos,after,u⟩ (cV (get G2) d (aj en (L++M))) :=
 .Ls rfl rfl J aC au bg (J_ hk dq aF.p) aO bc
theorem bk.sp {α:Type}{en:bJ α}{L M:List α}{s:Nat}{jr:List ab}(ks:List Nat) (av:Rd g b (.a6 en.z ⟨s,[]⟩ (L.length+M.length)):=by exact .bM rfl) (qt:g s=some (.bM en.z q L.length M.length (bo en M)):=by rfl) (au:bD g q=some (aj en L):=by rfl) (aP:Rd g a (.ptr ⟨r,[]⟩ k0):=by (first | exact .ptr rfl | exact .obj rfl)) (aC:cv (cv g ⟨s,[]⟩ .dead) q .dead r=some (.obj jr):=by rfl) (he:o0 jr k0 [aj en (L++M)]=some cs2:=by rfl) (hk:pick (cV (cv (cv g ⟨s,[]⟩ .dead) q .dead) r (.obj cs2)) ks=some G2:=by rfl) (bg:Nat.beq q.root s=false:=by rfl) (aY:hl P t 1=true:=by kernel_rfl) (ao:(get G2 r).isSome=true:=by rfl) [e9:dp jr] [aO:iA G2]:bk P N g ⟨none,.store t a b,ty,pos,after,none⟩ (get G2) :=
 .F5 rfl rfl aP av qt au bg .ky .hX rfl rfl aY aC (Nat.ble_eq_true_of_le (lV he).2) (lV he).1 ao (Dd hk aO.p)
theorem bk.te {α:Type}{en:bJ α}{L:List α}{jr:List ab}(ks:List Nat) (av:Rd g b (.a6 en.z p L.length):=by (first | exact .own rfl | exact .a6 rfl)) (au:bD g p=some (aj en L):=by rfl) (aP:Rd g a (.ptr ⟨r,[]⟩ k0):=by (first | exact .ptr rfl | exact .obj rfl)) (aC:cv g p .dead r=some (.obj jr):=by rfl) (he:o0 jr k0 [aj en L]=some cs2:=by rfl) (hk:pick (cV (cv g p .dead) r (.obj cs2)) ks=some G2:=by rfl) (aY:hl P t 1=true:=by kernel_rfl) (ao:(get G2 r).isSome=true:=by rfl) [e9:dp jr] [aO:iA G2]:bk P N g ⟨none,.store t a b,ty,pos,after,none⟩ (get G2) :=
 .pY rfl rfl aP av (.r au .nil) .refl rfl aY aC (Nat.ble_eq_true_of_le (lV he).2) rfl (lV he).1 ao (Dd hk aO.p)
theorem bk.rF {α:Type}{en:bJ α}{L:List α}{jj y2:α}{m:Int}{o:Nat}{eA x2 y0:ab}(ks:List Nat) (h:idx L m=some jj) (aP:Rd g a (.ptr p (m.toNat * en.z+o)):=by exact .ptr rfl) (au:bD g p=some (aj en L):=by rfl) (av:Rd g b y:=by (first | exact .lit rfl | exact .k rfl | exact .QD rfl | exact .xD | exact .bm rfl | exact .ds rfl rfl)) (aa:oL y=some cs':=by rfl) (he:e5 (en.cells jj) o cs'=en.cells y2:=by rfl) (iH:cv g p (aj en (L.set m.toNat y2)) p.root=some eA:=by rfl) (iu:Fi eA=some x2:=by rfl) (hk:pick (cV g p.root x2) ks=some G2:=by rfl) (aY:hl P t cs'.length=true:=by kernel_rfl) (hlen:Nat.ble (o+cs'.length) en.z=true:=by rfl) (aR:Nat.blt 0 cs'.length=true:=by rfl) (ao:(get G2 p.root).isSome=true:=by rfl) (rk:g p.root=some y0:=by rfl) [aF:cg y] [e9:cg y0] [aO:iA G2]:bk P N g ⟨none,.store t a b,ty,pos,after,none⟩ (get G2) :=
 .td rfl rfl aP av au h aY aa he hlen aR (by rw [iH,OT iu]) ao rk (J' hk aO.p)
theorem ar.eD {o:Oper}(he:bk P N g o (get G2)) (hk:ar P N ops l (get G2) K) (aO:o.guard=none:=by rfl):ar P N ops (o::l) g K:=.kL aO he hk
theorem ar.b' {o:Oper}(he:bk P N g o (cV (get G2) d y)) (hk:ar P N ops l (cV (get G2) d y) K) (aO:o.guard=none:=by rfl):ar P N ops (o::l) g K:=.q9 aO he hk
end
section
variable {S R:Type}{P:Program}{N:c6}{A B c:Code}{G:List (Nat × ab)}{Φ:Exit->aM->Prop}{id:Nat}
theorem W.fL {G1:List (Nat × ab)}(ks:List Nat) (L:List (Nat × ab)) (h:W P N c (get G) λe g=>e=.normal/\ie g G1) (hk:aA .normal Φ G1) (au:pick (get (L++G)) ks=some G1:=by rfl):W P N c (get G) Φ:=W.dF _ h hk
theorem W.kh {G1:List (Nat × ab)}{l:List Oper}(ks:List Nat) (L:List (Nat × ab)) (h:ar P N l.toArray l (get G) λg'=>kp g' (get G1)) (hk:W P N B (get G1) Φ) (au:pick (get (L++G)) ks=some G1:=by rfl):W P N (.seq (.region id l.toArray false) B) (get G) Φ:=W.rs _ h hk
theorem W.gK {f:S->Option (S ⊕ R)}{r:R}{c9:S->List (Nat × ab)}{mj:R->List (Nat × ab)}(s:S) (F:S->List (Nat × ab)) (ks:List Nat) (id:Nat) (X:R->List (Nat × ab)) (sk:List Nat) (h:b4 f s=some r) (av:∀ s o,f s=some o->W P N c (get (c9 s)) (k4 c9 (λr e g=>e=.exit id/\ie g (mj r)) o)) (hk:aA (.exit id) Φ (mj r))
  (aN:∀ s,pick (get (F s++G)) ks=some (c9 s):=by intro s; rfl) (tP:∀ s,pick (get (X s++G)) sk=some (mj s):=by intro s; rfl) (aw:Trim true (get G) (get (c9 s)) (c9 s):=by (repeat' first | exact .nil | refine .n rfl ?_ | refine .w rfl rfl .pP ?_ | refine .w rfl rfl .pO ?_ | refine .w rfl rfl (j9.obj (by (repeat' first | exact .nil | refine .f ?_ | refine .o ?_ | refine .i ?_))) ?_)):W P N (.loop c) (get G) Φ :=
 W.dC aw (W.zK c9 id mj h av hk)
theorem W.gw {gL:Type}{f:S->Option (S ⊕ (R ⊕ gL))}{r:R ⊕ gL}{c9:S->List (Nat × ab)}{mj:R->List (Nat × ab)}{tt:gL->List (Nat × ab)}(s:S) (F:S->List (Nat × ab)) (ks:List Nat) (id:Nat) (X:R->List (Nat × ab)) (sk:List Nat) (Y:gL->List (Nat × ab)) (Cp:List Nat) (h:b4 f s=some r)
  (av:∀ s o,f s=some o->W P N c (get (c9 s)) (k4 c9 (λ(r:R ⊕ gL) e g=>match r with | .inl r=>e=.exit id/\ie g (mj r) | .inr r=>e=.ret/\ie g (tt r)) o))
  (J:∀ x,r=.inl x->aA (.exit id) Φ (mj x)) (ao:∀ x,r=.inr x->aA .ret Φ (tt x))
  (aN:∀ s,pick (get (F s++G)) ks=some (c9 s):=by intro s; rfl) (tP:∀ s,pick (get (X s++G)) sk=some (mj s):=by intro s; rfl) (wZ:∀ s,pick (get (Y s++G)) Cp=some (tt s):=by intro s; rfl) (aw:Trim true (get G) (get (c9 s)) (c9 s):=by (repeat' first | exact .nil | refine .n rfl ?_ | refine .w rfl rfl .pP ?_ | refine .w rfl rfl .pO ?_ | refine .w rfl rfl (j9.obj (by (repeat' first | exact .nil | refine .f ?_ | refine .o ?_ | refine .i ?_))) ?_)):W P N (.loop c) (get G) Φ :=
 W.dC aw (W.OJ c9 id mj tt h av J ao)
end
end Go.Own
namespace Go.Own
open Go
set_option linter.unusedVariables false
inductive lx:Type 1
 | e
 | b (x y:lx)
 | eP {S R:Type}(F:S->List (Nat × ab)) (ks:List Nat) (id:Nat) (X:R->List (Nat × ab)) (sk:List Nat) (x y:lx)
 | gw {S R gL:Type}(F:S->List (Nat × ab)) (ks:List Nat) (id:Nat) (X:R->List (Nat × ab)) (sk:List Nat) (Y:gL->List (Nat × ab)) (Cp:List Nat) (x y z:lx)
 | dF {α:Type}(ks:List Nat) (L:α->List (Nat × ab)) (x y:lx)
 | ev {α:Type}(id:Nat) (ks:List Nat) (L:α->List (Nat × ab)) (y:lx)
 | rd (id:Nat) (bd:List (List Nat)) (y:lx)
 | bS {α:Type}(id:Nat) (bd:List (List Nat)) (ks:List Nat) (L:α->List (Nat × ab)) (y:lx)
 | p (y:lx)
 | dN {α:Type}(id s:Nat) (i:Option Nat) (en:bJ α) (y:lx)
 | sE {α:Type}(s:Nat) (i:Option Nat) (en:bJ α) (y:lx)
def OD:ab->Bool
 | .lit _ | .aK | .bm .. | .own .. | .obj _ | .cI _ | .cW .. | .mp _ | .imp _=>true
 | .agg cs=>cs.all λx=>match x with | .ptr .. | .a6 .. | .sub .. | .gB _ | .bM .. | .dead=>false | _=>true
 | _=>false
def sZ (ex:List Nat):List (Nat × ab)->Option (List Nat)
 | []=>some []
 | (k,x)::l=>match sZ (k::ex) l with
  | none=>none
  | some r=>match !ex.elem k&&OD x with
   | true=>some (k::r)
   | false=>some r
def JD (E ex:List Nat):List (Nat × ab)->Option (List Nat)
 | []=>some []
 | (k,x)::l=>match JD E (k::ex) l with
  | none=>none
  | some r=>match E.elem k&&(!ex.elem k&&OD x) with
   | true=>some (k::r)
   | false=>some r
def roots (G:List (Nat × ab)):Operand->List Nat
 | .tmp s=>match get G s with
  | some (.own ..)=>[s]
  | some (.obj _)=>[s]
  | some (.a6 _ p _)=>[s,p.root]
  | some (.ptr p _)=>[s,p.root]
  | some (.bM _ q _ _ _)=>match get G q.root with
   | some (.bM _ Df _ _ _)=>[s,q.root,Df.root]
   | _=>[s,q.root]
  | _=>[s]
 | _=>[]
def Pa (F:List (Nat × ab)) (s:Nat):Nat->List ab->Option (List ab)
 | _,[]=>some []
 | i,x::l=>match Pa F s (i+1) l with
  | none=>none
  | some r=>match get F (1000 * (i+1)+s) with
   | some y=>some (y::r)
   | none=>some (x::r)
def pR (F G:List (Nat × ab)):aM:=λs=>match get F s with
 | some x=>some x
 | none=>match get G s with
  | some (.obj cs)=>match Pa F s 0 cs with
   | some r=>some (.obj r)
   | none=>none
  | x=>x
def cM (E:List Nat) (t:lx) (P:Program) (N:c6) (c:Code) (G:List (Nat × ab)) (Φ:Exit->aM->Prop):Prop:=W P N c (get G) Φ
def er (E:List Nat) (t:lx) (e:Exit) (Φ:Exit->aM->Prop) (G:List (Nat × ab)):Prop:=aA e Φ G
def yL (E:List Nat) (t:lx) (Ψ:lx->List (Nat × ab)->Prop) (g':aM):Prop:=∃ G1,kp g' (get G1)/\Ψ t G1
def rL {α:Type}(F:α->List (Nat × ab)) (j:α) (e:Exit) (g:aM):Prop:=e=.normal/\ie g (F j)
def Lf {R:Type}(id:Nat) (X:R->List (Nat × ab)) (r:R) (e:Exit) (g:aM):Prop:=e=.exit id/\ie g (X r)
def AW {R gL:Type}(id:Nat) (X:R->List (Nat × ab)) (Y:gL->List (Nat × ab)) (r:R ⊕ gL) (e:Exit) (g:aM):Prop:=match r with | .inl r=>e=.exit id/\ie g (X r) | .inr r=>e=.ret/\ie g (Y r)
class bA (P:Program) (f:FuncId) (p:Prop) (args:outParam (List ab)) (outs:outParam (List (Option ab))) (res:outParam ab):Prop where go:p->bV P f args outs res
section
variable {P:Program}{N:c6}{E:List Nat}{t x y z:lx}{A B c:Code}{G G1:List (Nat × ab)}{Φ oA:Exit->aM->Prop}{Ψ:aM->Prop}{id k s:Nat}{b:Bool}{α β:Type}{l:List Oper}
theorem cM.rg (h:ar P N l.toArray l (get G) (yL E t λt G1=>cM E t P N B G1 Φ)):cM E t P N (.seq (.region id l.toArray false) B) G Φ :=
 W.seq (W.Ax λi hi=>by
  obtain ⟨g',h1,G1,af,aI⟩:=h i hi;exact ⟨g',h1,W.weaken af aI⟩)
theorem cM.rt (h:ar P N l.toArray l (get G) (yL E t λt G1=>er E t .normal Φ G1)):cM E t P N (.region id l.toArray false) G Φ :=
 W.Ax λi hi=>by
  obtain ⟨g',h1,G1,af,aI⟩:=h i hi;exact ⟨g',h1,aI g' (.eW af .hX)⟩
theorem cM.bw (h:cM E t P N A G (o3 (λg1=>W P N B g1 Φ) Φ)):cM E t P N (.seq A B) G Φ:=W.seq h
theorem cM.b2 (h:cM E t P N A G (ma id Φ)):cM E t P N (.block id A) G Φ:=W.b2 h
theorem cM.wF (h:cM E t P N A G (ma id Φ)):cM E (.p t) P N (.block id A) G Φ:=W.b2 h
theorem cM.cZ (h:er E t .normal Φ G):cM E t P N .skip G Φ:=W.cZ h
theorem cM.fb (h:er E t (.exit k) Φ G):cM E t P N (.exit k) G Φ:=W.fb h
theorem cM.Dk (h:er E t .ret Φ G):cM E t P N .ret G Φ:=W.rt h
theorem cM.b8 {X Y o:α}(h:(bif b then X else Y)=o) (dL:b=true->X=o->cM E x P N A G Φ) (aN:b=false->Y=o->cM E y P N B G Φ) (aa:get G s=some (a_ b):=by rfl):cM E (.b x y) P N (.cond (.tmp s) A B) G Φ:=W.b8 h aa dL aN
theorem cM.ce {X Y o:α}(h:(bif b then X else Y)=o) (dL:b=true->X=o->cM E .e P N A G Φ) (aN:b=false->Y=o->cM E .e P N B G Φ) (aa:get G s=some (a_ b):=by rfl):cM E .e P N (.cond (.tmp s) A B) G Φ:=W.b8 h aa dL aN
theorem cM.Sm (h:cM E t P N A G Φ) (aa:get G s=some (a_ b):=by rfl) (av:b=true:=by (first | rfl | assumption)):cM E t P N (.cond (.tmp s) A B) G Φ:=W.fq aa (λ_=>h) (λe=>by rw [av] at e; cases e)
theorem cM.Sl (h:cM E t P N B G Φ) (aa:get G s=some (a_ b):=by rfl) (av:b=false:=by (first | rfl | assumption)):cM E t P N (.cond (.tmp s) A B) G Φ:=W.fq aa (λe=>by rw [av] at e; cases e) (λ_=>h)
theorem cM.WZ {o:Operand}{m:Option α}{f:α->Option β}{r:β}{ks:List Nat}{L c9:α->List (Nat × ab)}(h:m.bind f=some r) (h1:∀ j,m=some j->cM E x P N (.cond o A B) G (rL c9 j)) (af:∀ j,m=some j->f j=some r->er E y .normal Φ (c9 j))
  (aN:∀ j,pick (pR (L j) G) ks=some (c9 j):=by intro j; rfl):cM E (.dF ks L x y) P N (.cond o A B) G Φ:=by
 obtain ⟨j,ah,h⟩:=k7 h;exact W.dF _ (h1 j ah) (af j ah h)
theorem cM.Jz {m:Option α}{f:α->Option β}{r:β}{ks:List Nat}{L c9:α->List (Nat × ab)}(h:m.bind f=some r) (h1:∀ j,m=some j->cM E x P N (.block id A) G (rL c9 j)) (af:∀ j,m=some j->f j=some r->er E y .normal Φ (c9 j))
  (aN:∀ j,pick (pR (L j) G) ks=some (c9 j):=by intro j; rfl):cM E (.dF ks L x y) P N (.block id A) G Φ:=by
 obtain ⟨j,ah,h⟩:=k7 h;exact W.dF _ (h1 j ah) (af j ah h)
theorem cM.eP {S R:Type}{f:S->Option (S ⊕ R)}{s:S}{g:R->Option β}{r:β}{F c9:S->List (Nat × ab)}{ks sk:List Nat}{X mj:R->List (Nat × ab)}(h:(b4 f s).bind g=some r)
  (av:∀ s o,f s=some o->cM E x P N c (c9 s) (k4 c9 (Lf id mj) o)) (hk:∀ dm,b4 f s=some dm->g dm=some r->er E y (.exit id) Φ (mj dm))
  (aN:∀ s,pick (pR (F s) G) ks=some (c9 s):=by intro s; rfl) (tP:∀ s,pick (pR (X s) G) sk=some (mj s):=by intro s; rfl) (aw:Trim true (get G) (get (c9 s)) (c9 s):=by (repeat' first | exact .nil | refine .n rfl ?_ | refine .w rfl rfl .pP ?_ | refine .w rfl rfl .pO ?_ | refine .w rfl rfl (j9.obj (by (repeat' first | exact .nil | refine .f ?_ | refine .o ?_ | refine .i ?_))) ?_)) :
  cM E (.eP F ks id X sk x y) P N (.loop c) G Φ:=by
 obtain ⟨dm,ak,h⟩:=k7 h;exact W.dC aw (W.zK c9 id mj ak av (hk dm ak h))
theorem er.bw (h:cM E t P N B G Φ):er E t .normal (o3 (λg1=>W P N B g1 Φ) oA) G:=aA.bw h
theorem er.e' (h:er E t (.exit k) Φ G):er E t (.exit k) (o3 Ψ Φ) G:=aA.e' h
theorem er.hZ (h:er E t .ret Φ G):er E t .ret (o3 Ψ Φ) G:=aA.hZ h
theorem er.b2 (h:er E t .normal Φ G):er E t .normal (ma id Φ) G:=aA.b2 h
theorem er.e8 (h:er E t .normal Φ G):er E t (.exit id) (ma id Φ) G:=aA.e8 h
theorem er.G3 (h:er E t (.exit k) Φ G) (hk:Nat.beq k id=false:=by rfl):er E t (.exit k) (ma id Φ) G:=aA.G3 hk h
theorem er.k6 (h:er E t .ret Φ G):er E t .ret (ma id Φ) G:=aA.k6 h
theorem er.dF {F:α->List (Nat × ab)}{j v:α}(h:some v=some j) (aw:Trim true (get G) (get (F v)) (F v)):er E t .normal (rL F j) G:=by
 cases h; exact aA.dF aw
theorem er.go {S R:Type}{s:S}{o:S ⊕ R}{F:S->List (Nat × ab)}{Ψ:R->Exit->aM->Prop}(h:some (.inl s)=some o) (aw:Trim true (get G) (get (F s)) (F s)):er E t .normal (k4 F Ψ o) G:=by
 cases h; exact aA.go aw
theorem er.a8 {S R:Type}{r:R}{o:S ⊕ R}{F:S->List (Nat × ab)}{X:R->List (Nat × ab)}(h:some (.inr r)=some o) (aw:Trim true (get G) (get (X r)) (X r)):er E t (.exit id) (k4 F (Lf id X) o) G:=by
 cases h; exact aA.a8 aw
variable {ops:Array Oper}{K:aM->Prop}{d:Nat}{op:Op}{ty:TypeId}{pos:String}{after:Array Edge}{v v2:ab}{ks:List Nat}{g:aM}{j cT:Nat}{cm:Bool}
theorem pk {G:List (Nat × ab)}{d:Nat}{v:ab}:cV (get G) d v=get ((d,v)::G):=sF.symm
theorem ez (au:ch P (get G) op ty v) (hk:ar P N ops l (get ((d,v)::G)) K) (bc:N.ok d=true:=by rfl) (aW:get G d=none:=by rfl):ar P N ops (⟨some d,op,ty,pos,after,none⟩::l) (get G) K:=al au (pk ▸ hk) bc aW
theorem GM (lL:sZ [d] G=some ks) (aO:pick (get G) ks=some G1) [aF:iA G1] (au:ch P (get G1) op ty v) (hk:ar P N ops l (get ((d,v)::G1)) K) (bc:N.ok d=true:=by rfl) (aW:get G1 d=none:=by rfl):ar P N ops (⟨some d,op,ty,pos,after,none⟩::l) (get G) K:=ar.bS ks aO (al au (pk ▸ hk) bc aW)
theorem Lp (au:cB P (get G) op v) (hk:ar P N ops l (get ((d,v)::G)) K) (bc:N.ok d=true:=by rfl) (aW:get G d=none:=by rfl):ar P N ops (⟨some d,op,ty,pos,after,none⟩::l) (get G) K:=gr au (pk ▸ hk) bc aW
theorem eH (au:ch P (get G) op ty v) (hk:ar P N ops l (get ((d,v)::G)) K) (h:(ops[j]?).bind (·.dst)=some cT:=by rfl) (aO:get G cT=some (.lit (.bool cm)):=by rfl) (av:cm=b:=by (first | rfl | assumption)) (bc:N.ok d=true:=by rfl) (aW:get G d=none:=by rfl):ar P N ops (⟨some d,op,ty,pos,after,some (j,b)⟩::l) (get G) K:=.v au bc aW (.fi h aO av) (pk ▸ hk)
theorem Lb (au:cB P (get G) op v) (hk:ar P N ops l (get ((d,v)::G)) K) (h:(ops[j]?).bind (·.dst)=some cT:=by rfl) (aO:get G cT=some (.lit (.bool cm)):=by rfl) (av:cm=b:=by (first | rfl | assumption)) (bc:N.ok d=true:=by rfl) (aW:get G d=none:=by rfl):ar P N ops (⟨some d,op,ty,pos,after,some (j,b)⟩::l) (get G) K:=.c au bc aW (.fi h aO av) (pk ▸ hk)
theorem qV (hk:ar P N ops l (get ((d,.bW [])::G)) K) (h:(ops[j]?).bind (·.dst)=some cT:=by rfl) (aO:get G cT=some (.lit (.bool cm)):=by rfl) (av:cm=!b:=by (first | rfl | assumption)) (bc:N.ok d=true:=by rfl) (aW:get G d=none:=by rfl):ar P N ops (⟨some d,op,ty,pos,after,some (j,b)⟩::l) (get G) K:=.ps h aO av bc aW (pk ▸ hk)
theorem Q1 (hk:ar P N ops l (get ((d,.bW [])::G)) K) (h:(ops[j]?).bind (·.dst)=some cT:=by rfl) (aO:get G cT=some (.bW []):=by rfl) (bc:N.ok d=true:=by rfl) (aW:get G d=none:=by rfl):ar P N ops (⟨some d,op,ty,pos,after,some (j,b)⟩::l) (get G) K:=.pu h aO bc aW (pk ▸ hk)
theorem Hi {p:Prop}{X Y o:α}(h:(bif b then X else Y)=o) (dL:b=true->X=o->p) (aN:b=false->Y=o->p):p:=by
 cases b
 ·exact aN rfl h
 ·exact dL rfl h
theorem GG {DJ:lx->List (Nat × ab)->Prop}(lL:JD E [] G=some ks) (au:pick (get G) ks=some G1) [aF:iA G1] (hk:DJ t G1):ar P N ops [] (get G) (yL E t DJ):=.nil ⟨G1,(uB (c:=true) (g2:=get G1) au aF.p).eW,hk⟩
theorem cM.ev {m:Option α}{f:α->Option β}{r:β}{ks:List Nat}{L c9:α->List (Nat × ab)}(h:m.bind f=some r) (h1:∀ j,m=some j->ar P N l.toArray l (get G) (rL c9 j .normal)) (af:∀ j,m=some j->f j=some r->cM E y P N B (c9 j) Φ)
  (aN:∀ j,pick (pR (L j) G) ks=some (c9 j):=by intro j; rfl):cM E (.ev id ks L y) P N (.seq (.region id l.toArray false) B) G Φ:=by
 obtain ⟨j,ah,h⟩:=k7 h;exact W.seq (W.Ax λi hi=>by
  obtain ⟨g',cz,_,fO⟩:=h1 j ah i hi;exact ⟨g',cz,W.be (af j ah h) fO⟩)
theorem QY {F:α->List (Nat × ab)}{j v:α}(h:some v=some j) (aw:Trim true (get G) (get (F v)) (F v)):ar P N ops [] (get G) (rL F j .normal):=by
 cases h; exact .nil ⟨rfl,.eW aw.eW .hX⟩
end
end Go.Own
namespace Go.Own
open Go
set_option linter.unusedVariables false
def JS:ab->Option ab
 | .lit v=>some (.lit v)
 | .aK=>some .aK
 | .bm z n cs=>some (.bm z n cs)
 | .own z n cs=>some (.own z n cs)
 | .obj cs=>some (.obj cs)
 | .agg cs=>some (.agg cs)
 | .bW cs=>some (.bW cs)
 | .cI cs=>some (.cI cs)
 | .ptr p k=>some (.ptr p k)
 | .a6 z p n=>some (.a6 z p n)
 | .sub z p l n=>some (.sub z p l n)
 | .bM z p n m c=>some (.bM z p n m c)
 | .cW f a b=>some (.cW f a b)
 | .mp p=>some (.mp p)
 | .gB p=>some (.gB p)
 | .imp p=>some (.imp p)
 | .dead=>some .dead
theorem OV {x y:ab}(h:JS x=some y):x=y:=by cases x <;> (cases h; rfl)
def Fj:List ab->Option (List ab)
 | []=>some []
 | x::l=>match Fj l with
  | none=>none
  | some r=>match JS x with
   | none=>none
   | some y=>some (y::r)
theorem OU:∀ {l r:List ab},Fj l=some r->l=r
 | [],r,h=>by cases h; rfl
 | x::l,r,h=>by
  unfold Fj at h
  split at h
  ·cases h
  ·rename_i dm ao
   split at h
   ·cases h
   ·rename_i y ax;cases h; rw [OU ao,OV ax]
def s4:ab->Option ab
 | .agg cs=>match Fj cs with
  | some r=>some (.agg r)
  | none=>none
 | x=>JS x
theorem vE {x y:ab}(h:s4 x=some y):x=y:=by
 unfold s4 at h
 split at h
 ·split at h
  ·rename_i ao;cases h; rw [OU ao]
  ·cases h
 ·exact OV h
def lh:List ab->Option (List ab)
 | []=>some []
 | x::l=>match lh l with
  | none=>none
  | some r=>match s4 x with
   | none=>none
   | some y=>some (y::r)
theorem xI:∀ {l r:List ab},lh l=some r->l=r
 | [],r,h=>by cases h; rfl
 | x::l,r,h=>by
  unfold lh at h
  split at h
  ·cases h
  ·rename_i dm ao
   split at h
   ·cases h
   ·rename_i y ax;cases h; rw [xI ao,vE ax]
def yb (f:Nat->ab->ab):Nat->List Nat->List ab->Option (List ab)
 | _,_,[]=>some []
 | _,[],_::_=>none
 | k,j::ef,x::l=>match yb f (k+1) ef l with
  | none=>none
  | some r=>match Nat.beq j k,s4 (f j x) with
   | true,some y=>some (y::r)
   | _,_=>none
theorem Dl {f:Nat->ab->ab}:∀ {l:List ab}{ef:List Nat}{k:Nat}{r:List ab},yb f k ef l=some r->(l.mapIdx λi x=>f (k+i) x)=r
 | [],ef,k,r,h=>by cases ef <;> (cases h; rfl)
 | x::l,[],k,r,h=>by cases h
 | x::l,j::ef,k,r,h=>by
  unfold yb at h
  split at h
  ·cases h
  ·rename_i dm ao
   split at h
   ·rename_i y ah ax;cases h;have:=Nat.eq_of_beq_eq_true ah;subst this;rw [List.mapIdx_cons,<- Dl ao,<- vE ax];simp [Nat.add_comm,Nat.add_left_comm]
   ·cases h
def num:List Nat:=0::1::2::3::4::5::6::7::8::9::10::11::12::13::14::15::16::17::18::19::20::21::22::23::24::25::26::27::28::29::30::31::32::33::34::35::36::37::38::39::40::41::42::43::44::45::46::47::48::49::50::51::52::53::54::55::56::57::58::59::60::61::62::63::64::65::66::67::68::69::70::71::72::73::74::75::76::77::78::79::[]
def FH (g:aM):Operand->Option ab
 | .tmp t=>match g t with
  | some (.lit v)=>some (.lit v)
  | some .aK=>some .aK
  | some (.bm z n cs)=>some (.bm z n cs)
  | some (.own z n _)=>some (.a6 z ⟨t,[]⟩ n)
  | some (.obj (_::_))=>some (.ptr ⟨t,[]⟩ 0)
  | some (.cI cs)=>some (.cI cs)
  | some (.agg cs)=>match yb (λi x=>gx 1 ⟨t,[i]⟩ x) 0 num cs with
   | some r=>some (.agg r)
   | none=>none
  | some (.bW cs)=>match yb (λi x=>gx 1 ⟨t,[i]⟩ x) 0 num cs with
   | some r=>some (.bW r)
   | none=>none
  | some (.ptr p k)=>some (.ptr p k)
  | some (.a6 z p n)=>some (.a6 z p n)
  | some (.sub z p l n)=>some (.sub z p l n)
  | some (.bM z _ n m _)=>some (.a6 z ⟨t,[]⟩ (n+m))
  | some (.cW fn [] cs)=>some (.cW fn [] cs)
  | some (.mp _)=>some (.gB ⟨t,[]⟩)
  | some (.gB p)=>some (.gB p)
  | some (.imp q)=>some (.imp q)
  | _=>none
 | .const v=>match ofConst v with
  | .lit v=>some (.lit v)
  | .agg cs=>some (.agg cs)
  | .aK=>match v with
   | .slice none 0 0=>some .aK
   | _=>none
  | _=>none
 | .func f=>some (.cW (.func f) [] [])
 | .global _=>none
theorem Xh {v u:Value}(h:ofConst v=.lit u):u=v:=by
 cases v <;> simp only [ofConst,lR] at h <;> first | (cases h; rfl) | (split at h <;> cases h <;> rfl) | cases h
theorem Rd.q {g:aM}{a:Operand}{y:ab}(h:FH g a=some y:=by rfl):Rd g a y:=by
 unfold FH at h
 split at h
 ·split at h <;> first | (split at h <;> cases h <;> first | exact .agg ‹_› (by have:=Dl ‹_›; simpa [Place.push] using this) | exact .bW ‹_› (by have:=Dl ‹_›; simpa [Place.push] using this)) | skip
  all_goals cases h
  all_goals first | exact .lit ‹_› | exact .aK ‹_› | exact .bm ‹_› | exact .own ‹_› | exact .obj ‹_› | exact .cI ‹_› | exact .ptr ‹_› | exact .a6 ‹_› | exact .sub ‹_› | exact .bM ‹_› | exact .cW ‹_› | exact .mp ‹_› | exact .gB ‹_› | exact .imp ‹_›
 ·split at h
  ·rename_i e; cases h; have:=Xh e; subst this; exact .k e
  ·rename_i e; cases h; exact .JB e
  ·split at h <;> cases h
   exact .xD
  ·cases h
 ·cases h; exact .func
 ·cases h
def FK (g:aM) (t:Nat):Option ab :=
 match g t with
 | some (.lit v)=>some (.lit v)
 | some .aK=>some .aK
 | some (.bm z n cs)=>some (.bm z n cs)
 | some (.cI cs)=>some (.cI cs)
 | some (.cW fn [] cs)=>some (.cW fn [] cs)
 | some (.imp q)=>some (.imp q)
 | _=>none
theorem Rd.Ar {g:aM}{t:Nat}{y:ab}(h:FK g t=some y:=by rfl):Rd g (.tmp t) y:=by
 unfold FK at h
 split at h <;> cases h <;> first | exact .lit ‹_› | exact .aK ‹_› | exact .bm ‹_› | exact .cI ‹_› | exact .cW ‹_› | exact .imp ‹_›
class hs (P:Program) (t:TypeId) (α:outParam Type) (en:outParam (bJ α)):Prop where p:True:=trivial
class th {α:Type}(en:bJ α) (cs:List ab) (y:outParam α):Prop where p:en.cells y=cs
instance {a:Int}:th ai [ae a] a:=⟨rfl⟩
instance {a:Int}:th qi [q3 a] a:=⟨rfl⟩
instance {a:Bool}:th cr [a_ a] a:=⟨rfl⟩
instance {a:ByteArray}:th dx [ay a] a:=⟨rfl⟩
instance {α:Type}{en:bJ α}{l:List α}:th (bp en) [.bm en.z l.length (bo en l)] l:=⟨rfl⟩
class o9 {α:Type}(en:bJ α) (ys:List ab) (L:outParam (List α)):Prop where p:mm ys=some (bo en L)/\ys.all (λy=>match jS y with | some c=>Nat.beq c.length en.z | none=>false)=true/\L.length=ys.length
instance {α:Type}{en:bJ α}:o9 en [] []:=⟨⟨rfl,rfl,rfl⟩⟩
theorem o9.cons {α:Type}{en:bJ α}{y:ab}{cs:List ab}{ys:List ab}{a:α}{L:List α}(av:jS y=some cs) [h:th en cs a] [ak:o9 en ys L]:o9 en (y::ys) (a::L):=by
 refine ⟨⟨?_,?_,?_⟩⟩
 ·simp [mm,av,ak.p.1,bo,h.p]
 ·simp only [List.all_cons,av,ak.p.2.1,Bool.and_true];rw [<- h.p,en.len]; exact Nat.beq_refl _
 ·simp [ak.p.2.2]
instance {α:Type}{en:bJ α}{cs ys:List ab}{a:α}{L:List α} [h:th en cs a] [ak:o9 en ys L]:o9 en (.agg cs::ys) (a::L):=.cons rfl
instance {α:Type}{en:bJ α}{v:Value}{ys:List ab}{a:α}{L:List α} [h:th en [.lit v] a] [ak:o9 en ys L]:o9 en (.lit v::ys) (a::L):=.cons rfl
instance {α:Type}{en:bJ α}{z n:Nat}{cs:List ab}{ys:List ab}{a:α}{L:List α} [h:th en [.bm z n cs] a] [ak:o9 en ys L]:o9 en (.bm z n cs::ys) (a::L):=.cons rfl
def v_ (d:Nat):List Oper->Bool
 | []=>false
 | o::l=>(match o.op with
  | .call { callee:=.value _,args:=xs,argTypes:=_ }=>xs.toList.any λx=>match x with | .tmp t=>Nat.beq t d | _=>false
  | .call { callee:=.builtin .append,args:=xs,argTypes:=_ }=>match xs.toList with | [_,.tmp t]=>Nat.beq t d | _=>false
  | .convert _ _ (.tmp t)=>Nat.beq t d
  | .build _ ps=>ps.toList.any λx=>match x.2 with | .tmp t=>Nat.beq t d | _=>false
  | .buildSlice _ _ ps=>ps.toList.any λx=>match x.2 with | .tmp t=>Nat.beq t d | _=>false
  | _=>false)||v_ d l
class AS (P:Program):Prop where p:P.follows .mixedOrders=true:=by kernel_rfl
class kl (P:Program) (t:TypeId) (k:outParam Nat):Prop where p:ij P t k=true:=by kernel_rfl
class h2 (P:Program) (t:TypeId) (z:outParam Value):Prop where p:(P.info? t).bind (·.zero)=some z:=by kernel_rfl
class km (P:Program) (t:TypeId) (pl:outParam (List (Nat × Nat))):Prop where p:kA P t pl=true:=by kernel_rfl
class jk (P:Program) (t:TypeId) (e z b:outParam Nat):Prop where p:jG P t e z b=true:=by kernel_rfl
class AT (P:Program) (t:TypeId) (k:outParam IntKind):Prop where p:xt P t k=true:=by kernel_rfl
class yE (P:Program) (t:TypeId) (b:outParam Nat):Prop where p:(P.info? t).map (·.bytes)=some b:=by kernel_rfl
section
variable {α β:Type}{P:Program}{g:aM}{ty t t2:TypeId}{a b:Operand}{k r z n:Nat}{cs cs':List ab}{x y:ab}{p q:Place}{m:Int}{sY JC:IntKind}{e:TypeId}{N:c6}{ops:Array Oper}{gM:Nat}
theorem O.F_ (J:Rd g a y:=by exact .q) (aa:(jS y).bind lh=some cs:=by rfl):ch P g (.box e a) ty (.obj cs):=by
 cases av:jS y with
 | none=>rw [av] at aa; cases aa
 | some c=>rw [av] at aa; have:=xI aa; subst this; exact O.box J av
theorem O.ib {v:Value} [h:fN P t] (J:Rd g a (.ptr ⟨r,[]⟩ k):=by exact .q) (aC:g r=some (.obj cs):=by rfl) (aa:cs[k]?=some (.lit v):=by rfl):ch P g (.load t a) ty (.lit v):=O.oW aC J h.p aa
theorem O.hr [h:fN P t] (J:Rd g a (.cI cs):=by exact .q) (aa:cs.head?.bind s4=some x:=by rfl):ch P g (.load t a) ty x:=by
 cases av:cs.head? with
 | none=>rw [av] at aa; cases aa
 | some c=>rw [av] at aa; have:=vE aa; subst this; exact O.Cr J h.p av
theorem O.AF [h:fN P t] (J:Rd g a (.ptr ⟨r,[]⟩ k):=by exact .q) (aC:g r=some (.obj cs):=by rfl) (aa:cs[k]?=some x:=by rfl) (ax:s4 (gx 0 ⟨r,[k]⟩ x)=some y:=by rfl):ch P g (.load t a) ty y:=O.mA aC J h.p aa (vE ax)
theorem O.AG [h:kl P t z] (J:Rd g a (.ptr ⟨r,[]⟩ k):=by exact .q) (aC:g r=some (.obj cs):=by rfl) (hk:Nat.ble (k+z) cs.length=true:=by rfl) (aa:yb (λi x=>gx 0 ⟨r,[i]⟩ x) k (num.drop k) ((cs.drop k).take z)=some cs':=by rfl):ch P g (.load t a) ty (.agg cs'):=O.ek aC J h.p hk (Dl aa)
theorem O.Ge [h:kl P t z] (J:Rd g a (.cI cs):=by exact .q) (aa:lh (cs.take z)=some cs':=by rfl) (aY:cs'.length=z:=by rfl):ch P g (.load t a) ty (.agg cs'):=O.ng J h.p (xI aa) aY
theorem O.Gi {en:bJ α}{L:List α}{y:α}{o:Nat}{x x':ab} [aw:fN P t] (J:Rd g a (.ptr p (m.toNat * en.z+o)):=by exact .q) (au:bD g p=some (aj en L):=by rfl) (h:idx L m=some y:=by assumption) (aa:(en.cells y)[o]?=some x:=by rfl) (ao:s4 (gx 0 (p.push (m.toNat * en.z+o)) x)=some x':=by rfl):ch P g (.load t a) ty x':=O.iw au J aw.p h aa (vE ao)
theorem O.Gt {en:bJ α}{L:List α}{y:α}{o:Nat} [aw:kl P t z] (J:Rd g a (.ptr p (m.toNat * en.z+o)):=by exact .q) (au:bD g p=some (aj en L):=by rfl) (h:idx L m=some y:=by assumption) (aY:Nat.ble (o+z) en.z=true:=by rfl) (aa:lh ((((en.cells y).drop o).take z).mapIdx (λi x=>gx 0 (p.push (m.toNat * en.z+o+i)) x))=some cs':=by rfl):ch P g (.load t a) ty (.agg cs'):=O.W3 au J aw.p h aY (xI aa)
theorem O.Ga {cT f off:Nat} [h:c' P cT f off t] (J:Rd g a (.ptr ⟨r,[]⟩ k):=by exact .q) (aC:g r=some (.obj cs):=by rfl) (ak:Nat.blt (k+off) cs.length=true:=by rfl):ch P g (.fieldAddr cT a f) ty (.ptr ⟨r,[]⟩ (k+off)):=O.kt aC J h.p ak
theorem O.Gb {cT f off:Nat} [h:c' P cT f off t] (J:Rd g a (.cI cs):=by exact .q):ch P g (.fieldAddr cT a f) ty (.cI (cs.drop off)):=O.Bm J h.p
theorem O.wf {en:bJ α}{L:List α}{y:α}{cT f off o gj:Nat} [aW:c' P cT f off t] (J:Rd g a (.ptr p (m.toNat * en.z+o)):=by exact .q) (au:bD g p=some (aj en L):=by rfl) (h:idx L m=some y:=by assumption) (a1:o+off=gj:=by rfl) (aT:Nat.blt gj en.z=true:=by rfl):ch P g (.fieldAddr cT a f) ty (.ptr p (m.toNat * en.z+gj)):=O.ka au J aW.p h a1 aT
theorem O.Gd {en:bJ α}{L:List α}{y:α}{bE:Nat}(h:idx L m=some y) [aI:ep P t e bE] (J:Rd g a (.bm en.z L.length (bo en L)):=by exact .q) (ax:Rd g b (.lit (.int sY m)):=by exact .q) (aY:bE=en.z:=by rfl):ch P g (.indexAddr t a b) ty (.cI (en.cells y++bo en (L.drop (m.toNat+1)))):=O.rl J ax (aY ▸ aI.p) h
theorem O.yq {en:bJ α}{L:List α}{y:α}{bE:Nat}(h:idx L m=some y) [aI:ep P t e bE] (J:Rd g a (.a6 en.z p L.length):=by exact .q) (au:bD g p=some (aj en L):=by rfl) (ax:Rd g b (.lit (.int sY m)):=by exact .q) (aY:bE=en.z:=by rfl) (aR:Nat.blt 0 en.z=true:=by rfl):ch P g (.indexAddr t a b) ty (.ptr p (m.toNat * en.z+0)):=O.fY au J ax (aY ▸ aI.p) h aR
theorem O.Gr {p i:Nat}{cs:List ab}{x y:ab}(J:g p=some (.bW cs):=by rfl) (ax:cs[i]?=some x:=by rfl) (ao:s4 (gx 1 (Place.push ⟨p,[]⟩ i) x)=some y:=by rfl):ch P g (.extract (.tmp p) i) ty y:=O.ex J ax (vE ao)
theorem O.Gh [h1:AT P t sY] [af:AT P t2 JC] (J:Rd g a (.lit (.int sY m)):=by exact .q):ch P g (.convert t t2 a) ty (.lit (.int JC (JC.wrap m))):=O.S1 J h1.p af.p
theorem O.Gg {L:List Int}(J:Rd g a (.bm qi.z L.length (bo qi L)):=by exact .q) (aw:wI P t t2=true:=by kernel_rfl):ch P g (.convert t t2 a) ty (ay (strOfNums L)):=O.S0 J aw
theorem O.Gf {dJ:Value} [h:h2 P e dJ] (h1:dJ.cells.toList.all Value.oneCell'=true:=by rfl) (aa:lh (dJ.cells.toList.map lR)=some cs:=by rfl):ch P g (.alloc e) ty (.obj cs):=O.fp h.p h1 (xI aa)
theorem O.Gq {parts:Array (Nat × Operand)}{pl:List (Nat × Nat)}{dJ:Value}{ps:List (Nat × List ab)} [aw:km P t pl] [aY:h2 P t dJ] (h1:dJ.cells.toList.all Value.oneCell'=true:=by rfl)
  (au:rp g parts.toList=some ps:=by rfl) (aa:(u4 (λi=>pl[i]?) (dJ.cells.toList.map lR) ps).bind lh=some cs:=by rfl):ch P g (.build t parts) ty (.agg cs):=by
 cases av:u4 (λi=>pl[i]?) (dJ.cells.toList.map lR) ps with
 | none=>rw [av] at aa; cases aa
 | some c=>rw [av] at aa; have:=xI aa; subst this; exact O.ej aw.p aY.p h1 au av
theorem O.wd {cT f off:Nat} [h:c' P cT f off t] [aw:fN P t] (J:Rd g a (.agg cs):=by exact .agg rfl rfl) (ax:cs[off]?.bind s4=some x:=by rfl):ch P g (.field cT a f) ty x:=by
 cases av:cs[off]? with
 | none=>rw [av] at ax; cases ax
 | some c=>rw [av] at ax; have:=vE ax; subst this; exact O.fd J h.p aw.p av
theorem O.wp {en:bJ α}{L M r:List α}{bE:Nat}(h:da L M=some r) [aw:jk P t e bE gM] (aC:Rd g a (.a6 en.z p L.length):=by exact .q) (au:bD g p=some (aj en L):=by rfl) (J:Rd g b y:=by exact .q) (hm:n4 g en y M:=by (first | exact .i | exact .n | exact .o rfl rfl)) (aY:bE=en.z:=by rfl) (av:Nat.ble gM 128=true:=by rfl) [e9:qY g]:ch P g (.call { callee:=.builtin .append,args:=#[a,b],argTypes:=#[t,t] }) ty (.bM en.z p L.length M.length (bo en M)) :=
 O.ap aC au J hm (aY ▸ aw.p) av h
def xF:List ab->Option (List Value)
 | []=>some []
 | .lit v::l=>match xF l with
  | some r=>some (v::r)
  | none=>none
 | _=>none
theorem Cu:∀ {l:List ab}{r:List Value},xF l=some r->l=r.map .lit
 | [],r,h=>by cases h; rfl
 | x::l,r,h=>by
  unfold xF at h
  split at h
  ·rename_i e; cases e
  ·rename_i e;cases e
   split at h
   ·rename_i dm ao;cases h; rw [Cu ao]; rfl
   ·cases h
  ·cases h
def yh:List Value->Option (List n3)
 | []=>some []
 | v::l=>match yh l,me v with
  | some r,some u=>some (u::r)
  | _,_=>none
theorem Dn:∀ {l:List Value}{r:List n3},yh l=some r->l.map me=r.map some
 | [],r,h=>by cases h; rfl
 | v::l,r,h=>by
  unfold yh at h
  split at h
  ·rename_i s' u ao aC;cases h; simp [Dn ao,aC]
  ·cases h
theorem O.oy {Bb j_:List ab}{va vb:List Value}{eQ:List n3}(J:Rd g a (.agg Bb):=by exact .q) (ax:Rd g b (.agg j_):=by exact .q) (zz:xF Bb=some va:=by rfl) (Cb:xF j_=some vb:=by rfl) (aP:yh va=some eQ:=by rfl) (av:yh vb=some eQ:=by rfl) (aw:tI P t eQ=true:=by kernel_rfl):ch P g (.binOp .eql t a b t2) ty (a_ (lG va vb)):=O.Bj (Cu zz ▸ J) (Cu Cb ▸ ax) (Dn aP) (Dn av) aw
theorem O.wn {Bb j_:List ab}{va vb:List Value}{eQ:List n3}(J:Rd g a (.agg Bb):=by exact .q) (ax:Rd g b (.agg j_):=by exact .q) (zz:xF Bb=some va:=by rfl) (Cb:xF j_=some vb:=by rfl) (aP:yh va=some eQ:=by rfl) (av:yh vb=some eQ:=by rfl) (aw:tI P t eQ=true:=by kernel_rfl):ch P g (.binOp .neq t a b t2) ty (a_ (!lG va vb)):=O.Xd (Cu zz ▸ J) (Cu Cb ▸ ax) (Dn aP) (Dn av) aw
theorem O.Gk {en:bJ α}{z0:α}{r:List α}{bE:Nat}{dJ:Value}(h:ni m z0=some r) [het:hs P t α en] [aw:ep P t e bE] [hzero:h2 P e dJ] [iO:yE P e gM] (J:Rd g a (.lit (.int sY m)):=by exact .q) (ax:Rd g b (.lit (.int .i64 m)):=by exact .q) (h1:dJ.cells.toList.all Value.oneCell'=true:=by rfl) (aa:dJ.cells.toList.map lR=en.cells z0:=by rfl) (aY:bE=en.z:=by rfl) (av:Nat.ble gM 128=true:=by rfl):ch P g (.makeSlice t a b) ty (aj en r) :=
 O.mk (aY ▸ aw.p) J ax hzero.p h1 aa h iO.p av
theorem O.wl {en:bJ α}{bE:Nat} [het:hs P t α en] [aw:ep P t e bE] (aY:bE=en.z:=by rfl) (hzero:ic P e en.z=true:=by kernel_rfl):ch P g (.buildSlice t 0 #[]) ty (aj en ([]:List α)) :=
 O.dc (ys:=[]) en [] (aY ▸ aw.p) rfl rfl rfl rfl rfl rfl hzero (by rw [Nat.zero_mul]; rfl) rfl
theorem O.Gl {en:bJ α}{M r:List α}{bE:Nat}(h:da [] M=some r) [aw:jk P t e bE gM] (aC:Rd g a .aK:=by exact .q) (J:Rd g b y:=by exact .q) (hm:n4 g en y M:=by (first | exact .i | exact .n | exact .o rfl rfl)) (aY:bE=en.z:=by rfl) (av:Nat.ble gM 128=true:=by rfl):ch P g (.call { callee:=.builtin .append,args:=#[a,b],argTypes:=#[t,t] }) ty (aj en M) :=
 O.Rw aC J hm (aY ▸ aw.p) av h
theorem O.Gm {en:bJ α}{L r:List α}{c:Operand}{n:Int}{k:IntKind}{bE:Nat}(h:nW L 0 n=some r) [aw:ep P t e bE] (J:Rd g a (.bm en.z L.length (bo en L)):=by exact .q) (bY:Rd g c (.lit (.int k n)):=by exact .q) (aY:bE=en.z:=by rfl):ch P g (.slice t a none (some c) none) ty (ag en r):=O.Yw J bY (aY ▸ aw.p) h
theorem O.Gn {en:bJ α}{L r:List α}{k:IntKind}{bE:Nat}(h:nW L m L.length=some r) [aw:ep P t e bE] (J:Rd g a (.bm en.z L.length (bo en L)):=by exact .q) (ak:Rd g b (.lit (.int k m)):=by exact .q) (aY:bE=en.z:=by rfl):ch P g (.slice t a (some b) none none) ty (ag en r):=O.Yx J ak (aY ▸ aw.p) h
theorem O.Gp {en:bJ α}{L r:List α}{c:Operand}{n:Int}{k pN:IntKind}{bE:Nat}(h:nW L m n=some r) [aw:ep P t e bE] (J:Rd g a (.bm en.z L.length (bo en L)):=by exact .q) (ak:Rd g b (.lit (.int k m)):=by exact .q) (bY:Rd g c (.lit (.int pN n)):=by exact .q) (aY:bE=en.z:=by rfl):ch P g (.slice t a (some b) (some c) none) ty (ag en r):=O.Yv J ak bY (aY ▸ aw.p) h
def E9:List Nat->List Nat->Bool
 | [],[]=>true
 | a::l,b::m=>Nat.beq a b&&E9 l m
 | _,_=>false
def FE (p q:Place):Bool:=!(Nat.beq p.root q.root&&E9 p.path q.path)
theorem OH:∀ (l:List Nat),E9 l l=true
 | []=>rfl
 | a::l=>by unfold E9; rw [OH l,Nat.beq_refl]; rfl
theorem Po {p q:Place}(h:FE p q=true):p≠q:=by
 rintro rfl;unfold FE at h;rw [Nat.beq_refl,OH] at h;cases h
def vG (p:Place):List (Nat × ab)->Bool
 | []=>true
 | (_,.bM _ q _ _ _)::l=>FE p q&&vG p l
 | _::l=>vG p l
theorem JT {p:Place}:∀ {G:List (Nat × ab)},vG p G=true->∀ t z n m new,get G t≠some (.bM z p n m new)
 | [],_,t,z,n,m,new,e=>by cases e
 | (s,x)::G,h,t,z,n,m,new,e=>by
  simp only [get] at e
  split at e
  ·cases e;unfold vG at h;rw [Bool.and_eq_true] at h;exact Po h.1 rfl
  ·refine JT (G:=G) ?_ t z n m new e;unfold vG at h
   split at h
   ·rename_i cf; cases cf
   ·rename_i cf; cases cf; rw [Bool.and_eq_true] at h; exact h.2
   ·rename_i cf; cases cf; exact h
def xK (p:Place):Acc->Bool
 | []=>true
 | (_,_,some (.bM _ q _ _ _))::l=>FE p q&&xK p l
 | _::l=>xK p l
theorem OW {p:Place}{G:List (Nat × ab)}{A:Nat->Bool}(c_:vG p G=true):∀ {acc:Acc},xK p acc=true->∀ t z n m new,dh (get G) A acc t≠some (.bM z p n m new)
 | [],_,t,z,n,m,new,e=>JT c_ t z n m new e
 | (k,d,r)::acc,h,t,z,n,m,new,e=>by
  have af:xK p acc=true:=by
   unfold xK at h
   split at h
   ·rename_i cf; cases cf
   ·rename_i cf; cases cf; rw [Bool.and_eq_true] at h; exact h.2
   ·rename_i cf; cases cf; exact h
  simp only [dh] at e
  split at e
  ·split at e
   ·subst e;unfold xK at h;rw [Bool.and_eq_true] at h;exact Po h.1 rfl
   ·cases e
  ·exact OW c_ af t z n m new e
theorem O.wr {en:bJ α}{L M r:List α}{bE:Nat}{G:List (Nat × ab)}(h:da L M=some r) [aw:jk P t e bE gM] (aC:Rd (get G) a (.a6 en.z p L.length):=by exact .q) (au:bD (get G) p=some (aj en L):=by rfl) (J:Rd (get G) b y:=by exact .q) (hm:n4 (get G) en y M:=by (first | exact .i | exact .n | exact .o rfl rfl)) (aY:bE=en.z:=by rfl) (av:Nat.ble gM 128=true:=by rfl) (bg:vG p G=true:=by rfl):ch P (get G) (.call { callee:=.builtin .append,args:=#[a,b],argTypes:=#[t,t] }) ty (.bM en.z p L.length M.length (bo en M)) :=
 O.tv aC au J hm (aY ▸ aw.p) av h (JT bg)
theorem O.Qv {en:bJ α}{L M r:List α}{bE:Nat}{G:List (Nat × ab)}{A:Nat->Bool}{acc:Acc}(h:da L M=some r) [aw:jk P t e bE gM] (aC:Rd (dh (get G) A acc) a (.a6 en.z p L.length):=by exact .q) (au:bD (dh (get G) A acc) p=some (aj en L):=by rfl) (J:Rd (dh (get G) A acc) b y:=by exact .q) (hm:n4 (dh (get G) A acc) en y M:=by (first | exact .i | exact .n | exact .o rfl rfl)) (aY:bE=en.z:=by rfl) (av:Nat.ble gM 128=true:=by rfl) (bg:vG p G=true:=by rfl) (VK:xK p acc=true:=by rfl):ch P (dh (get G) A acc) (.call { callee:=.builtin .append,args:=#[a,b],argTypes:=#[t,t] }) ty (.bM en.z p L.length M.length (bo en M)) :=
 O.tv aC au J hm (aY ▸ aw.p) av h (OW bg VK)
instance {s:Nat}{x:ab}{G:List (Nat × ab)} [h:pa s (get G)]:pa s (get ((s,x)::G)):=(pk (G:=G) (d:=s) (v:=x)) ▸ (inferInstance:pa s (cV (get G) s x))
instance {s d:Nat}{x:ab}{G:List (Nat × ab)} [h:pa s (get G)] [J:nt x]:pa s (get ((d,x)::G)):=(pk (G:=G) (d:=d) (v:=x)) ▸ (inferInstance:pa s (cV (get G) d x))
theorem O.F' {en:bJ α}{L M M2 r:List α}{bE s:Nat}(h:da (L++M) M2=some r) [aw:jk P t e bE gM] (aC:Rd g a (.a6 en.z ⟨s,[]⟩ (L.length+M.length)):=by exact .q) (qt:g s=some (.bM en.z q L.length M.length (bo en M)):=by rfl) (au:bD g q=some (aj en L):=by rfl) (J:Rd g b y:=by exact .q) (hm:n4 g en y M2:=by (first | exact .i | exact .n | exact .o rfl rfl)) (aY:bE=en.z:=by rfl) (av:Nat.ble gM 128=true:=by rfl) [e9:pa s g]:ch P g (.call { callee:=.builtin .append,args:=#[a,b],argTypes:=#[t,t] }) ty (.bM en.z ⟨s,[]⟩ (L.length+M.length) M2.length (bo en M2)) :=
 O.D3 aC qt au J hm (aY ▸ aw.p) av h
theorem O.Gs {en:bJ β}{r:List (List β)}{bE:Nat}{dJ:Value}(h:ni m ([]:List β)=some r) [het:hs P t (List β) (bp en)] [aw:ep P t e bE] [hzero:h2 P e dJ] [iO:yE P e gM] (J:Rd g a (.lit (.int sY m)):=by exact .q) (ax:Rd g b (.lit (.int .i64 m)):=by exact .q) (h1:dJ.cells.toList.all Value.oneCell'=true:=by rfl) (aa:dJ.cells.toList.map lR=[.aK]:=by rfl) (aY:bE=(bp en).z:=by rfl) (av:Nat.ble gM 128=true:=by rfl):ch P g (.makeSlice t a b) ty (aj (bp en) r) :=
 O.W_ (aY ▸ aw.p) J ax hzero.p h1 aa h iO.p av
theorem O.eW {en:bJ α}{L:List α}{y:α}{bE:Nat} [aI:ep P t e bE] (J:Rd g a (.bm en.z L.length (bo en L)):=by exact .q) (ax:Rd g b (.lit (.int sY m)):=by exact .q) (aY:bE=en.z:=by rfl) (h:idx L m=some y:=by assumption):ch P g (.indexAddr t a b) ty (.cI (en.cells y++bo en (L.drop (m.toNat+1)))):=O.rl J ax (aY ▸ aI.p) h
theorem O.Gj {en:bJ α}{L:List α}{y:α}{bE:Nat} [aI:ep P t e bE] (J:Rd g a (.a6 en.z p L.length):=by exact .q) (au:bD g p=some (aj en L):=by rfl) (ax:Rd g b (.lit (.int sY m)):=by exact .q) (aY:bE=en.z:=by rfl) (aR:Nat.blt 0 en.z=true:=by rfl) (h:idx L m=some y:=by assumption):ch P g (.indexAddr t a b) ty (.ptr p (m.toNat * en.z+0)):=O.fY au J ax (aY ▸ aI.p) h aR
end
def Co (GI:List (Nat × ab)) (ex:List Nat) (P8:List Nat):List (Nat × ab)->Option (List Nat)
 | []=>some []
 | (k,x)::l=>match Co GI ex (k::P8) l with
  | none=>none
  | some r=>match !ex.elem k&&!P8.elem k&&(match x with | .ptr ⟨q,[]⟩ _=>!ex.elem q&&(match get GI q with | some (.obj _)=>true | _=>false) | _=>false) with
   | true=>some (k::r)
   | false=>some r
def oX (g g2:aM) (r:Nat):List (Nat × ab)->Bool
 | []=>true
 | (s,.ptr ⟨q,[]⟩ k)::l=>!Nat.beq s r&&(match g q,g2 q with | some (.obj cs),some (.obj kr)=>Nat.blt k cs.length&&Nat.blt k kr.length | _,_=>false)&&oX g g2 r l
 | _=>false
theorem O7 {g g2:aM}{r:Nat}{s:Nat}{x:ab}{l:List (Nat × ab)}(h:oX g g2 r ((s,x)::l)=true):(∃ q k cs kr,x=.ptr ⟨q,[]⟩ k/\Nat.beq s r=false/\g q=some (.obj cs)/\Nat.blt k cs.length=true/\g2 q=some (.obj kr)/\Nat.blt k kr.length=true)/\oX g g2 r l=true:=by
 unfold oX at h
 split at h
 ·rename_i e; cases e
 ·rename_i cT q k vC e;cases e;rw [Bool.and_eq_true,Bool.and_eq_true] at h;obtain ⟨⟨h1,af⟩,aI⟩:=h
  split at af
  ·rename_i cs kr cz cf;rw [Bool.and_eq_true] at af;exact ⟨⟨q,k,cs,kr,rfl,by simpa using h1,cz,af.1,cf,af.2⟩,aI⟩
  ·cases af
 ·cases h
theorem MR {g:aM}{r s:Nat}{x y:ab}(h:Nat.beq s r=false) (J:cV g r x s=some y):g s=some y:=by
 unfold cV at J;rw [if_neg (by rintro rfl; rw [Nat.beq_refl] at h; cases h)] at J;exact J
theorem Dc {g:aM}{k:Nat}{ks:List Nat}{G1:List (Nat × ab)}(h:pick g (k::ks)=some G1):∃ x l,g k=some x/\pick g ks=some l/\G1=(k,x)::l:=by
 unfold pick at h
 split at h
 ·rename_i x J
  split at h
  ·rename_i l ak;cases h; exact ⟨x,l,J,ak,rfl⟩
  ·cases h
 ·cases h
theorem Ao {g g2:aM}{r:Nat}{cs2:List ab}{T:List (Nat × ab)}(dL:k5 g g2 r cs2 T):∀ {ks:List Nat}{G1:List (Nat × ab)},pick (cV g r (.obj cs2)) ks=some G1->(∀ e∈G1,cU e.2)->k5 g g2 r cs2 (G1++T)
 | [],_,h,_=>by cases h; exact dL
 | k::ks,G1,h,aF=>by
  obtain ⟨x,l,J,ak,rfl⟩:=Dc h;have aU:=Ao dL ak λe h=>aF e (by simp [h]);have gh:=aF (k,x) (by simp);by_cases e:Nat.beq k r=true
  ·have:=Nat.eq_of_beq_eq_true e;subst this;simp only [cV,if_true] at J;cases J;have:dp cs2:=⟨by cases gh with | obj h=>exact h⟩;exact .b rfl aU
  ·have:cg x:=⟨gh⟩;have e:=Bool.eq_false_iff.2 e;exact .n e (MR e J) aU
theorem Ap {g g2:aM}{r:Nat}{cs2:List ab}:∀ {ks:List Nat}{G1:List (Nat × ab)},pick (cV g r (.obj cs2)) ks=some G1->oX g g2 r G1=true->k5 g g2 r cs2 G1
 | [],_,h,_=>by cases h; exact .nil
 | k::ks,G1,h,aF=>by
  obtain ⟨x,l,J,ak,rfl⟩:=Dc h;obtain ⟨⟨q,j,cs,kr,rfl,h1,af,aI,bK,cH⟩,ei⟩:=O7 aF;exact .p h1 (MR h1 J) af aI bK cH (Ap ak ei)
theorem FB {g g2:aM}{ex:List Nat}{T:List (Nat × ab)}(dL:mN ex g g2 T):∀ {ks:List Nat}{G1:List (Nat × ab)},pick g ks=some G1->(ks.all λk=>!ex.elem k)=true->(∀ e∈G1,cU e.2)->mN ex g g2 (G1++T)
 | [],_,h,_,_=>by cases h; exact dL
 | k::ks,G1,h,he,aF=>by
  obtain ⟨x,l,J,ak,rfl⟩:=Dc h;rw [List.all_cons,Bool.and_eq_true] at he;have:cg x:=⟨aF (k,x) (by simp)⟩;exact .n (by simpa using he.1) J (FB dL ak he.2 λe h=>aF e (by simp [h]))
theorem FC {g g2:aM}{ex:List Nat}{r:Nat}:∀ {ks:List Nat}{G1:List (Nat × ab)},pick g ks=some G1->(ks.all λk=>!ex.elem k)=true->oX g g2 r G1=true->mN ex g g2 G1
 | [],_,h,_,_=>by cases h; exact .nil
 | k::ks,G1,h,he,aF=>by
  obtain ⟨x,l,J,ak,rfl⟩:=Dc h;rw [List.all_cons,Bool.and_eq_true] at he;obtain ⟨⟨q,j,cs,kr,rfl,h1,af,aI,bK,cH⟩,ei⟩:=O7 aF;exact .p (by simpa using he.1) J bK cH (FC ak he.2 ei)
def rP:List (Nat × ab)->List (Nat × ab)->Option (List (Nat × ab))
 | [],T=>some T
 | p::l,T=>match rP l T with
  | some r=>some (p::r)
  | none=>none
theorem tw:∀ {l T r:List (Nat × ab)},rP l T=some r->r=l++T
 | [],_,_,h=>by cases h; rfl
 | p::l,T,r,h=>by
  unfold rP at h
  split at h
  ·rename_i dm ao;cases h; rw [tw ao]; rfl
  ·cases h
theorem rQ {m:Option (List ab)}{ys:List ab}(h:m.bind lh=some ys):m=some ys:=by
 cases av:m with
 | none=>rw [av] at h; cases h
 | some c=>rw [av] at h; rw [xI h]
theorem cB.mG {P:Program}{g:aM}{xs:List Operand}{gq:Array TypeId}{f:FuncId}{ys args:List ab}{outs:List (Option ab)}{res:ab}(J:(gn g xs).bind lh=some ys) (hv:oG g ys args) (gQ:bV P f args outs res) [ao:p7 res] (aW:gN P f=true:=by kernel_rfl) (a1:sm outs=true:=by rfl):cB P g (.call { callee:=.value (.func f),args:=xs.toArray,argTypes:=gq }) res:=cB.vw (rQ J) hv gQ aW a1
def oB (ks hQ:List Nat) (P:Program) (N:c6) (g:aM) (o:Oper) (g':aM):Prop:=bk P N g o g'
section
variable {α:Type}{P:Program}{N:c6}{ops:Array Oper}{g:aM}{K:aM->Prop}{l:List Oper}{d r k0 s:Nat}{ty t:TypeId}{pos:String}{after:Array Edge}{a b x:Operand}{cs cs' jr cs2:List ab}{y:ab}{G2 ih h4:List (Nat × ab)}{u:Option (Nat × Bool)}{p q:Place}{ks hQ:List Nat}{en:bJ α}{L M:List α}
theorem hT.gp (aP:Rd g a (.ptr ⟨r,[]⟩ k0):=by exact .q) (aC:g r=some (.obj cs):=by rfl) (av:Rd g b (.agg cs'):=by exact .q) (he:o0 cs k0 cs'=some cs2:=by rfl) (au:pick (cV g r (.obj cs2)) ks=some ih:=by rfl) (bg:pick (cV g r (.obj cs2)) hQ=some h4:=by rfl) (c_:rP ih h4=some G2:=by rfl) (dd:oX g (get G2) r h4=true:=by rfl) (aY:hl P t cs'.length=true:=by kernel_rfl) (aR:Nat.blt 0 cs'.length=true:=by rfl) (ao:(get G2 r).isSome=true:=by rfl) [aF:dp cs'] [e9:dp cs] [aO:iA ih]:oB ks hQ P N g ⟨none,.store t a b,ty,pos,after,none⟩ (get G2) :=
 .jh rfl rfl aC aP av rfl aY (Nat.ble_eq_true_of_le (lV he).2) aR (lV he).1 ao (by have:=tw c_; subst this; exact Ao (Ap bg dd) au aO.p)
theorem hT.nq (aP:Rd g a (.ptr ⟨r,[]⟩ k0):=by exact .q) (aC:g r=some (.obj cs):=by rfl) (av:Rd g b y:=by exact .q) (aa:oL y=some [y]:=by rfl) (he:o0 cs k0 [y]=some cs2:=by rfl) (au:pick (cV g r (.obj cs2)) ks=some ih:=by rfl) (bg:pick (cV g r (.obj cs2)) hQ=some h4:=by rfl) (c_:rP ih h4=some G2:=by rfl) (dd:oX g (get G2) r h4=true:=by rfl) (aY:hl P t 1=true:=by kernel_rfl) (ao:(get G2 r).isSome=true:=by rfl) [aF:cg y] [e9:dp cs] [aO:iA ih]:oB ks hQ P N g ⟨none,.store t a b,ty,pos,after,none⟩ (get G2) :=
 .jh rfl rfl aC aP av aa aY (Nat.ble_eq_true_of_le (lV he).2) rfl (lV he).1 ao (by have:=tw c_; subst this; exact Ao (Ap bg dd) au aO.p)
theorem hT.jH (J:Rd g x (.a6 en.z p L.length):=by exact .q) (au:bD g p=some (aj en L):=by rfl) (hk:pick g ks=some ih:=by rfl) (dq:(ks.all λk=>![p.root].elem k)=true:=by rfl) (bg:pick g hQ=some h4:=by rfl) (c_:rP ih h4=some G2:=by rfl) (BS:(hQ.all λk=>![p.root].elem k)=true:=by rfl) (dd:oX g (get G2) 1000000 h4=true:=by rfl) (aO:get G2 d=none:=by rfl) (bc:N.ok d=true:=by rfl) [aF:iA ih]:oB ks hQ P N g ⟨some d,.assign x,ty,pos,after,u⟩ (cV (get G2) d (aj en L)) :=
 .yW rfl rfl J au (by have:=tw c_; subst this; exact FB (FC bg BS dd) hk dq aF.p) aO bc
theorem hT.Rl (J:Rd g x y:=by exact .q) (hk:pick g ks=some G2:=by rfl) (aO:get G2 d=none:=by rfl) (bc:N.ok d=true:=by rfl) [ax:cg y] [aF:iA G2]:oB ks hQ P N g ⟨some d,.assign x,ty,pos,after,u⟩ (cV (get G2) d y) :=
 .A6 rfl rfl J (.f .nil) .refl (uB hk aF.p) aO bc
theorem hT.uZ (J:Rd g x (.a6 en.z ⟨s,[]⟩ (L.length+M.length)):=by exact .q) (aC:g s=some (.bM en.z q L.length M.length (bo en M)):=by rfl) (au:bD g q=some (aj en L):=by rfl) (hk:pick g ks=some ih:=by rfl) (dq:(ks.all λk=>![s,q.root].elem k)=true:=by rfl) (IQ:pick g hQ=some h4:=by rfl) (c_:rP ih h4=some G2:=by rfl) (BS:(hQ.all λk=>![s,q.root].elem k)=true:=by rfl) (dd:oX g (get G2) 1000000 h4=true:=by rfl) (bg:Nat.beq q.root s=false:=by rfl) (aO:get G2 d=none:=by rfl) (bc:N.ok d=true:=by rfl) [aF:iA ih]:oB ks hQ P N g ⟨some d,.assign x,ty,pos,after,u⟩ (cV (get G2) d (aj en (L++M))) :=
 .Ls rfl rfl J aC au bg (by have:=tw c_; subst this; exact FB (FC IQ BS dd) hk dq aF.p) aO bc
theorem hT.rF {jj y2:α}{m:Int}{o:Nat}{eA x2 y0:ab}(aP:Rd g a (.ptr p (m.toNat * en.z+o)):=by exact .q) (au:bD g p=some (aj en L):=by rfl) (h:idx L m=some jj:=by assumption) (av:Rd g b y:=by exact .q) (aa:oL y=some cs':=by rfl) (he:e5 (en.cells jj) o cs'=en.cells y2:=by rfl) (iH:cv g p (aj en (L.set m.toNat y2)) p.root=some eA:=by rfl) (iu:Fi eA=some x2:=by rfl) (hk:pick (cV g p.root x2) ks=some G2:=by rfl) (aY:hl P t cs'.length=true:=by kernel_rfl) (hlen:Nat.ble (o+cs'.length) en.z=true:=by rfl) (aR:Nat.blt 0 cs'.length=true:=by rfl) (ao:(get G2 p.root).isSome=true:=by rfl) (rk:g p.root=some y0:=by rfl) [aF:cg y] [e9:cg y0] [aO:iA G2]:oB ks hQ P N g ⟨none,.store t a b,ty,pos,after,none⟩ (get G2) :=
 .td rfl rfl aP av au h aY aa he hlen aR (by rw [iH,OT iu]) ao rk (J' hk aO.p)
theorem hT.P0 {g1:aM}{bx:ab}(av:Rd g b y) (aw:e6 g [y] [bx] g1) (aP:Rd g a (.ptr ⟨r,[]⟩ k0):=by exact .q) (aa:oL bx=some cs':=by rfl) (aC:g1 r=some (.obj jr):=by rfl) (he:o0 jr k0 cs'=some cs2:=by rfl) (hk:pick (cV g1 r (.obj cs2)) ks=some ih:=by rfl) (fW:pick (cV g1 r (.obj cs2)) hQ=some h4:=by rfl) (c_:rP ih h4=some G2:=by rfl) (dd:oX g1 (get G2) r h4=true:=by rfl) (aY:hl P t cs'.length=true:=by kernel_rfl) (aR:Nat.blt 0 cs'.length=true:=by rfl) (ao:(get G2 r).isSome=true:=by rfl) [e9:dp jr] [aO:iA ih]:oB ks hQ P N g ⟨none,.store t a b,ty,pos,after,none⟩ (get G2) :=
 .pY rfl rfl aP av aw .refl aa aY aC (Nat.ble_eq_true_of_le (lV he).2) aR (lV he).1 ao (by have:=tw c_; subst this; exact Ao (Ap fW dd) hk aO.p)
theorem hT.mO {g1:aM}{bx:ab}(av:Rd g x y) (aw:e6 g [y] [bx] g1) (hk:pick g1 ks=some G2:=by rfl) (aO:get G2 d=none:=by rfl) (bc:N.ok d=true:=by rfl) [aF:iA G2]:oB ks hQ P N g ⟨some d,.assign x,ty,pos,after,u⟩ (cV (get G2) d bx) :=
 .A6 rfl rfl av aw .refl (uB hk aF.p) aO bc
theorem hT.D3 {M2:List α}{s2:Nat}(J:Rd g x (.a6 en.z ⟨s,[]⟩ (L.length+M2.length+M.length)):=by exact .q) (aC:g s=some (.bM en.z ⟨s2,[]⟩ (L.length+M2.length) M.length (bo en M)):=by rfl) (lf:g s2=some (.bM en.z q L.length M2.length (bo en M2)):=by rfl) (au:bD g q=some (aj en L):=by rfl) (bg:Nat.beq q.root s=false:=by rfl) (uf:Nat.beq q.root s2=false:=by rfl) (B7:Nat.beq s s2=false:=by rfl) (hk:pick g ks=some ih:=by rfl) (dq:(ks.all λk=>![s,s2,q.root].elem k)=true:=by rfl) (IQ:pick g hQ=some h4:=by rfl) (c_:rP ih h4=some G2:=by rfl) (BS:(hQ.all λk=>![s,s2,q.root].elem k)=true:=by rfl) (dd:oX g (get G2) 1000000 h4=true:=by rfl) (aO:get G2 d=none:=by rfl) (bc:N.ok d=true:=by rfl) [aF:iA ih]:oB ks hQ P N g ⟨some d,.assign x,ty,pos,after,u⟩ (cV (get G2) d (aj en (L++M2++M))) :=
 .Rh rfl rfl J aC lf au bg uf B7 (by have:=tw c_; subst this; exact FB (FC IQ BS dd) hk dq aF.p) aO bc
theorem hT.sp (av:Rd g b (.a6 en.z ⟨s,[]⟩ (L.length+M.length)):=by exact .q) (qt:g s=some (.bM en.z q L.length M.length (bo en M)):=by rfl) (au:bD g q=some (aj en L):=by rfl) (aP:Rd g a (.ptr ⟨r,[]⟩ k0):=by exact .q) (aC:cv (cv g ⟨s,[]⟩ .dead) q .dead r=some (.obj jr):=by rfl) (he:o0 jr k0 [aj en (L++M)]=some cs2:=by rfl) (hk:pick (cV (cv (cv g ⟨s,[]⟩ .dead) q .dead) r (.obj cs2)) ks=some ih:=by rfl) (fW:pick (cV (cv (cv g ⟨s,[]⟩ .dead) q .dead) r (.obj cs2)) hQ=some h4:=by rfl) (c_:rP ih h4=some G2:=by rfl) (dd:oX (cv (cv g ⟨s,[]⟩ .dead) q .dead) (get G2) r h4=true:=by rfl) (bg:Nat.beq q.root s=false:=by rfl) (aY:hl P t 1=true:=by kernel_rfl) (ao:(get G2 r).isSome=true:=by rfl) [e9:dp jr] [aO:iA ih]:oB ks hQ P N g ⟨none,.store t a b,ty,pos,after,none⟩ (get G2) :=
 .F5 rfl rfl aP av qt au bg .ky .hX rfl rfl aY aC (Nat.ble_eq_true_of_le (lV he).2) (lV he).1 ao (by have:=tw c_; subst this; exact Ao (Ap fW dd) hk aO.p)
theorem hT.te (av:Rd g b (.a6 en.z p L.length):=by exact .q) (au:bD g p=some (aj en L):=by rfl) (aP:Rd g a (.ptr ⟨r,[]⟩ k0):=by exact .q) (aC:cv g p .dead r=some (.obj jr):=by rfl) (he:o0 jr k0 [aj en L]=some cs2:=by rfl) (hk:pick (cV (cv g p .dead) r (.obj cs2)) ks=some ih:=by rfl) (fW:pick (cV (cv g p .dead) r (.obj cs2)) hQ=some h4:=by rfl) (c_:rP ih h4=some G2:=by rfl) (dd:oX (cv g p .dead) (get G2) r h4=true:=by rfl) (aY:hl P t 1=true:=by kernel_rfl) (ao:(get G2 r).isSome=true:=by rfl) [e9:dp jr] [aO:iA ih]:oB ks hQ P N g ⟨none,.store t a b,ty,pos,after,none⟩ (get G2) :=
 .pY rfl rfl aP av (.r au .nil) .refl rfl aY aC (Nat.ble_eq_true_of_le (lV he).2) rfl (lV he).1 ao (by have:=tw c_; subst this; exact Ao (Ap fW dd) hk aO.p)
end
def E':Nat->List (Option ab)->Option (Nat × List ab)
 | _,[]=>none
 | k,some (.obj cs)::_=>some (k,cs)
 | k,none::l=>E' (k+1) l
 | _,_=>none
def JH (g:aM) (xs:List Operand) (k:Nat):Option Nat :=
 match xs[k]? with
 | some (.tmp t)=>match g t with
  | some (.ptr ⟨r,[]⟩ 0)=>some r
  | some (.obj _)=>some t
  | _=>none
 | _=>none
theorem hT.nh {P:Program}{N:c6}{g:aM}{d r k0:Nat}{ty:TypeId}{pos:String}{after:Array Edge}{u:Option (Nat × Bool)}{f:FuncId}{xs:List Operand}{gq:Array TypeId}{ys args cs cs':List ab}{outs:List (Option ab)}{res:ab}{ks:List Nat}{G2:List (Nat × ab)}
  (gQ:bV P f args outs res) (ak:E' 0 outs=some (k0,cs')) (ao:JH g xs k0=some r) (au:pick (cv g ⟨r,[]⟩ .dead) ks=some G2) (J:(gn g xs).bind lh=some ys) (aP:ns r cs k0 0 ys args) (aC:g r=some (.obj cs):=by rfl) (he:outs=uu args.length k0 (.obj cs'):=by rfl) (lL:Nat.blt k0 ys.length=true:=by rfl) (aW:gN P f=true:=by kernel_rfl) (aO:get G2 d=none:=by rfl) (r9:Nat.beq r d=false:=by rfl) (B0:pick (get ((r,.obj cs')::G2)) ks=some G2:=by rfl) (bc:N.ok d=true:=by rfl) [e9:dp cs] [ec:cg res] [BT:dp cs'] [aF:iA G2] :
  bk P N g ⟨some d,.call { callee:=.value (.func f),args:=xs.toArray,argTypes:=gq },ty,pos,after,u⟩ (get ((d,res)::(r,.obj cs')::G2)) :=
 .call rfl bc (hJ.nh (A:=[]) rfl rfl (rQ J) aC aP lL (he ▸ gQ) aW (uB au aF.p) aO r9 (uB B0 aF.p) .nil bc)
def q6:Acc->List (Nat × ab)->List (Nat × ab)
 | [],G=>G
 | (_,d,some x)::acc,G=>(d,x)::q6 acc G
 | (_,_,none)::acc,G=>q6 acc G
def cP (ef:List Nat) (P:Program) (N:c6) (ops:Array Oper) (bd:List (List Nat)) (g0:aM) (i:Nat) (acc:Acc) (l:List Oper) (K:aM->Prop):Prop:=bz P N ops bd g0 i acc l K
section
variable {α β:Type}{P:Program}{N:c6}{ops:Array Oper}{bd:List (List Nat)}{acc:Acc}{E ks:List Nat}{t x y z:lx}{A B c:Code}{G G1 G2:List (Nat × ab)}{g:aM}{g':aM}{Φ oA:Exit->aM->Prop}{Ψ:aM->Prop}{K:aM->Prop}{id k s d i bG j cT:Nat}{b cm:Bool}{l:List Oper}{o:Oper}{op:Op}{ty yn:TypeId}{pos:String}{after:Array Edge}{v y':ab}{u:Option (Nat × Bool)}{a aE a2:Operand}
theorem cM.Ya (h:cM E t P N .ret G Φ):cM E t P N .ret G Φ:=h
theorem ar.ts (h:ar P N ops (⟨none,.store ty aE a2,yn,pos,after,u⟩::l) g K):ar P N ops (⟨none,.store ty aE a2,yn,pos,after,u⟩::l) g K:=h
theorem cP.ts {ef:List Nat}(h:cP ef P N ops bd g i acc (⟨none,.store ty aE a2,yn,pos,after,u⟩::l) K):cP ef P N ops bd g i acc (⟨none,.store ty aE a2,yn,pos,after,u⟩::l) K:=h
theorem cP.bN (op:Op) (u:Option (Nat × Bool)) {ef:List Nat}(h:cP ef P N ops bd g i acc (⟨some d,op,ty,pos,after,u⟩::l) K):cP ef P N ops bd g i acc (⟨some d,op,ty,pos,after,u⟩::l) K:=h
theorem cP.nl {ef:List Nat}(h:cP ef P N ops bd g i acc [] K):cP ef P N ops bd g i acc [] K:=h
def FJ (g:aM) (d:Nat):Operand->Option ab
 | .tmp t=>bif Nat.beq t d then none else FK g t
 | .const v=>FH g (.const v)
 | _=>none
theorem Rd.pR {g:aM}{a:Operand}{y:ab}(h:FJ g d a=some y):Rd (del g d) a y:=by
 unfold FJ at h
 split at h
 ·rename_i t;cases av:Nat.beq t d with
  | true=>rw [av] at h; cases h
  | false =>
   rw [av] at h;have dq:t≠d:=Nat.ne_of_beq_eq_false av;refine Rd.Ar ?_;unfold FK at h ⊢;simpa [del,dq] using h
 ·exact .q (by unfold FH at h ⊢; exact h)
 ·cases h
theorem Ra {y':ab}(J:FJ (get G) d a=some v) (aW:get G d=some y') (ak:leaf y'=true) (hk:ar P N ops l (get ((d,v)::G)) K) (bc:N.ok d=true:=by rfl):ar P N ops (⟨some d,.assign a,ty,pos,after,none⟩::l) (get G) K:=.over (.assign (Rd.pR J).bt) bc aW ak (pk ▸ hk)
theorem Rb {y':ab}(J:FJ (get G) d a=some v) (aW:get G d=some y') (ak:leaf y'=true) (hk:ar P N ops l (get ((d,v)::G)) K) (bc:N.ok d=true:=by rfl):ar P N ops (⟨some d,.move a,ty,pos,after,none⟩::l) (get G) K:=.over (.move (Rd.pR J).bt) bc aW ak (pk ▸ hk)
theorem QX {hQ:List Nat}(lL:sZ [] G=some ks) (hb:Co G [] [] G=some hQ) (he:oB ks hQ P N (get G) o (get G2)) (hk:ar P N ops l (get G2) K) (aO:o.guard=none:=by rfl):ar P N ops (o::l) (get G) K:=.kL aO he hk
theorem QV {f:FuncId}{xs:List Operand}{gq:Array TypeId}{ys args cs cs':List ab}{outs:List (Option ab)}{res:ab}{r k0:Nat}(gQ:bV P f args outs res) (ak:E' 0 outs=some (k0,cs')) (ao:JH (get G) xs k0=some r) (hk:sZ [r,d] G=some ks) (au:pick (cv (get G) ⟨r,[]⟩ .dead) ks=some G2) (J:(gn (get G) xs).bind lh=some ys) (aP:ns r cs k0 0 ys args) (dj:ar P N ops l (get ((d,res)::(r,.obj cs')::G2)) K) (aC:get G r=some (.obj cs):=by rfl) (he:outs=uu args.length k0 (.obj cs'):=by rfl) (lL:Nat.blt k0 ys.length=true:=by rfl) (aW:gN P f=true:=by kernel_rfl) (aO:get G2 d=none:=by rfl) (r9:Nat.beq r d=false:=by rfl) (B0:pick (get ((r,.obj cs')::G2)) ks=some G2:=by rfl) (bc:N.ok d=true:=by rfl) [e9:dp cs] [ec:cg res] [BT:dp cs'] [aF:iA G2] :
  ar P N ops (⟨some d,.call { callee:=.value (.func f),args:=xs.toArray,argTypes:=gq },ty,pos,after,none⟩::l) (get G) K:=.kL rfl (hT.nh gQ ak ao au J aP aC he lL aW aO r9 B0 bc) dj
theorem QO {ef:List Nat}{f:FuncId}{xs:List Operand}{gq:Array TypeId}{ys args cs cs':List ab}{outs:List (Option ab)}{res:ab}{r k0:Nat}(gQ:bV P f args outs res) (ak:E' 0 outs=some (k0,cs')) (ao:JH (dh (get G) (λ_=>true) acc) xs k0=some r) (hk:sZ [r,d] (q6 acc G)=some ks) (au:pick (cv (dh (get G) (λ_=>true) acc) ⟨r,[]⟩ .dead) ks=some G2) (J:(gn (dh (get G) (λ_=>true) acc) xs).bind lh=some ys) (aP:ns r cs k0 0 ys args) (dj:cP ef P N ops bd (get ((d,res)::(r,.obj cs')::G2)) (bG+1) [] l K) (aC:dh (get G) (λ_=>true) acc r=some (.obj cs):=by rfl) (he:outs=uu args.length k0 (.obj cs'):=by rfl) (lL:Nat.blt k0 ys.length=true:=by rfl) (aW:gN P f=true:=by kernel_rfl) (aO:get G2 d=none:=by rfl) (r9:Nat.beq r d=false:=by rfl) (B0:pick (get ((r,.obj cs')::G2)) ks=some G2:=by rfl) (bc:N.ok d=true:=by rfl) [e9:dp cs] [ec:cg res] [BT:dp cs'] [aF:iA G2] (gR:rn ((acc.filterMap j0).map Place.root)=true:=by rfl) (fH:mb G=true:=by rfl) (ah:Nat.beq ops.size (bG+l.length+1)=true:=by rfl)
  (zi:(List.range bG).all (λk=>(bd.getD bG []).contains k)=true:=by kernel_rfl) (av:(List.range ops.size).all (λk=>Nat.ble k bG||(bd.getD k []).contains bG)=true:=by kernel_rfl) :
  cP (bG::ef) P N ops bd (get G) i acc (⟨some d,.call { callee:=.value (.func f),args:=xs.toArray,argTypes:=gq },ty,pos,after,none⟩::l) K:=bz.wF bG (hT.nh gQ ak ao au J aP aC he lL aW aO r9 B0 bc) rfl gR fH ah zi av dj
theorem QW {hQ:List Nat}(lL:sZ (d::roots G a) G=some ks) (hb:Co G (d::roots G a) [] G=some hQ) (he:oB ks hQ P N (get G) ⟨some d,.assign a,ty,pos,after,none⟩ (cV (get G2) d v)) (hk:ar P N ops l (get ((d,v)::G2)) K):ar P N ops (⟨some d,.assign a,ty,pos,after,none⟩::l) (get G) K:=.q9 rfl he (pk ▸ hk)
theorem Q9 {L:List α}{f:List α->Option β}{Kl:β}{M:List α}{e dz bE:Nat}{hc:TypeId}{parts:Array (Nat × Operand)}{ys:List ab}{en:bJ α}(h:(da L M).bind f=some Kl) [het:hs P hc α en] [aw:ep P hc e bE] (hk:ar P N ops l (get ((d,ag en M)::G)) K) (J:(gn (get G) (parts.toList.map (·.2))).bind lh=some ys:=by rfl) (aa:mm ys=some (bo en M):=by rfl) (aY:ys.all (λy=>match jS y with | some c=>Nat.beq c.length en.z | none=>false)=true:=by rfl) (au:parts.toList=(parts.toList.map (·.2)).mapIdx (λi x=>(i,x)):=by rfl) (kO:(parts.toList.map (·.2)).length=dz:=by rfl) (ak:M.length=dz:=by rfl) (nH:bE=en.z:=by rfl) (hzero:ic P e en.z=true:=by kernel_rfl) (av:Nat.ble (dz * en.z) 16777216=true:=by rfl) (gH:Nat.ble dz 16777216=true:=by rfl) [hv:i' (aj en M) (ag en M)] (bc:N.ok d=true:=by rfl) (aW:get G d=none:=by rfl):ar P N ops (⟨some d,.buildSlice hc dz parts,ty,pos,after,none⟩::l) (get G) K :=
 .fh (O.dc en M (nH ▸ aw.p) (rQ J) aa aY au kO ak hzero av gH) bc aW .none (pk ▸ hk)
theorem Lr (M:List α) {e dz bE:Nat}{hc:TypeId}{parts:Array (Nat × Operand)}{ys:List ab}{en:bJ α}(aC:v_ d l=false) [het:hs P hc α en] [aw:ep P hc e bE] (hk:ar P N ops l (get ((d,aj en M)::G)) K) (J:(gn (get G) (parts.toList.map (·.2))).bind lh=some ys:=by rfl) (aa:mm ys=some (bo en M):=by rfl) (aY:ys.all (λy=>match jS y with | some c=>Nat.beq c.length en.z | none=>false)=true:=by rfl) (au:parts.toList=(parts.toList.map (·.2)).mapIdx (λi x=>(i,x)):=by rfl) (kO:(parts.toList.map (·.2)).length=dz:=by rfl) (ak:M.length=dz:=by rfl) (nH:bE=en.z:=by rfl) (hzero:ic P e en.z=true:=by kernel_rfl) (av:Nat.ble (dz * en.z) 16777216=true:=by rfl) (gH:Nat.ble dz 16777216=true:=by rfl) (bc:N.ok d=true:=by rfl) (aW:get G d=none:=by rfl):ar P N ops (⟨some d,.buildSlice hc dz parts,ty,pos,after,none⟩::l) (get G) K :=
 ez (O.dc en M (nH ▸ aw.p) (rQ J) aa aY au kO ak hzero av gH) hk bc aW
theorem Q_ {M:List α}{e dz bE:Nat}{hc:TypeId}{parts:Array (Nat × Operand)}{ys:List ab}{en:bJ α}(aC:v_ d l=true) [het:hs P hc α en] [aw:ep P hc e bE] (hk:ar P N ops l (get ((d,ag en M)::G)) K) (J:(gn (get G) (parts.toList.map (·.2))).bind lh=some ys:=by rfl) [aS:o9 en ys M] (au:parts.toList=(parts.toList.map (·.2)).mapIdx (λi x=>(i,x)):=by rfl) (kO:(parts.toList.map (·.2)).length=dz:=by rfl) (ak:ys.length=dz:=by rfl) (nH:bE=en.z:=by rfl) (hzero:ic P e en.z=true:=by kernel_rfl) (av:Nat.ble (dz * en.z) 16777216=true:=by rfl) (gH:Nat.ble dz 16777216=true:=by rfl) [hv:i' (aj en M) (ag en M)] (bc:N.ok d=true:=by rfl) (aW:get G d=none:=by rfl):ar P N ops (⟨some d,.buildSlice hc dz parts,ty,pos,after,none⟩::l) (get G) K :=
 .fh (O.dc en M (nH ▸ aw.p) (rQ J) aS.p.1 aS.p.2.1 au kO (aS.p.2.2.trans ak) hzero av gH) bc aW .none (pk ▸ hk)
theorem Q' {M:List α}{e dz bE:Nat}{hc:TypeId}{parts:Array (Nat × Operand)}{ys:List ab}{en:bJ α}(aC:v_ d l=false) [het:hs P hc α en] [aw:ep P hc e bE] (hk:ar P N ops l (get ((d,aj en M)::G)) K) (J:(gn (get G) (parts.toList.map (·.2))).bind lh=some ys:=by rfl) [aS:o9 en ys M] (au:parts.toList=(parts.toList.map (·.2)).mapIdx (λi x=>(i,x)):=by rfl) (kO:(parts.toList.map (·.2)).length=dz:=by rfl) (ak:ys.length=dz:=by rfl) (nH:bE=en.z:=by rfl) (hzero:ic P e en.z=true:=by kernel_rfl) (av:Nat.ble (dz * en.z) 16777216=true:=by rfl) (gH:Nat.ble dz 16777216=true:=by rfl) (bc:N.ok d=true:=by rfl) (aW:get G d=none:=by rfl):ar P N ops (⟨some d,.buildSlice hc dz parts,ty,pos,after,none⟩::l) (get G) K :=
 ez (O.dc en M (nH ▸ aw.p) (rQ J) aS.p.1 aS.p.2.1 au kO (aS.p.2.2.trans ak) hzero av gH) hk bc aW
theorem ey {ef:List Nat}(au:ch P (jA bd g bG acc) op ty v) (hk:cP ef P N ops bd g i ((bG,d,some v)::acc) l K) (ah:Nat.beq ops.size (bG+l.length+1)=true:=by rfl) (aW:g d=none:=by rfl) (aF:acc.all (λe=>!Nat.beq e.2.1 d)=true:=by rfl) (bc:N.ok d=true:=by rfl):cP (bG::ef) P N ops bd g i acc (⟨some d,op,ty,pos,after,none⟩::l) K:=aD _ au hk ah aW aF bc
theorem eG {ef:List Nat}(au:ch P (jA bd g bG acc) op ty v) (hk:cP ef P N ops bd g i ((bG,d,some v)::acc) l K) (h:(ops[j]?).bind (·.dst)=some cT:=by rfl) (aO:jA bd g bG acc cT=some (.lit (.bool cm)):=by rfl) (av:cm=b:=by (first | rfl | assumption)) (ah:Nat.beq ops.size (bG+l.length+1)=true:=by rfl) (aW:g d=none:=by rfl) (aF:acc.all (λe=>!Nat.beq e.2.1 d)=true:=by rfl) (bc:N.ok d=true:=by rfl):cP (bG::ef) P N ops bd g i acc (⟨some d,op,ty,pos,after,some (j,b)⟩::l) K:=.v _ au ah aW aF bc (.fi h aO av) hk
theorem K6 {ef:List Nat}(au:cB P (jA bd g bG acc) op v) (hk:cP ef P N ops bd g i ((bG,d,some v)::acc) l K) (ah:Nat.beq ops.size (bG+l.length+1)=true:=by rfl) (aW:g d=none:=by rfl) (aF:acc.all (λe=>!Nat.beq e.2.1 d)=true:=by rfl) (bc:N.ok d=true:=by rfl):cP (bG::ef) P N ops bd g i acc (⟨some d,op,ty,pos,after,none⟩::l) K:=.c _ au ah aW aF bc .none hk
theorem K5 {ef:List Nat}(au:cB P (jA bd g bG acc) op v) (hk:cP ef P N ops bd g i ((bG,d,some v)::acc) l K) (h:(ops[j]?).bind (·.dst)=some cT:=by rfl) (aO:jA bd g bG acc cT=some (.lit (.bool cm)):=by rfl) (av:cm=b:=by (first | rfl | assumption)) (ah:Nat.beq ops.size (bG+l.length+1)=true:=by rfl) (aW:g d=none:=by rfl) (aF:acc.all (λe=>!Nat.beq e.2.1 d)=true:=by rfl) (bc:N.ok d=true:=by rfl):cP (bG::ef) P N ops bd g i acc (⟨some d,op,ty,pos,after,some (j,b)⟩::l) K:=.c _ au ah aW aF bc (.fi h aO av) hk
theorem QS {ef:List Nat}(hk:cP ef P N ops bd g i ((bG,d,some (.bW []))::acc) l K) (h:(ops[j]?).bind (·.dst)=some cT:=by rfl) (aO:jA bd g bG acc cT=some (.lit (.bool cm)):=by rfl) (av:cm=!b:=by (first | rfl | assumption)) (ah:Nat.beq ops.size (bG+l.length+1)=true:=by rfl) (aW:g d=none:=by rfl) (aF:acc.all (λe=>!Nat.beq e.2.1 d)=true:=by rfl) (bc:N.ok d=true:=by rfl):cP (bG::ef) P N ops bd g i acc (⟨some d,op,ty,pos,after,some (j,b)⟩::l) K:=.ps _ h aO av ah aW aF bc hk
theorem QU {ef:List Nat}(hk:cP ef P N ops bd g i ((bG,d,some (.bW []))::acc) l K) (h:(ops[j]?).bind (·.dst)=some cT:=by rfl) (aO:jA bd g bG acc cT=some (.bW []):=by rfl) (ah:Nat.beq ops.size (bG+l.length+1)=true:=by rfl) (aW:g d=none:=by rfl) (aF:acc.all (λe=>!Nat.beq e.2.1 d)=true:=by rfl) (bc:N.ok d=true:=by rfl):cP (bG::ef) P N ops bd g i acc (⟨some d,op,ty,pos,after,some (j,b)⟩::l) K:=.pu _ h aO ah aW aF bc hk
theorem QM {ef:List Nat}{L:List α}{f:List α->Option β}{Kl:β}{M:List α}{e dz bE:Nat}{hc:TypeId}{parts:Array (Nat × Operand)}{ys:List ab}{en:bJ α}(h:(da L M).bind f=some Kl) [het:hs P hc α en] [aw:ep P hc e bE] (hk:cP ef P N ops bd g i ((bG,d,some (ag en M))::acc) l K) (J:(gn (jA bd g bG acc) (parts.toList.map (·.2))).bind lh=some ys:=by rfl) (aa:mm ys=some (bo en M):=by rfl) (aY:ys.all (λy=>match jS y with | some c=>Nat.beq c.length en.z | none=>false)=true:=by rfl) (au:parts.toList=(parts.toList.map (·.2)).mapIdx (λi x=>(i,x)):=by rfl) (kO:(parts.toList.map (·.2)).length=dz:=by rfl) (ak:M.length=dz:=by rfl) (nH:bE=en.z:=by rfl) (hzero:ic P e en.z=true:=by kernel_rfl) (av:Nat.ble (dz * en.z) 16777216=true:=by rfl) (gH:Nat.ble dz 16777216=true:=by rfl) [hv:i' (aj en M) (ag en M)] (ah:Nat.beq ops.size (bG+l.length+1)=true:=by rfl) (aW:g d=none:=by rfl) (aF:acc.all (λe=>!Nat.beq e.2.1 d)=true:=by rfl) (bc:N.ok d=true:=by rfl):cP (bG::ef) P N ops bd g i acc (⟨some d,.buildSlice hc dz parts,ty,pos,after,none⟩::l) K :=
 bz.fh bG (O.dc en M (nH ▸ aw.p) (rQ J) aa aY au kO ak hzero av gH) ah aW aF bc .none hk
theorem QT {ef:List Nat}(M:List α) {e dz bE:Nat}{hc:TypeId}{parts:Array (Nat × Operand)}{ys:List ab}{en:bJ α}(aC:v_ d l=true) [het:hs P hc α en] [aw:ep P hc e bE] (hk:cP ef P N ops bd g i ((bG,d,some (ag en M))::acc) l K) (J:(gn (jA bd g bG acc) (parts.toList.map (·.2))).bind lh=some ys:=by rfl) (aa:mm ys=some (bo en M):=by rfl) (aY:ys.all (λy=>match jS y with | some c=>Nat.beq c.length en.z | none=>false)=true:=by rfl) (au:parts.toList=(parts.toList.map (·.2)).mapIdx (λi x=>(i,x)):=by rfl) (kO:(parts.toList.map (·.2)).length=dz:=by rfl) (ak:M.length=dz:=by rfl) (nH:bE=en.z:=by rfl) (hzero:ic P e en.z=true:=by kernel_rfl) (av:Nat.ble (dz * en.z) 16777216=true:=by rfl) (gH:Nat.ble dz 16777216=true:=by rfl) [hv:i' (aj en M) (ag en M)] (ah:Nat.beq ops.size (bG+l.length+1)=true:=by rfl) (aW:g d=none:=by rfl) (aF:acc.all (λe=>!Nat.beq e.2.1 d)=true:=by rfl) (bc:N.ok d=true:=by rfl):cP (bG::ef) P N ops bd g i acc (⟨some d,.buildSlice hc dz parts,ty,pos,after,none⟩::l) K :=
 bz.fh bG (O.dc en M (nH ▸ aw.p) (rQ J) aa aY au kO ak hzero av gH) ah aW aF bc .none hk
theorem K7 {ef:List Nat}(M:List α) {e dz bE:Nat}{hc:TypeId}{parts:Array (Nat × Operand)}{ys:List ab}{en:bJ α}(aC:v_ d l=false) [het:hs P hc α en] [aw:ep P hc e bE] (hk:cP ef P N ops bd g i ((bG,d,some (aj en M))::acc) l K) (J:(gn (jA bd g bG acc) (parts.toList.map (·.2))).bind lh=some ys:=by rfl) (aa:mm ys=some (bo en M):=by rfl) (aY:ys.all (λy=>match jS y with | some c=>Nat.beq c.length en.z | none=>false)=true:=by rfl) (au:parts.toList=(parts.toList.map (·.2)).mapIdx (λi x=>(i,x)):=by rfl) (kO:(parts.toList.map (·.2)).length=dz:=by rfl) (ak:M.length=dz:=by rfl) (nH:bE=en.z:=by rfl) (hzero:ic P e en.z=true:=by kernel_rfl) (av:Nat.ble (dz * en.z) 16777216=true:=by rfl) (gH:Nat.ble dz 16777216=true:=by rfl) (ah:Nat.beq ops.size (bG+l.length+1)=true:=by rfl) (aW:g d=none:=by rfl) (aF:acc.all (λe=>!Nat.beq e.2.1 d)=true:=by rfl) (bc:N.ok d=true:=by rfl):cP (bG::ef) P N ops bd g i acc (⟨some d,.buildSlice hc dz parts,ty,pos,after,none⟩::l) K :=
 ey (O.dc en M (nH ▸ aw.p) (rQ J) aa aY au kO ak hzero av gH) hk ah aW aF bc
theorem QN {ef:List Nat}{M:List α}{e dz bE:Nat}{hc:TypeId}{parts:Array (Nat × Operand)}{ys:List ab}{en:bJ α}(aC:v_ d l=true) [het:hs P hc α en] [aw:ep P hc e bE] (hk:cP ef P N ops bd g i ((bG,d,some (ag en M))::acc) l K) (J:(gn (jA bd g bG acc) (parts.toList.map (·.2))).bind lh=some ys:=by rfl) [aS:o9 en ys M] (au:parts.toList=(parts.toList.map (·.2)).mapIdx (λi x=>(i,x)):=by rfl) (kO:(parts.toList.map (·.2)).length=dz:=by rfl) (ak:ys.length=dz:=by rfl) (nH:bE=en.z:=by rfl) (hzero:ic P e en.z=true:=by kernel_rfl) (av:Nat.ble (dz * en.z) 16777216=true:=by rfl) (gH:Nat.ble dz 16777216=true:=by rfl) [hv:i' (aj en M) (ag en M)] (ah:Nat.beq ops.size (bG+l.length+1)=true:=by rfl) (aW:g d=none:=by rfl) (aF:acc.all (λe=>!Nat.beq e.2.1 d)=true:=by rfl) (bc:N.ok d=true:=by rfl):cP (bG::ef) P N ops bd g i acc (⟨some d,.buildSlice hc dz parts,ty,pos,after,none⟩::l) K :=
 bz.fh bG (O.dc en M (nH ▸ aw.p) (rQ J) aS.p.1 aS.p.2.1 au kO (aS.p.2.2.trans ak) hzero av gH) ah aW aF bc .none hk
theorem QQ {ef:List Nat}{M:List α}{e dz bE:Nat}{hc:TypeId}{parts:Array (Nat × Operand)}{ys:List ab}{en:bJ α}(aC:v_ d l=false) [het:hs P hc α en] [aw:ep P hc e bE] (hk:cP ef P N ops bd g i ((bG,d,some (aj en M))::acc) l K) (J:(gn (jA bd g bG acc) (parts.toList.map (·.2))).bind lh=some ys:=by rfl) [aS:o9 en ys M] (au:parts.toList=(parts.toList.map (·.2)).mapIdx (λi x=>(i,x)):=by rfl) (kO:(parts.toList.map (·.2)).length=dz:=by rfl) (ak:ys.length=dz:=by rfl) (nH:bE=en.z:=by rfl) (hzero:ic P e en.z=true:=by kernel_rfl) (av:Nat.ble (dz * en.z) 16777216=true:=by rfl) (gH:Nat.ble dz 16777216=true:=by rfl) (ah:Nat.beq ops.size (bG+l.length+1)=true:=by rfl) (aW:g d=none:=by rfl) (aF:acc.all (λe=>!Nat.beq e.2.1 d)=true:=by rfl) (bc:N.ok d=true:=by rfl):cP (bG::ef) P N ops bd g i acc (⟨some d,.buildSlice hc dz parts,ty,pos,after,none⟩::l) K :=
 ey (O.dc en M (nH ▸ aw.p) (rQ J) aS.p.1 aS.p.2.1 au kO (aS.p.2.2.trans ak) hzero av gH) hk ah aW aF bc
theorem QR {ef:List Nat}{hQ:List Nat}(lL:sZ [] (q6 acc G)=some ks) (hb:Co (q6 acc G) [] [] (q6 acc G)=some hQ) (he:oB ks hQ P N (dh (get G) (λ_=>true) acc) o (get G2)) (hk:cP ef P N ops bd (get G2) (bG+1) [] l K) (aO:o.guard=none:=by rfl) (gR:rn ((acc.filterMap j0).map Place.root)=true:=by rfl) (fH:mb G=true:=by rfl) (ah:Nat.beq ops.size (bG+l.length+1)=true:=by rfl)
  (aP:(List.range bG).all (λk=>(bd.getD bG []).contains k)=true:=by kernel_rfl) (av:(List.range ops.size).all (λk=>Nat.ble k bG||(bd.getD k []).contains bG)=true:=by kernel_rfl):cP (bG::ef) P N ops bd (get G) i acc (o::l) K:=.wF _ he aO gR fH ah aP av hk
theorem QP {ef:List Nat}{hQ:List Nat}(lL:sZ (d::roots (q6 acc G) a) (q6 acc G)=some ks) (hb:Co (q6 acc G) (d::roots (q6 acc G) a) [] (q6 acc G)=some hQ) (he:oB ks hQ P N (dh (get G) (λ_=>true) acc) ⟨some d,.assign a,ty,pos,after,none⟩ (cV (get G2) d v)) (hk:cP ef P N ops bd (get ((d,v)::G2)) (bG+1) [] l K) (gR:rn ((acc.filterMap j0).map Place.root)=true:=by rfl) (fH:mb G=true:=by rfl) (ah:Nat.beq ops.size (bG+l.length+1)=true:=by rfl)
  (aP:(List.range bG).all (λk=>(bd.getD bG []).contains k)=true:=by kernel_rfl) (av:(List.range ops.size).all (λk=>Nat.ble k bG||(bd.getD k []).contains bG)=true:=by kernel_rfl):cP (bG::ef) P N ops bd (get G) i acc (⟨some d,.assign a,ty,pos,after,none⟩::l) K:=.bv _ he rfl gR fH ah aP av hk
theorem bz.Mv {K:aM->Prop}(aY:acc.filterMap j0=[]) (fH:mb G=true) (hi:Nat.ble i ops.size=true) (dj:K (dh (get G) (λ_=>true) acc)):bz P N ops bd (get G) i acc [] K:=by
 intro dV j cx kP k_;have ah:j=ops.size:=by
  have h1:ops.size<=j:=by
   have:=congrArg List.length k_;rw [List.length_drop,List.length_nil,Array.length_toList] at this;omega
  have aI:j<=ops.size:=by
   cases kP with
   | nil=>exact Nat.le_of_ble_eq_true hi
   | step _ a1=>have:=(Array.getElem?_eq_some_iff.1 a1).1; omega
  omega
 subst ah;exact ⟨_,.fin kP (by rw [aY]; exact List.nodup_nil) (vH fH),dj⟩
theorem QL {ef:List Nat}{DJ:lx->List (Nat × ab)->Prop}(lL:JD E [] (q6 acc G)=some ks) (au:pick (dh (get G) (λ_=>true) acc) ks=some G1) [aF:iA G1] (hk:DJ t G1) (aY:acc.filterMap j0=[]:=by rfl) (fH:mb G=true:=by rfl) (hi:Nat.ble i ops.size=true:=by rfl):cP ef P N ops bd (get G) i acc [] (yL E t DJ) :=
 .Mv aY fH hi ⟨G1,(uB (c:=true) (g2:=get G1) au aF.p).eW,hk⟩
theorem QK {ef:List Nat}{F:α->List (Nat × ab)}{j v:α}(h:some v=some j) (aw:Trim true (dh (get G) (λ_=>true) acc) (get (F v)) (F v)) (aY:acc.filterMap j0=[]:=by rfl) (fH:mb G=true:=by rfl) (hi:Nat.ble i ops.size=true:=by rfl):cP ef P N ops bd (get G) i acc [] (rL F j .normal):=by
 cases h; exact .Mv aY fH hi ⟨rfl,.eW aw.eW .hX⟩
theorem cM.rd [hm:AS P] (h:cP num P N l.toArray bd (get G) 0 [] l (yL E y λt G1=>cM E t P N B G1 Φ)) (et:pf l.toArray bd=true:=by kernel_rfl):cM E (.rd id bd y) P N (.seq (.region id l.toArray true) B) G Φ:=by
 obtain ⟨g',h1,G1,af,aI⟩:=h [] 0 .nil .nil (by simp);exact W.seq ((gf.draw hm.p et h1).w (W.weaken af aI))
theorem cM.bS {m:Option α}{f:α->Option β}{r:β}{L c9:α->List (Nat × ab)} [hm:AS P] (h:m.bind f=some r) (h1:∀ j,m=some j->cP num P N l.toArray bd (get G) 0 [] l (rL c9 j .normal)) (af:∀ j,m=some j->f j=some r->cM E y P N B (c9 j) Φ)
  (aN:∀ j,pick (pR (L j) G) ks=some (c9 j):=by intro j; rfl) (et:pf l.toArray bd=true:=by kernel_rfl):cM E (.bS id bd ks L y) P N (.seq (.region id l.toArray true) B) G Φ:=by
 obtain ⟨j,ah,h⟩:=k7 h;obtain ⟨g',cz,_,fO⟩:=h1 j ah [] 0 .nil .nil (by simp);exact W.seq ((gf.draw hm.p et cz).w (W.be (af j ah h) fO))
theorem cM.XZ [hm:AS P] (h:cP num P N l.toArray bd (get G) 0 [] l (yL E y λt G1=>er E t .normal Φ G1)) (et:pf l.toArray bd=true:=by kernel_rfl):cM E (.rd id bd y) P N (.region id l.toArray true) G Φ:=by
 obtain ⟨g',h1,G1,af,aI⟩:=h [] 0 .nil .nil (by simp);exact (gf.draw hm.p et h1).w (aI g' (.eW af .hX))
theorem cM.X4 {m:Option α}{f:α->Option β}{r:β}{L c9:α->List (Nat × ab)} [hm:AS P] (h:m.bind f=some r) (h1:∀ j,m=some j->cP num P N l.toArray bd (get G) 0 [] l (rL c9 j .normal)) (af:∀ j,m=some j->f j=some r->er E y .normal Φ (c9 j))
  (aN:∀ j,pick (pR (L j) G) ks=some (c9 j):=by intro j; rfl) (et:pf l.toArray bd=true:=by kernel_rfl):cM E (.bS id bd ks L y) P N (.region id l.toArray true) G Φ:=by
 obtain ⟨j,ah,h⟩:=k7 h;obtain ⟨g',cz,_,fO⟩:=h1 j ah [] 0 .nil .nil (by simp);exact (gf.draw hm.p et cz).w (af j ah h _ fO)
theorem cM.X3 {m:Option α}{f:α->Option β}{r:β}{L c9:α->List (Nat × ab)}(h:m.bind f=some r) (h1:∀ j,m=some j->ar P N l.toArray l (get G) (rL c9 j .normal)) (af:∀ j,m=some j->f j=some r->er E y .normal Φ (c9 j))
  (aN:∀ j,pick (pR (L j) G) ks=some (c9 j):=by intro j; rfl):cM E (.ev id ks L y) P N (.region id l.toArray false) G Φ:=by
 obtain ⟨j,ah,h⟩:=k7 h;exact W.Ax λi hi=>by
  obtain ⟨g',cz,_,fO⟩:=h1 j ah i hi;exact ⟨g',cz,af j ah h _ fO⟩
theorem cM.gw {S R gL:Type}{f:S->Option (S ⊕ (R ⊕ gL))}{s:S}{HE:R ⊕ gL->Option β}{r:β}{F c9:S->List (Nat × ab)}{ks sk Cp:List Nat}{X mj:R->List (Nat × ab)}{Y tt:gL->List (Nat × ab)}(h:(b4 f s).bind HE=some r)
  (av:∀ s o,f s=some o->cM E x P N c (c9 s) (k4 c9 (AW id mj tt) o)) (J:∀ dm,HE (.inl dm)=some r->er E y (.exit id) Φ (mj dm)) (ax:∀ dm,HE (.inr dm)=some r->er E z .ret Φ (tt dm))
  (aN:∀ s,pick (pR (F s) G) ks=some (c9 s):=by intro s; rfl) (tP:∀ s,pick (pR (X s) G) sk=some (mj s):=by intro s; rfl) (wZ:∀ s,pick (pR (Y s) G) Cp=some (tt s):=by intro s; rfl) (aw:Trim true (get G) (get (c9 s)) (c9 s):=by (repeat' first | exact .nil | refine .n rfl ?_ | refine .w rfl rfl .pP ?_ | refine .w rfl rfl .pO ?_ | refine .w rfl rfl (j9.obj (by (repeat' first | exact .nil | refine .f ?_ | refine .o ?_ | refine .i ?_))) ?_)) :
  cM E (.gw F ks id X sk Y Cp x y z) P N (.loop c) G Φ:=by
 obtain ⟨dm,ak,h⟩:=k7 h;exact W.dC aw (W.OJ c9 id mj tt ak av (λq e=>J q (e ▸ h)) (λq e=>ax q (e ▸ h)))
theorem er.x2 {S R gL:Type}{r:R}{o:S ⊕ (R ⊕ gL)}{F:S->List (Nat × ab)}{X:R->List (Nat × ab)}{Y:gL->List (Nat × ab)}(h:some (.inr (.inl r))=some o) (aw:Trim true (get G) (get (X r)) (X r)):er E t (.exit id) (k4 F (AW id X Y) o) G:=by
 cases h; exact aA.x2 aw
theorem er.j1 {S R gL:Type}{r:gL}{o:S ⊕ (R ⊕ gL)}{F:S->List (Nat × ab)}{X:R->List (Nat × ab)}{Y:gL->List (Nat × ab)}(h:some (.inr (.inr r))=some o) (aw:Trim true (get G) (get (Y r)) (Y r)):er E t .ret (k4 F (AW id X Y) o) G:=by
 cases h; exact aA.j1 aw
end
section
variable {P:Program}{N:c6}{E:List Nat}{t x y z:lx}{A B c:Code}{G:List (Nat × ab)}{Φ:Exit->aM->Prop}{id k s:Nat}{o:Operand}
theorem j8.dN {α:Type}{en:bJ α}{i:Option Nat}(h:cM E (.dN id s i en y) P N c G Φ):cM E (.dN id s i en y) P N c G Φ:=h
theorem j8.sE {α:Type}{en:bJ α}{i:Option Nat}(h:cM E (.sE s i en y) P N c G Φ):cM E (.sE s i en y) P N c G Φ:=h
theorem j8.ev {α:Type}{ks:List Nat}{L:α->List (Nat × ab)}(h:cM E (.ev id ks L y) P N c G Φ):cM E (.ev id ks L y) P N c G Φ:=h
theorem j8.bS {α:Type}{bd:List (List Nat)}{ks:List Nat}{L:α->List (Nat × ab)}(h:cM E (.bS id bd ks L y) P N c G Φ):cM E (.bS id bd ks L y) P N c G Φ:=h
theorem j8.rd {bd:List (List Nat)}(h:cM E (.rd id bd y) P N c G Φ):cM E (.rd id bd y) P N c G Φ:=h
theorem j8.bF (h:cM E t P N (.cond o A B) G Φ):cM E t P N (.cond o A B) G Φ:=h
theorem j8.eP (h:cM E t P N (.loop A) G Φ):cM E t P N (.loop A) G Φ:=h
theorem j8.Jz {α:Type}{ks:List Nat}{L:α->List (Nat × ab)}(h:cM E (.dF ks L x y) P N (.block id A) G Φ):cM E (.dF ks L x y) P N (.block id A) G Φ:=h
theorem j8.rg {ops:Array Oper}{b:Bool}(h:cM E t P N (.region id ops b) G Φ):cM E t P N (.region id ops b) G Φ:=h
theorem j8.XM {S R:Type}{F:S->List (Nat × ab)}{Ψ:R->Exit->aM->Prop}{o:S ⊕ R}{e:Exit}(h:er E t e (k4 F Ψ o) G):er E t e (k4 F Ψ o) G:=h
theorem j8.XP {α:Type}{F:α->List (Nat × ab)}{j:α}{e:Exit}(h:er E t e (rL F j) G):er E t e (rL F j) G:=h
theorem j8.RR (h:er E t (.exit k) (ma id Φ) G):er E t (.exit k) (ma id Φ) G:=h
theorem j8.XL {rs:List ResultVar}{n:Nat}{outs:List (Option ab)}{res:ab}{e:Exit}(h:er E t e (p6 P N rs n outs res) G):er E t e (p6 P N rs n outs res) G:=h
end
section
variable {P:Program}{N:c6}{E:List Nat}{t:lx}{G:List (Nat × ab)}{g':aM}{rs:List ResultVar}{ys xs:List ab}{res:ab}{outs:List (Option ab)}{n:Nat}
theorem j5.Mf {g wW:aM}{s z:Nat}{hc:TypeId}{cs ys0:List ab}{rs:List ResultVar}{ys xs:List ab}(h:g s=some (.obj cs)) [aw:kl P hc z] (aY:cs.length=z) (aR:Nat.blt 0 z=true) (ax:yb (λi x=>gx 0 ⟨s,[i]⟩ x) 0 num cs=some ys0) (hk:nv s g 0 ys0 cs wW) (ao:j5 P wW rs ys xs g'):j5 P g (.cell s hc::rs) (.agg ys0::ys) (.agg cs::xs) g':=.c h aw.p aY aR (by have:=Dl ax; simpa using this) hk ao
theorem er.eS (h:j5 P (get G) rs ys xs g':=by (repeat' first | exact .nil | (apply j5.f rfl rfl) | (apply j5.o rfl) | (apply j5.Mf rfl rfl rfl rfl) | (apply nv.f rfl) | (apply nv.o rfl))) (he:qJ xs=res:=by rfl) (a1:q0 g' N.pins 0 outs:=by (repeat' first | exact .nil | refine .no ?_ | refine .aq rfl rfl ?_)) (ft:(rs.filterMap fun | .cell t _=>some t | _=>none).Nodup:=by exact of_decide_eq_true (by kernel_rfl)) (ak:outs.length=n:=by rfl):er E t .ret (p6 P N rs n outs res) G:=i_ h he a1 ft ak
theorem er.fn (h:j5 P (get G) rs ys xs g':=by (repeat' first | exact .nil | (apply j5.f rfl rfl) | (apply j5.o rfl) | (apply j5.Mf rfl rfl rfl rfl) | (apply nv.f rfl) | (apply nv.o rfl))) (he:qJ xs=res:=by rfl) (a1:q0 g' N.pins 0 outs:=by (repeat' first | exact .nil | refine .no ?_ | refine .aq rfl rfl ?_)) (ft:(rs.filterMap fun | .cell t _=>some t | _=>none).Nodup:=by exact of_decide_eq_true (by kernel_rfl)) (ak:outs.length=n:=by rfl):er E t .normal (p6 P N rs n outs res) G:=aA.fin (Fin.ro h he ft a1 ak (.inl rfl))
set_option maxRecDepth 1000000 in
/-- The walk: what it meets it does. -/
theorem dH {p:Prop}(h:p:=by
(repeat' (first
 | ((with_reducible apply ar.bN _ none); first
  | ((with_reducible apply ar.bN (.move _) none); first | refine ez (O.aX .q) ?_)
  | ((with_reducible apply ar.bN (.assign (.const _)) none); first | refine ez (O.az .q) ?_)
  | ((with_reducible apply ar.bN (.assign (.tmp _)) none); first | refine ez (O.az .Ar) ?_)
  | ((with_reducible apply ar.bN (.load _ _) none); first | refine ez (O.ib) ?_ | refine ez (O.hr) ?_ | refine ez (O.AF) ?_ | refine ez (O.AG) ?_ | refine ez (O.Ge) ?_ | refine ez (O.Gi) ?_ | refine ez (O.Gt) ?_)
  | ((with_reducible apply ar.bN (.fieldAddr _ _ _) none); first | refine ez (O.Ga) ?_ | refine ez (O.Gb) ?_ | refine ez (O.wf) ?_)
  | ((with_reducible apply ar.bN (.indexAddr _ _ _) none); first | refine aJ h λx J h=>ez (O.Gd J) ?_ | refine aJ h λx J h=>ez (O.yq J) ?_ | refine ez (O.eW) ?_ | refine ez (O.Gj) ?_)
  | ((with_reducible apply ar.bN (.binOp .add _ _ _ _) none); first | refine ez (O.add .q .q) ?_ | refine aJ h λx J h=>ez (O.cat .q .q J) ?_)
  | ((with_reducible apply ar.bN (.binOp .sub _ _ _ _) none); first | refine ez (O.sub .q .q) ?_)
  | ((with_reducible apply ar.bN (.binOp .mul _ _ _ _) none); first | refine ez (O.mul .q .q) ?_)
  | ((with_reducible apply ar.bN (.binOp .lss _ _ _ _) none); first | refine ez (O.lss .q .q) ?_)
  | ((with_reducible apply ar.bN (.binOp .leq _ _ _ _) none); first | refine ez (O.leq .q .q) ?_)
  | ((with_reducible apply ar.bN (.binOp .gtr _ _ _ _) none); first | refine ez (O.gtr .q .q) ?_)
  | ((with_reducible apply ar.bN (.binOp .geq _ _ _ _) none); first | refine ez (O.geq .q .q) ?_)
  | ((with_reducible apply ar.bN (.binOp .eql _ _ _ _) none); first | refine ez (O.eql .q .q) ?_ | refine ez (O.qj .q .q) ?_ | refine ez (O.Eg .q .q (by kernel_rfl)) ?_ | refine ez (O.oy) ?_)
  | ((with_reducible apply ar.bN (.binOp .neq _ _ _ _) none); first | refine ez (O.neq .q .q) ?_ | refine ez (O.ov .q .q) ?_ | refine ez (O.wn) ?_)
  | ((with_reducible apply ar.bN (.binOp .quo _ _ _ _) none); first | refine aJ h λx J h=>ez (O.quo .q .q J) ?_ | refine aJ h λx J h=>ez (O.rv .q .q J) ?_)
  | ((with_reducible apply ar.bN (.binOp .rem _ _ _ _) none); first | refine aJ h λx J h=>ez (O.rem .q .q J) ?_ | refine aJ h λx J h=>ez (O.rA .q .q J) ?_)
  | ((with_reducible apply ar.bN (.unOp .not _ _) none); first | refine ez (O.not .q) ?_)
  | ((with_reducible apply ar.bN (.unOp .neg _ _) none); first | refine ez (O.neg .q) ?_)
  | ((with_reducible apply ar.bN (.pick _ _ _) none); first | refine ez (O.hG .q (by first | rfl | assumption) .q) ?_ | refine ez (O.dA .q (by first | rfl | assumption) .q) ?_)
  | ((with_reducible apply ar.bN (.nilCheck _) none); first | refine ez (O.eT .q) ?_ | refine ez (O.xJ .q) ?_)
  | ((with_reducible apply ar.bN (.index _ _ _) none); first | refine aJ h λx J h=>ez (O.ml .q .q iX.p J) ?_)
  | ((with_reducible apply ar.bN (.extract _ _) none); first | refine ez (O.Gr) ?_)
  | ((with_reducible apply ar.bN (.convert _ _ _) none); first | refine ez (O.Gh) ?_ | refine ez (O.Gg) ?_)
  | ((with_reducible apply ar.bN (.box _ _) none); first | refine ez (O.F_) ?_)
  | ((with_reducible apply ar.bN (.alloc _) none); first | refine ez (O.Gf) ?_)
  | ((with_reducible apply ar.bN (.build _ _) none); first | refine ez (O.Gq) ?_)
  | ((with_reducible apply ar.bN (.field _ _ _) none); first | refine ez (O.wd) ?_)
  | ((with_reducible apply ar.bN (.makeSlice _ _ _) none); first | refine aJ h λx J h=>ez (O.Gk J) ?_ | refine aJ h λx J h=>ez (O.Gs J) ?_)
  | ((with_reducible apply ar.bN (.buildSlice _ 0 #[]) none); first | refine ez (O.wl) ?_)
  | ((with_reducible apply ar.bN (.makeFunc _ _ _) none); first | refine ez (O.zM rfl) ?_)
  | ((with_reducible apply ar.bN (.slice _ _ _ _ _) none); first | refine aJ h λx J h=>ez (O.yi .q .q .q iX.p J) ?_ | refine aJ h λx J h=>ez (O.FY .q .q iX.p J) ?_ | refine aJ h λx J h=>ez (O.FZ .q .q iX.p J) ?_ | refine aJ h λx J h=>ez (O.Gp J) ?_ | refine aJ h λx J h=>ez (O.Gm J) ?_ | refine aJ h λx J h=>ez (O.Gn J) ?_)
  | ((with_reducible apply ar.bN (.call { callee:=.builtin .len,args:=#[_],argTypes:=#[_] }) none); first | refine ez (O.kv .q ep.p) ?_ | refine ez (O.mB .q ep.p) ?_ | refine ez (O.ur .q iX.p) ?_)
  | ((with_reducible apply ar.bN (.call { callee:=.builtin .append,args:=#[_,_],argTypes:=#[_,_] }) none); first | refine aJ h λx J h=>ez (O.wp J) ?_ | refine aJ h λx J h=>ez (O.Gl J) ?_ | refine aJ h λx J h=>ez (O.F' J) ?_ | refine aJ h λx J h=>ez (O.wr J) ?_)
  | ((with_reducible apply ar.bN (.call { callee:=.value _,args:=_,argTypes:=_ }) none); first | (refine aJ h λx J h=>Lp (cB.eY ?_ (bA.go J)) ?_; · (repeat' first | exact .nil | refine .cm .q ?_)) | (refine aJ h λx J h=>Lp (cB.mG rfl ?_ (bA.go J)) ?_; · (repeat' first | exact .nil | refine .s ?_ | refine .c (View.nU rfl rfl) ?_ | refine .c (.row rfl) ?_ | refine .c (View.mO ?_) ?_ | refine .c (View.cl ?_) ?_)) | (refine aJ h λx J h=>QV (bA.go J) rfl rfl rfl rfl rfl (by repeat' first | exact .nil | refine .b rfl ?_ | refine .n rfl ?_) ?_))
  | ((with_reducible apply ar.bN (.buildSlice _ _ _) none); first | refine Q9 h ?_ | refine Q_ rfl ?_ | refine Q' rfl ?_ | refine Lr [_] rfl ?_ | refine Lr [_,_] rfl ?_)
  | ((with_reducible apply ar.bN (.assign _) none); refine Ra rfl rfl rfl ?_)
  | ((with_reducible apply ar.bN (.move _) none); refine Rb rfl rfl rfl ?_)
  | ((with_reducible apply ar.bN (.move _) none); first | refine GM rfl rfl (O.aX .q) ?_)
  | ((with_reducible apply ar.bN (.assign (.const _)) none); first | refine GM rfl rfl (O.az .q) ?_)
  | ((with_reducible apply ar.bN (.assign (.tmp _)) none); first | refine GM rfl rfl (O.az .Ar) ?_)
  | ((with_reducible apply ar.bN (.assign (.tmp _)) none); refine QW rfl rfl (by first | exact hT.jH | exact hT.uZ | exact hT.D3 | exact hT.mO .q (by repeat' first | exact e6.nil | (apply e6.f) | (apply e6.r rfl) | (apply e6.mO) | (apply e6.b rfl))) ?_))
 | ((with_reducible apply ar.ts); refine QX rfl rfl (by first | exact hT.gp | exact hT.nq | exact hT.te | exact hT.sp | exact hT.rF | exact hT.P0 .q (by repeat' first | exact e6.nil | (apply e6.f) | (apply e6.r rfl) | (apply e6.mO) | (apply e6.b rfl))) ?_)
 | ((with_reducible apply ar.bN _ (some _)); first
  | refine qV ?_
  | refine Q1 ?_
  | ((with_reducible apply ar.bN (.move _) (some _)); first | refine eH (O.aX .q) ?_)
  | ((with_reducible apply ar.bN (.assign (.const _)) (some _)); first | refine eH (O.az .q) ?_)
  | ((with_reducible apply ar.bN (.assign (.tmp _)) (some _)); first | refine eH (O.az .Ar) ?_)
  | ((with_reducible apply ar.bN (.load _ _) (some _)); first | refine eH (O.ib) ?_ | refine eH (O.hr) ?_ | refine eH (O.AF) ?_ | refine eH (O.AG) ?_ | refine eH (O.Ge) ?_ | refine eH (O.Gi) ?_ | refine eH (O.Gt) ?_)
  | ((with_reducible apply ar.bN (.fieldAddr _ _ _) (some _)); first | refine eH (O.Ga) ?_ | refine eH (O.Gb) ?_ | refine eH (O.wf) ?_)
  | ((with_reducible apply ar.bN (.indexAddr _ _ _) (some _)); first | refine aJ h λx J h=>eH (O.Gd J) ?_ | refine aJ h λx J h=>eH (O.yq J) ?_ | refine eH (O.eW) ?_ | refine eH (O.Gj) ?_)
  | ((with_reducible apply ar.bN (.binOp .add _ _ _ _) (some _)); first | refine eH (O.add .q .q) ?_ | refine aJ h λx J h=>eH (O.cat .q .q J) ?_)
  | ((with_reducible apply ar.bN (.binOp .sub _ _ _ _) (some _)); first | refine eH (O.sub .q .q) ?_)
  | ((with_reducible apply ar.bN (.binOp .mul _ _ _ _) (some _)); first | refine eH (O.mul .q .q) ?_)
  | ((with_reducible apply ar.bN (.binOp .lss _ _ _ _) (some _)); first | refine eH (O.lss .q .q) ?_)
  | ((with_reducible apply ar.bN (.binOp .leq _ _ _ _) (some _)); first | refine eH (O.leq .q .q) ?_)
  | ((with_reducible apply ar.bN (.binOp .gtr _ _ _ _) (some _)); first | refine eH (O.gtr .q .q) ?_)
  | ((with_reducible apply ar.bN (.binOp .geq _ _ _ _) (some _)); first | refine eH (O.geq .q .q) ?_)
  | ((with_reducible apply ar.bN (.binOp .eql _ _ _ _) (some _)); first | refine eH (O.eql .q .q) ?_ | refine eH (O.qj .q .q) ?_ | refine eH (O.Eg .q .q (by kernel_rfl)) ?_ | refine eH (O.oy) ?_)
  | ((with_reducible apply ar.bN (.binOp .neq _ _ _ _) (some _)); first | refine eH (O.neq .q .q) ?_ | refine eH (O.ov .q .q) ?_ | refine eH (O.wn) ?_)
  | ((with_reducible apply ar.bN (.binOp .quo _ _ _ _) (some _)); first | refine aJ h λx J h=>eH (O.quo .q .q J) ?_ | refine aJ h λx J h=>eH (O.rv .q .q J) ?_)
  | ((with_reducible apply ar.bN (.binOp .rem _ _ _ _) (some _)); first | refine aJ h λx J h=>eH (O.rem .q .q J) ?_ | refine aJ h λx J h=>eH (O.rA .q .q J) ?_)
  | ((with_reducible apply ar.bN (.unOp .not _ _) (some _)); first | refine eH (O.not .q) ?_)
  | ((with_reducible apply ar.bN (.unOp .neg _ _) (some _)); first | refine eH (O.neg .q) ?_)
  | ((with_reducible apply ar.bN (.pick _ _ _) (some _)); first | refine eH (O.hG .q (by first | rfl | assumption) .q) ?_ | refine eH (O.dA .q (by first | rfl | assumption) .q) ?_)
  | ((with_reducible apply ar.bN (.nilCheck _) (some _)); first | refine eH (O.eT .q) ?_ | refine eH (O.xJ .q) ?_)
  | ((with_reducible apply ar.bN (.index _ _ _) (some _)); first | refine aJ h λx J h=>eH (O.ml .q .q iX.p J) ?_)
  | ((with_reducible apply ar.bN (.extract _ _) (some _)); first | refine eH (O.Gr) ?_)
  | ((with_reducible apply ar.bN (.convert _ _ _) (some _)); first | refine eH (O.Gh) ?_ | refine eH (O.Gg) ?_)
  | ((with_reducible apply ar.bN (.box _ _) (some _)); first | refine eH (O.F_) ?_)
  | ((with_reducible apply ar.bN (.alloc _) (some _)); first | refine eH (O.Gf) ?_)
  | ((with_reducible apply ar.bN (.build _ _) (some _)); first | refine eH (O.Gq) ?_)
  | ((with_reducible apply ar.bN (.field _ _ _) (some _)); first | refine eH (O.wd) ?_)
  | ((with_reducible apply ar.bN (.makeSlice _ _ _) (some _)); first | refine aJ h λx J h=>eH (O.Gk J) ?_ | refine aJ h λx J h=>eH (O.Gs J) ?_)
  | ((with_reducible apply ar.bN (.buildSlice _ 0 #[]) (some _)); first | refine eH (O.wl) ?_)
  | ((with_reducible apply ar.bN (.makeFunc _ _ _) (some _)); first | refine eH (O.zM rfl) ?_)
  | ((with_reducible apply ar.bN (.slice _ _ _ _ _) (some _)); first | refine aJ h λx J h=>eH (O.yi .q .q .q iX.p J) ?_ | refine aJ h λx J h=>eH (O.FY .q .q iX.p J) ?_ | refine aJ h λx J h=>eH (O.FZ .q .q iX.p J) ?_ | refine aJ h λx J h=>eH (O.Gp J) ?_ | refine aJ h λx J h=>eH (O.Gm J) ?_ | refine aJ h λx J h=>eH (O.Gn J) ?_)
  | ((with_reducible apply ar.bN (.call { callee:=.builtin .len,args:=#[_],argTypes:=#[_] }) (some _)); first | refine eH (O.kv .q ep.p) ?_ | refine eH (O.mB .q ep.p) ?_ | refine eH (O.ur .q iX.p) ?_)
  | ((with_reducible apply ar.bN (.call { callee:=.builtin .append,args:=#[_,_],argTypes:=#[_,_] }) (some _)); first | refine aJ h λx J h=>eH (O.wp J) ?_ | refine aJ h λx J h=>eH (O.Gl J) ?_ | refine aJ h λx J h=>eH (O.F' J) ?_ | refine aJ h λx J h=>eH (O.wr J) ?_)
  | ((with_reducible apply ar.bN (.call { callee:=.value _,args:=_,argTypes:=_ }) (some _)); first | (refine aJ h λx J h=>Lb (cB.eY ?_ (bA.go J)) ?_; · (repeat' first | exact .nil | refine .cm .q ?_)) | (refine aJ h λx J h=>Lb (cB.mG rfl ?_ (bA.go J)) ?_; · (repeat' first | exact .nil | refine .s ?_ | refine .c (View.nU rfl rfl) ?_ | refine .c (.row rfl) ?_ | refine .c (View.mO ?_) ?_ | refine .c (View.cl ?_) ?_)))
  | refine Hi h (λav h=>?_) (λav h=>?_))
 | ((with_reducible apply ar.nl); first | refine GG rfl rfl ?_ | refine QY h (by (repeat' first | exact .nil | refine .n rfl ?_ | refine .w rfl rfl .pP ?_ | refine .w rfl rfl .pO ?_ | refine .w rfl rfl (j9.obj (by (repeat' first | exact .nil | refine .f ?_ | refine .o ?_ | refine .i ?_))) ?_)))
 | ((with_reducible apply cP.bN _ none); first
  | ((with_reducible apply cP.bN (.move _) none); first | refine ey (O.aX .q) ?_)
  | ((with_reducible apply cP.bN (.assign (.const _)) none); first | refine ey (O.az .q) ?_)
  | ((with_reducible apply cP.bN (.assign (.tmp _)) none); first | refine ey (O.az .Ar) ?_)
  | ((with_reducible apply cP.bN (.load _ _) none); first | refine ey (O.ib) ?_ | refine ey (O.hr) ?_ | refine ey (O.AF) ?_ | refine ey (O.AG) ?_ | refine ey (O.Ge) ?_ | refine ey (O.Gi) ?_ | refine ey (O.Gt) ?_)
  | ((with_reducible apply cP.bN (.fieldAddr _ _ _) none); first | refine ey (O.Ga) ?_ | refine ey (O.Gb) ?_ | refine ey (O.wf) ?_)
  | ((with_reducible apply cP.bN (.indexAddr _ _ _) none); first | refine aJ h λx J h=>ey (O.Gd J) ?_ | refine aJ h λx J h=>ey (O.yq J) ?_ | refine ey (O.eW) ?_ | refine ey (O.Gj) ?_)
  | ((with_reducible apply cP.bN (.binOp .add _ _ _ _) none); first | refine ey (O.add .q .q) ?_ | refine aJ h λx J h=>ey (O.cat .q .q J) ?_)
  | ((with_reducible apply cP.bN (.binOp .sub _ _ _ _) none); first | refine ey (O.sub .q .q) ?_)
  | ((with_reducible apply cP.bN (.binOp .mul _ _ _ _) none); first | refine ey (O.mul .q .q) ?_)
  | ((with_reducible apply cP.bN (.binOp .lss _ _ _ _) none); first | refine ey (O.lss .q .q) ?_)
  | ((with_reducible apply cP.bN (.binOp .leq _ _ _ _) none); first | refine ey (O.leq .q .q) ?_)
  | ((with_reducible apply cP.bN (.binOp .gtr _ _ _ _) none); first | refine ey (O.gtr .q .q) ?_)
  | ((with_reducible apply cP.bN (.binOp .geq _ _ _ _) none); first | refine ey (O.geq .q .q) ?_)
  | ((with_reducible apply cP.bN (.binOp .eql _ _ _ _) none); first | refine ey (O.eql .q .q) ?_ | refine ey (O.qj .q .q) ?_ | refine ey (O.Eg .q .q (by kernel_rfl)) ?_ | refine ey (O.oy) ?_)
  | ((with_reducible apply cP.bN (.binOp .neq _ _ _ _) none); first | refine ey (O.neq .q .q) ?_ | refine ey (O.ov .q .q) ?_ | refine ey (O.wn) ?_)
  | ((with_reducible apply cP.bN (.binOp .quo _ _ _ _) none); first | refine aJ h λx J h=>ey (O.quo .q .q J) ?_ | refine aJ h λx J h=>ey (O.rv .q .q J) ?_)
  | ((with_reducible apply cP.bN (.binOp .rem _ _ _ _) none); first | refine aJ h λx J h=>ey (O.rem .q .q J) ?_ | refine aJ h λx J h=>ey (O.rA .q .q J) ?_)
  | ((with_reducible apply cP.bN (.unOp .not _ _) none); first | refine ey (O.not .q) ?_)
  | ((with_reducible apply cP.bN (.unOp .neg _ _) none); first | refine ey (O.neg .q) ?_)
  | ((with_reducible apply cP.bN (.pick _ _ _) none); first | refine ey (O.hG .q (by first | rfl | assumption) .q) ?_ | refine ey (O.dA .q (by first | rfl | assumption) .q) ?_)
  | ((with_reducible apply cP.bN (.nilCheck _) none); first | refine ey (O.eT .q) ?_ | refine ey (O.xJ .q) ?_)
  | ((with_reducible apply cP.bN (.index _ _ _) none); first | refine aJ h λx J h=>ey (O.ml .q .q iX.p J) ?_)
  | ((with_reducible apply cP.bN (.extract _ _) none); first | refine ey (O.Gr) ?_)
  | ((with_reducible apply cP.bN (.convert _ _ _) none); first | refine ey (O.Gh) ?_ | refine ey (O.Gg) ?_)
  | ((with_reducible apply cP.bN (.box _ _) none); first | refine ey (O.F_) ?_)
  | ((with_reducible apply cP.bN (.alloc _) none); first | refine ey (O.Gf) ?_)
  | ((with_reducible apply cP.bN (.build _ _) none); first | refine ey (O.Gq) ?_)
  | ((with_reducible apply cP.bN (.field _ _ _) none); first | refine ey (O.wd) ?_)
  | ((with_reducible apply cP.bN (.makeSlice _ _ _) none); first | refine aJ h λx J h=>ey (O.Gk J) ?_ | refine aJ h λx J h=>ey (O.Gs J) ?_)
  | ((with_reducible apply cP.bN (.buildSlice _ 0 #[]) none); first | refine ey (O.wl) ?_)
  | ((with_reducible apply cP.bN (.makeFunc _ _ _) none); first | refine ey (O.zM rfl) ?_)
  | ((with_reducible apply cP.bN (.slice _ _ _ _ _) none); first | refine aJ h λx J h=>ey (O.yi .q .q .q iX.p J) ?_ | refine aJ h λx J h=>ey (O.FY .q .q iX.p J) ?_ | refine aJ h λx J h=>ey (O.FZ .q .q iX.p J) ?_ | refine aJ h λx J h=>ey (O.Gp J) ?_ | refine aJ h λx J h=>ey (O.Gm J) ?_ | refine aJ h λx J h=>ey (O.Gn J) ?_)
  | ((with_reducible apply cP.bN (.call { callee:=.builtin .len,args:=#[_],argTypes:=#[_] }) none); first | refine ey (O.kv .q ep.p) ?_ | refine ey (O.mB .q ep.p) ?_ | refine ey (O.ur .q iX.p) ?_)
  | ((with_reducible apply cP.bN (.call { callee:=.builtin .append,args:=#[_,_],argTypes:=#[_,_] }) none); first | refine aJ h λx J h=>ey (O.wp J) ?_ | refine aJ h λx J h=>ey (O.Gl J) ?_ | refine aJ h λx J h=>ey (O.F' J) ?_ | refine aJ h λx J h=>ey (O.Qv J) ?_)
  | ((with_reducible apply cP.bN (.call { callee:=.value _,args:=_,argTypes:=_ }) none); first | (refine aJ h λx J h=>K6 (cB.eY ?_ (bA.go J)) ?_; · (repeat' first | exact .nil | refine .cm .q ?_)) | (refine aJ h λx J h=>K6 (cB.mG rfl ?_ (bA.go J)) ?_; · (repeat' first | exact .nil | refine .s ?_ | refine .c (View.nU rfl rfl) ?_ | refine .c (.row rfl) ?_ | refine .c (View.mO ?_) ?_ | refine .c (View.cl ?_) ?_)) | (refine aJ h λx J h=>QO (bA.go J) rfl rfl rfl rfl rfl (by repeat' first | exact .nil | refine .b rfl ?_ | refine .n rfl ?_) ?_))
  | ((with_reducible apply cP.bN (.buildSlice _ _ _) none); first | refine QM h ?_ | refine QN rfl ?_ | refine QQ rfl ?_ | refine QT [_,_] rfl ?_ | refine K7 [_] rfl ?_ | refine K7 [_,_] rfl ?_)
  | ((with_reducible apply cP.bN (.assign _) none); refine QP rfl rfl (by first | exact hT.jH | exact hT.uZ | exact hT.D3 | exact hT.Rl | exact hT.mO .q (by repeat' first | exact e6.nil | (apply e6.f) | (apply e6.r rfl) | (apply e6.mO) | (apply e6.b rfl))) ?_))
 | ((with_reducible apply cP.ts); refine QR rfl rfl (by first | exact hT.gp | exact hT.nq | exact hT.te | exact hT.sp | exact hT.rF | exact hT.P0 .q (by repeat' first | exact e6.nil | (apply e6.f) | (apply e6.r rfl) | (apply e6.mO) | (apply e6.b rfl))) ?_)
 | ((with_reducible apply cP.bN _ (some _)); first
  | refine QS ?_
  | refine QU ?_
  | ((with_reducible apply cP.bN (.move _) (some _)); first | refine eG (O.aX .q) ?_)
  | ((with_reducible apply cP.bN (.assign (.const _)) (some _)); first | refine eG (O.az .q) ?_)
  | ((with_reducible apply cP.bN (.assign (.tmp _)) (some _)); first | refine eG (O.az .Ar) ?_)
  | ((with_reducible apply cP.bN (.load _ _) (some _)); first | refine eG (O.ib) ?_ | refine eG (O.hr) ?_ | refine eG (O.AF) ?_ | refine eG (O.AG) ?_ | refine eG (O.Ge) ?_ | refine eG (O.Gi) ?_ | refine eG (O.Gt) ?_)
  | ((with_reducible apply cP.bN (.fieldAddr _ _ _) (some _)); first | refine eG (O.Ga) ?_ | refine eG (O.Gb) ?_ | refine eG (O.wf) ?_)
  | ((with_reducible apply cP.bN (.indexAddr _ _ _) (some _)); first | refine aJ h λx J h=>eG (O.Gd J) ?_ | refine aJ h λx J h=>eG (O.yq J) ?_ | refine eG (O.eW) ?_ | refine eG (O.Gj) ?_)
  | ((with_reducible apply cP.bN (.binOp .add _ _ _ _) (some _)); first | refine eG (O.add .q .q) ?_ | refine aJ h λx J h=>eG (O.cat .q .q J) ?_)
  | ((with_reducible apply cP.bN (.binOp .sub _ _ _ _) (some _)); first | refine eG (O.sub .q .q) ?_)
  | ((with_reducible apply cP.bN (.binOp .mul _ _ _ _) (some _)); first | refine eG (O.mul .q .q) ?_)
  | ((with_reducible apply cP.bN (.binOp .lss _ _ _ _) (some _)); first | refine eG (O.lss .q .q) ?_)
  | ((with_reducible apply cP.bN (.binOp .leq _ _ _ _) (some _)); first | refine eG (O.leq .q .q) ?_)
  | ((with_reducible apply cP.bN (.binOp .gtr _ _ _ _) (some _)); first | refine eG (O.gtr .q .q) ?_)
  | ((with_reducible apply cP.bN (.binOp .geq _ _ _ _) (some _)); first | refine eG (O.geq .q .q) ?_)
  | ((with_reducible apply cP.bN (.binOp .eql _ _ _ _) (some _)); first | refine eG (O.eql .q .q) ?_ | refine eG (O.qj .q .q) ?_ | refine eG (O.Eg .q .q (by kernel_rfl)) ?_ | refine eG (O.oy) ?_)
  | ((with_reducible apply cP.bN (.binOp .neq _ _ _ _) (some _)); first | refine eG (O.neq .q .q) ?_ | refine eG (O.ov .q .q) ?_ | refine eG (O.wn) ?_)
  | ((with_reducible apply cP.bN (.binOp .quo _ _ _ _) (some _)); first | refine aJ h λx J h=>eG (O.quo .q .q J) ?_ | refine aJ h λx J h=>eG (O.rv .q .q J) ?_)
  | ((with_reducible apply cP.bN (.binOp .rem _ _ _ _) (some _)); first | refine aJ h λx J h=>eG (O.rem .q .q J) ?_ | refine aJ h λx J h=>eG (O.rA .q .q J) ?_)
  | ((with_reducible apply cP.bN (.unOp .not _ _) (some _)); first | refine eG (O.not .q) ?_)
  | ((with_reducible apply cP.bN (.unOp .neg _ _) (some _)); first | refine eG (O.neg .q) ?_)
  | ((with_reducible apply cP.bN (.pick _ _ _) (some _)); first | refine eG (O.hG .q (by first | rfl | assumption) .q) ?_ | refine eG (O.dA .q (by first | rfl | assumption) .q) ?_)
  | ((with_reducible apply cP.bN (.nilCheck _) (some _)); first | refine eG (O.eT .q) ?_ | refine eG (O.xJ .q) ?_)
  | ((with_reducible apply cP.bN (.index _ _ _) (some _)); first | refine aJ h λx J h=>eG (O.ml .q .q iX.p J) ?_)
  | ((with_reducible apply cP.bN (.extract _ _) (some _)); first | refine eG (O.Gr) ?_)
  | ((with_reducible apply cP.bN (.convert _ _ _) (some _)); first | refine eG (O.Gh) ?_ | refine eG (O.Gg) ?_)
  | ((with_reducible apply cP.bN (.box _ _) (some _)); first | refine eG (O.F_) ?_)
  | ((with_reducible apply cP.bN (.alloc _) (some _)); first | refine eG (O.Gf) ?_)
  | ((with_reducible apply cP.bN (.build _ _) (some _)); first | refine eG (O.Gq) ?_)
  | ((with_reducible apply cP.bN (.field _ _ _) (some _)); first | refine eG (O.wd) ?_)
  | ((with_reducible apply cP.bN (.makeSlice _ _ _) (some _)); first | refine aJ h λx J h=>eG (O.Gk J) ?_ | refine aJ h λx J h=>eG (O.Gs J) ?_)
  | ((with_reducible apply cP.bN (.buildSlice _ 0 #[]) (some _)); first | refine eG (O.wl) ?_)
  | ((with_reducible apply cP.bN (.makeFunc _ _ _) (some _)); first | refine eG (O.zM rfl) ?_)
  | ((with_reducible apply cP.bN (.slice _ _ _ _ _) (some _)); first | refine aJ h λx J h=>eG (O.yi .q .q .q iX.p J) ?_ | refine aJ h λx J h=>eG (O.FY .q .q iX.p J) ?_ | refine aJ h λx J h=>eG (O.FZ .q .q iX.p J) ?_ | refine aJ h λx J h=>eG (O.Gp J) ?_ | refine aJ h λx J h=>eG (O.Gm J) ?_ | refine aJ h λx J h=>eG (O.Gn J) ?_)
  | ((with_reducible apply cP.bN (.call { callee:=.builtin .len,args:=#[_],argTypes:=#[_] }) (some _)); first | refine eG (O.kv .q ep.p) ?_ | refine eG (O.mB .q ep.p) ?_ | refine eG (O.ur .q iX.p) ?_)
  | ((with_reducible apply cP.bN (.call { callee:=.builtin .append,args:=#[_,_],argTypes:=#[_,_] }) (some _)); first | refine aJ h λx J h=>eG (O.wp J) ?_ | refine aJ h λx J h=>eG (O.Gl J) ?_ | refine aJ h λx J h=>eG (O.F' J) ?_ | refine aJ h λx J h=>eG (O.Qv J) ?_)
  | ((with_reducible apply cP.bN (.call { callee:=.value _,args:=_,argTypes:=_ }) (some _)); first | (refine aJ h λx J h=>K5 (cB.eY ?_ (bA.go J)) ?_; · (repeat' first | exact .nil | refine .cm .q ?_)) | (refine aJ h λx J h=>K5 (cB.mG rfl ?_ (bA.go J)) ?_; · (repeat' first | exact .nil | refine .s ?_ | refine .c (View.nU rfl rfl) ?_ | refine .c (.row rfl) ?_ | refine .c (View.mO ?_) ?_ | refine .c (View.cl ?_) ?_)))
  | refine Hi h (λav h=>?_) (λav h=>?_))
 | ((with_reducible apply cP.nl); first | refine QL rfl rfl ?_ | refine QK h (by (repeat' first | exact .nil | refine .n rfl ?_ | refine .w rfl rfl .pP ?_ | refine .w rfl rfl .pO ?_ | refine .w rfl rfl (j9.obj (by (repeat' first | exact .nil | refine .f ?_ | refine .o ?_ | refine .i ?_))) ?_)))
 | ((with_reducible apply j8.dN); refine cM.dN rfl (by first | exact .w | exact .n | exact .c rfl .w rfl | exact .c rfl .n rfl) rfl rfl ?_)
 | ((with_reducible apply j8.sE); refine cM.sE rfl (by first | exact .w | exact .n | exact .c rfl .w rfl | exact .c rfl .n rfl) rfl rfl ?_)
 | ((with_reducible apply j8.ev); first | refine cM.ev h (λj h=>?_) (λj ah h=>?_) | refine cM.X3 h (λj h=>?_) (λj ah h=>?_))
 | ((with_reducible apply j8.bS); first | refine cM.bS h (λj h=>?_) (λj ah h=>?_) | refine cM.X4 h (λj h=>?_) (λj ah h=>?_))
 | ((with_reducible apply j8.rd); first | refine cM.rd ?_ | refine cM.XZ ?_)
 | (with_reducible apply cM.rg)
 | (with_reducible apply cM.bw)
 | ((with_reducible apply j8.bF); first
  | refine cM.WZ h (λj h=>?_) (λj ah h=>?_)
  | refine cM.b8 h (λav h=>?_) (λav h=>?_)
  | refine cM.ce h (λav h=>?_) (λav h=>?_)
  | refine cM.Sm ?_
  | refine cM.Sl ?_)
 | ((with_reducible apply j8.Jz); refine cM.Jz h (λj h=>?_) (λj ah h=>?_))
 | (with_reducible apply cM.wF)
 | (with_reducible apply cM.b2)
 | (with_reducible apply cM.cZ)
 | (with_reducible apply cM.fb)
 | ((with_reducible apply cM.Ya); first
  | (refine cM.Kh h (by (repeat' first | exact .nil | refine .z rfl rfl ?_ ?_ | exact .refl | exact .CB | exact h3.vw | refine fo.obj ?_ | refine .f ?_ | refine .o ?_ | refine .z ?_)) (by (repeat' first | exact .nil | refine .n rfl ?_ | refine .w rfl rfl .pP ?_ | refine .w rfl rfl .pO ?_ | refine .w rfl rfl (j9.obj (by (repeat' first | exact .nil | refine .f ?_ | refine .o ?_ | refine .i ?_))) ?_)))
  | (cases h; refine cM.hX rfl (by (repeat' first | exact .nil | refine .z rfl rfl ?_ ?_ | exact .refl | exact .CB | exact h3.vw | refine fo.obj ?_ | refine .f ?_ | refine .o ?_ | refine .z ?_)) ?_; exact er.eS)
  | refine cM.Dk ?_)
 | (with_reducible apply er.bw)
 | (with_reducible apply er.e')
 | (with_reducible apply er.hZ)
 | (with_reducible apply er.b2)
 | (with_reducible apply er.e8)
 | (with_reducible apply er.k6)
 | ((with_reducible apply j8.RR); refine er.G3 ?_)
 | ((with_reducible apply j8.XM); first
  | refine er.go h (by (repeat' first | exact .nil | refine .n rfl ?_ | refine .w rfl rfl .pP ?_ | refine .w rfl rfl .pO ?_ | refine .w rfl rfl (j9.obj (by (repeat' first | exact .nil | refine .f ?_ | refine .o ?_ | refine .i ?_))) ?_))
  | refine er.a8 h (by (repeat' first | exact .nil | refine .n rfl ?_ | refine .w rfl rfl .pP ?_ | refine .w rfl rfl .pO ?_ | refine .w rfl rfl (j9.obj (by (repeat' first | exact .nil | refine .f ?_ | refine .o ?_ | refine .i ?_))) ?_))
  | refine er.x2 h (by (repeat' first | exact .nil | refine .n rfl ?_ | refine .w rfl rfl .pP ?_ | refine .w rfl rfl .pO ?_ | refine .w rfl rfl (j9.obj (by (repeat' first | exact .nil | refine .f ?_ | refine .o ?_ | refine .i ?_))) ?_))
  | refine er.j1 h (by (repeat' first | exact .nil | refine .n rfl ?_ | refine .w rfl rfl .pP ?_ | refine .w rfl rfl .pO ?_ | refine .w rfl rfl (j9.obj (by (repeat' first | exact .nil | refine .f ?_ | refine .o ?_ | refine .i ?_))) ?_)))
 | ((with_reducible apply j8.XP); refine er.dF h (by (repeat' first | exact .nil | refine .n rfl ?_ | refine .w rfl rfl .pP ?_ | refine .w rfl rfl .pO ?_ | refine .w rfl rfl (j9.obj (by (repeat' first | exact .nil | refine .f ?_ | refine .o ?_ | refine .i ?_))) ?_)))
 | ((with_reducible apply j8.eP); first
  | refine cM.eP h (λs o h=>?_) (λr ao h=>?_)
  | refine cM.gw h (λs o h=>?_) (λr h=>?_) (λr h=>?_))
 | ((with_reducible apply j8.rg); with_reducible apply cM.rt)
 | ((with_reducible apply j8.XL); cases h; first | exact er.eS | exact er.fn)
 | refine Hi h (λav h=>?_) (λav h=>?_)))):p:=h
class yS (P:Program) (N:c6) (Φ:Exit->aM->Prop) (rs:outParam (List ResultVar)) (n:outParam Nat) (outs:outParam (List (Option ab))) (res:outParam ab):Prop where p:∀ g,p6 P N rs n outs res .ret g->Φ .ret g
instance:yS P N (p6 P N rs n outs res) rs n outs res:=⟨λ_ h=>h⟩
instance {Ψ:aM->Prop}{Φ:Exit->aM->Prop} [h:yS P N Φ rs n outs res]:yS P N (o3 Ψ Φ) rs n outs res:=⟨λg bY=>h.p g bY⟩
instance {id:Nat}{Φ:Exit->aM->Prop} [h:yS P N Φ rs n outs res]:yS P N (ma id Φ) rs n outs res:=⟨λg bY=>h.p g bY⟩
class yR {S R gL:Type}(Φ:Exit->aM->Prop) (F:outParam (S->List (Nat × ab))) (id:outParam Nat) (X:outParam (R->List (Nat × ab))) (Y:outParam (gL->List (Nat × ab))) (o:outParam (S ⊕ (R ⊕ gL))):Prop where p:∀ g,k4 F (AW id X Y) o .ret g->Φ .ret g
section
variable {S R gL:Type}{F:S->List (Nat × ab)}{id:Nat}{X:R->List (Nat × ab)}{Y:gL->List (Nat × ab)}{o:S ⊕ (R ⊕ gL)}{Φ:Exit->aM->Prop}
instance:yR (k4 F (AW id X Y) o) F id X Y o:=⟨λ_ h=>h⟩
instance {Ψ:aM->Prop} [h:yR Φ F id X Y o]:yR (o3 Ψ Φ) F id X Y o:=⟨λg bY=>h.p g bY⟩
instance {i:Nat} [h:yR Φ F id X Y o]:yR (ma i Φ) F id X Y o:=⟨λg bY=>h.p g bY⟩
theorem cM.Kh {v:gL} [aZ:yR Φ F id X Y o] (h:some (.inr (.inr v))=some o) (aY:n9 ((Y v).map Prod.fst) (get G) (get (Y v)) (Y v)) (au:Trim true (get (Y v)) (get (Y v)) (Y v)):cM E t P N .ret G Φ:=by
 cases h;exact W.dN _ aY (W.rt λg av=>aZ.p g (aA.j1 au g av))
end
def X2:ResultVar->ab->Option (Nat × ab)
 | .tmp t,x=>some (t,x)
 | .cell s _,.agg cs=>some (s,.obj cs)
 | _,_=>none
def Kf:List ResultVar->List ab->List (Nat × ab)->Option (List (Nat × ab))
 | [],[],T=>some T
 | r::rs,x::xs,T=>match Kf rs xs T,X2 r x with
  | some l,some p=>some (p::l)
  | _,_=>none
 | _,_,_=>none
def JW:List Nat->List (Option ab)->Option (List (Nat × ab))
 | _,[]=>some []
 | j::ef,none::l=>JW ef l
 | j::ef,some x::l=>match JW ef l with
  | some r=>some ((j,x)::r)
  | none=>none
 | _,_=>none
def X1 (rs:List ResultVar) (outs:List (Option ab)) (res:ab):Option (List (Nat × ab)) :=
 match JW num outs with
 | none=>none
 | some T=>match rs,res with
  | [r],x=>Kf [r] [x] T
  | rs,.bW xs=>Kf rs xs T
  | _,_=>none
theorem h3.vw {x y:ab} [aF:cg x] [hv:i' x y]:h3 x y:=.pK aF.bn (hv.v _)
inductive qT {α:Type}(en:bJ α):Option Nat->ab->ab->Prop
 | w {Ee:bJ α}{L:List α} [h:i' (aj Ee L) (ag en L)]:qT en none (aj Ee L) (ag en L)
 | n [h:i' .aK (ag en ([]:List α))]:qT en none .aK (ag en ([]:List α))
 | c {i:Nat}{cs cs':List ab}{x y:ab}(J:cs[i]?=some x) (h:qT en none x y) (he:o0 cs i [y]=some cs'):qT en (some i) (.obj cs) (.obj cs')
theorem qT.one {α:Type}{en:bJ α}{x y:ab}(h:qT en none x y):h3 x y/\nt y:=by
 cases h with
 | @w Ee L h=>exact ⟨.pK (.own (pV Ee L)) (h.v _),⟨by intro _ _ _ _ _ e; cases e⟩⟩
 | @n h=>exact ⟨.pK .aK (h.v _),⟨by intro _ _ _ _ _ e; cases e⟩⟩
theorem qT.dN {α:Type}{en:bJ α}{i:Option Nat}{x y:ab}(h:qT en i x y):h3 x y/\nt y:=by
 cases h with
 | w=>exact qT.one .w
 | n=>exact qT.one .n
 | @c i cs cs' x y J h he =>
  obtain ⟨h1,af⟩:=lV he;subst h1;refine ⟨.obj (by simp [e5] at af ⊢; omega) λk a b aP av=>?_,⟨by simp⟩⟩;unfold e5 at av;simp only [List.length_singleton] at af av;by_cases hk:k<i
  ·rw [List.append_assoc,List.getElem?_append_left (by simp; omega),List.getElem?_take,if_pos hk,aP] at av;cases av; exact .refl
  ·by_cases fW:k=i
   ·subst fW;rw [List.append_assoc,List.getElem?_append_right (by rw [List.length_take]; exact Nat.min_le_left _ _),List.length_take,Nat.min_eq_left (by omega),Nat.sub_self] at av;simp at av;subst av;rw [J] at aP; cases aP;exact h.one.1
   ·rw [List.getElem?_append_right (by simp; omega)] at av;simp only [List.length_append,List.length_take,List.length_singleton,List.getElem?_drop] at av;rw [show i+1+(k - (min i cs.length+1))=k by omega,aP] at av;cases av; exact .refl
theorem J9 {g g2:aM}{s:Nat}:∀ {ks:List Nat}{G1:List (Nat × ab)},pick g ks=some G1->(ks.all λk=>![s].elem k)=true->(∀ e∈G1,cU e.2)->n9 [s] g g2 G1
 | [],_,h,_,_=>by cases h; exact .nil
 | k::ks,G1,h,he,aF=>by
  obtain ⟨x,l,J,ak,rfl⟩:=Dc h;rw [List.all_cons,Bool.and_eq_true] at he;have:cg x:=⟨aF (k,x) (by simp)⟩;exact .n (by simpa using he.1) J (J9 ak he.2 λe h=>aF e (by simp [h]))
def WY (id:Nat):Code->Bool
 | .seq (.region k _ _) _=>Nat.beq k id
 | .region k _ _=>Nat.beq k id
 | _=>false
theorem cM.dN {α:Type}{en:bJ α}{id s:Nat}{i:Option Nat}{B:Code}{Φ:Exit->aM->Prop}{x y:ab}{ks:List Nat}{ih:List (Nat × ab)}(aC:get G s=some x) (ax:qT en i x y) (hk:sZ [s] G=some ks) (au:pick (get G) ks=some ih) (h:cM E t P N B ((s,y)::ih) Φ) (acg:WY id B=true:=by rfl) (dq:(ks.all λk=>![s].elem k)=true:=by rfl) [J:cg x] [aF:iA ih]:cM E (.dN id s i en t) P N B G Φ :=
 have:=ax.dN.2
 W.dN [s] (.z (by simp) aC ax.dN.1 (J9 au dq aF.p)) h
theorem cM.sE {α:Type}{en:bJ α}{s:Nat}{i:Option Nat}{c:Code}{Φ:Exit->aM->Prop}{x y:ab}{ks:List Nat}{ih:List (Nat × ab)}(aC:get G s=some x) (ax:qT en i x y) (hk:sZ [s] G=some ks) (au:pick (get G) ks=some ih) (h:cM E t P N (.loop c) ((s,y)::ih) Φ) (dq:(ks.all λk=>![s].elem k)=true:=by rfl) [J:cg x] [aF:iA ih]:cM E (.sE s i en t) P N (.loop c) G Φ :=
 have:=ax.dN.2
 W.dN [s] (.z (by simp) aC ax.dN.1 (J9 au dq aF.p)) h
theorem cM.hX {Φ:Exit->aM->Prop}{G1:List (Nat × ab)} [aZ:yS P N Φ rs n outs res] (c_:X1 rs outs res=some G1) (aY:n9 (G1.map Prod.fst) (get G) (get G1) G1) (au:er E t .ret (p6 P N rs n outs res) G1):cM E t P N .ret G Φ :=
 W.dN _ aY (W.rt λg av=>aZ.p g (au g av))
def Fp:List Nat->Nat->List ab->Option (List (Nat × ab))
 | _,_,[]=>some []
 | [],_,_::_=>none
 | j::ef,k,x::l=>match Fp ef (k+1) l with
  | none=>none
  | some r=>match s4 x,Nat.beq j k with
   | some y,true=>some ((j,y)::r)
   | _,_=>none
theorem OZ:∀ {l:List ab}{ef:List Nat}{k:Nat}{r:List (Nat × ab)},Fp ef k l=some r->xM k l=r
 | [],ef,k,r,h=>by cases ef <;> (cases h; rfl)
 | x::l,[],k,r,h=>by cases h
 | x::l,j::ef,k,r,h=>by
  unfold Fp at h
  split at h
  ·cases h
  ·rename_i dm ao
   split at h
   ·rename_i y ax ah;cases h; rw [<- OZ ao,<- vE ax,Nat.eq_of_beq_eq_true ah]; rfl
   ·cases h
def lits:List Nat:=[0,1,2,3,4,5,6,7,8,9,10,11,12]
theorem bV.bq {f:FuncId}{fn:Func}{c:Code}{args:List ab}{outs:List (Option ab)}{res:ab}(E:List Nat) (t:lx) (aW:P.funcs[f]?=some fn) (av:fn.body=some c) (bc:fn.ntmps=N.size) (aP:Nat.ble args.length N.size=true) (hlen:outs.length=args.length) (c_:Fp lits 0 args=some G) (hw:cM E t P N c G (p6 P N fn.results.toList args.length outs res)):bV P f args outs res:=bV.go aW av bc aP hlen (W.fin (by rw [OZ c_]; exact hw))
end
end Go.Own
namespace Go.Proofs
open Tryz
open Go Go.Own
set_option maxRecDepth 100000
set_option maxHeartbeats 4000000
set_option linter.unusedVariables false
instance:ly bP:=⟨λx=>[(.int .i64 x.At),(.int .i64 x.b9)],λ_=>rfl,λx v hv=>by simp only [List.mem_cons,List.not_mem_nil,or_false] at hv; rcases hv with rfl | rfl <;> rfl⟩
theorem y_:jq prog 4=true:=by kernel_rfl
theorem wR:jq prog 9=true:=by kernel_rfl
theorem nA:jq prog 3=true:=by kernel_rfl
theorem Tt:hM prog 83 0 0 3=true:=by kernel_rfl
theorem MF:hM prog 83 2 2 81=true:=by kernel_rfl
theorem SX:jq prog 81=true:=by kernel_rfl
theorem Kx:fu prog 81 70 4=true:=by kernel_rfl
theorem tz:ij prog 70 4=true:=by kernel_rfl
theorem fg:prog.follows .mixedOrders=true:=by kernel_rfl
theorem yk:fu prog 73 72 6=true:=by kernel_rfl
theorem yZ:ij prog 72 6=true:=by kernel_rfl
theorem qS:(prog.info? 72).bind (·.zero)=some (.agg #[.string ⟨#[]⟩,.bool false,.int .i64 0,.int .i64 0,.string ⟨#[]⟩,.int .i64 0]):=by kernel_rfl
theorem KD:hl prog 72 6=true:=by kernel_rfl
theorem F1:fu prog 22 83 4=true:=by kernel_rfl
theorem GV:ij prog 83 4=true:=by kernel_rfl
theorem uH:fu prog 23 78 3=true:=by kernel_rfl
theorem LM:ij prog 78 3=true:=by kernel_rfl
theorem DI:(prog.info? 78).bind (·.zero)=some (.agg #[.string ⟨#[]⟩,.slice none 0 0,.int .i64 0]):=by kernel_rfl
theorem Bn:hM prog 78 1 1 76=true:=by kernel_rfl
theorem Hm:jq prog 76=true:=by kernel_rfl
theorem Dp:fu prog 76 75 6=true:=by kernel_rfl
theorem GU:ij prog 75 6=true:=by kernel_rfl
theorem Tj:hM prog 196 4 8 3=true:=by kernel_rfl
theorem uK:hl prog 3 1=true:=by kernel_rfl
theorem Tk:hM prog 196 5 9 3=true:=by kernel_rfl
theorem Tl:hM prog 196 6 10 9=true:=by kernel_rfl
theorem Qh:hl prog 9 1=true:=by kernel_rfl
theorem yj:fu prog 35 203 2=true:=by kernel_rfl
theorem F2:fu prog 34 128 6=true:=by kernel_rfl
theorem Mz:hM prog 128 2 2 3=true:=by kernel_rfl
theorem Gx:(prog.info? 128).bind (·.zero)=some (.agg #[.string ⟨#[]⟩,.bool false,.int .i64 0,.int .i64 0,.int .i64 0,.string ⟨#[]⟩]):=by kernel_rfl
theorem Kq:kA prog 128 [(0,1),(1,1),(2,1),(3,1),(4,1),(5,1)]=true:=by kernel_rfl
theorem call105:gN prog 105=true:=by kernel_rfl
theorem RH:ij prog 128 6=true:=by kernel_rfl
theorem Zt:ic prog 128 6=true:=by kernel_rfl
theorem rG:fu prog 87 4 1=true:=by kernel_rfl
theorem DG:(prog.info? 203).bind (·.zero)=some (.agg #[.string ⟨#[]⟩,.string ⟨#[]⟩]):=by kernel_rfl
theorem FR:kA prog 203 [(0,1),(1,1)]=true:=by kernel_rfl
theorem Gz:ic prog 203 2=true:=by kernel_rfl
theorem GO:jG prog 35 203 2 32=true:=by kernel_rfl
theorem MC:hM prog 203 1 1 9=true:=by kernel_rfl
theorem call136:gN prog 136=true:=by kernel_rfl
theorem MA:hM prog 128 3 3 3=true:=by kernel_rfl
theorem Ti:hM prog 128 4 4 3=true:=by kernel_rfl
theorem Qe:hl prog 4 1=true:=by kernel_rfl
theorem Hw:hM prog 128 5 5 9=true:=by kernel_rfl
theorem F0:fu prog 194 9 1=true:=by kernel_rfl
theorem DH:(prog.info? 67).bind (·.zero)=some (.agg #[.int .i64 0,.slice none 0 0,.int .i64 0,.string ⟨#[]⟩,.slice none 0 0,.int .i64 0]):=by kernel_rfl
theorem Kt:kA prog 67 [(0,1),(1,1),(2,1),(3,1),(4,1),(5,1)]=true:=by kernel_rfl
theorem ME:hM prog 67 1 1 27=true:=by kernel_rfl
theorem u3:jq prog 27=true:=by kernel_rfl
theorem call138:gN prog 138=true:=by kernel_rfl
theorem lq:ic prog 3 1=true:=by kernel_rfl
theorem gk:fu prog 27 3 1=true:=by kernel_rfl
theorem n_:jG prog 27 3 1 8=true:=by kernel_rfl
theorem Dt:hl prog 27 1=true:=by kernel_rfl
theorem Ts:hM prog 72 2 5 3=true:=by kernel_rfl
theorem K0:ic prog 67 6=true:=by kernel_rfl
theorem F3:fu prog 36 67 6=true:=by kernel_rfl
theorem LC:jG prog 36 67 6 88=true:=by kernel_rfl
theorem YT:hl prog 36 1=true:=by kernel_rfl
theorem LL:ij prog 67 6=true:=by kernel_rfl
theorem tg:(prog.info? 38).bind (·.zero)=some (.agg #[.slice none 0 0,.slice none 0 0,.slice none 0 0,.string ⟨#[]⟩,.string ⟨#[]⟩]):=by kernel_rfl
theorem wz:ij prog 25 4=true:=by kernel_rfl
theorem Ks:kA prog 38 [(0,1),(1,1),(2,1),(3,1),(4,1)]=true:=by kernel_rfl
theorem F6:hl prog 38 5=true:=by kernel_rfl
theorem ja:ij prog 38 5=true:=by kernel_rfl
theorem KY:(prog.info? 4).bind (·.zero)=some (.bool false):=by kernel_rfl
theorem GZ:(prog.info? 4).map (·.bytes)=some 1:=by kernel_rfl
theorem Zq:(prog.info? 196).bind (·.zero)=some (.agg #[.slice none 0 0,.slice none 0 0,.slice none 0 0,.string ⟨#[]⟩,.string ⟨#[]⟩,.slice none 0 0,.slice none 0 0,.slice none 0 0,.int .i64 0,.int .i64 0,.string ⟨#[]⟩,.int .i64 0,.int .i64 0]):=by kernel_rfl
theorem Yk:kA prog 196 [(0,5),(5,1),(6,1),(7,1),(8,1),(9,1),(10,1),(11,1),(12,1)]=true:=by kernel_rfl
theorem Gy:(prog.info? 83).bind (·.zero)=some (.agg #[.int .i64 0,.string ⟨#[]⟩,.slice none 0 0,.int .i64 0]):=by kernel_rfl
theorem call104:gN prog 104=true:=by kernel_rfl
theorem AK:(prog.info? 70).bind (·.zero)=some (.agg #[.string ⟨#[]⟩,.bool false,.int .i64 0,.int .i64 0]):=by kernel_rfl
theorem FU:kA prog 70 [(0,1),(1,1),(2,1),(3,1)]=true:=by kernel_rfl
theorem Zx:ic prog 9 1=true:=by kernel_rfl
theorem Rq:jG prog 194 9 1 16=true:=by kernel_rfl
theorem call108:gN prog 108=true:=by kernel_rfl
theorem RJ:ij prog 203 2=true:=by kernel_rfl
theorem Tm:hM prog 25 3 3 9=true:=by kernel_rfl
theorem RI:ij prog 143 2=true:=by kernel_rfl
theorem Ys:fu prog 138 143 2=true:=by kernel_rfl
theorem Zu:ic prog 143 2=true:=by kernel_rfl
theorem Zo:(prog.info? 143).bind (·.zero)=some (.agg #[.int .i64 0,.int .i64 0]):=by kernel_rfl
theorem Yj:kA prog 143 [(0,1),(1,1)]=true:=by kernel_rfl
theorem uI:fu prog 91 141 2=true:=by kernel_rfl
theorem MB:hM prog 141 0 0 138=true:=by kernel_rfl
theorem Mg:jq prog 138=true:=by kernel_rfl
theorem QA:(prog.info? 141).bind (·.zero)=some (.agg #[.slice none 0 0,.slice none 0 0]):=by kernel_rfl
theorem PO:kA prog 141 [(0,1),(1,1)]=true:=by kernel_rfl
theorem QE:ic prog 141 2=true:=by kernel_rfl
theorem Ru:jG prog 91 141 2 48=true:=by kernel_rfl
theorem Ej:hM prog 141 1 1 139=true:=by kernel_rfl
theorem Mh:jq prog 139=true:=by kernel_rfl
theorem QC:(prog.info? 154).bind (·.zero)=some (.agg #[.int .i64 0,.int .i64 0]):=by kernel_rfl
theorem PR:kA prog 154 [(0,1),(1,1)]=true:=by kernel_rfl
theorem QG:ic prog 154 2=true:=by kernel_rfl
theorem P2:fu prog 139 154 2=true:=by kernel_rfl
theorem Lz:jG prog 139 154 2 16=true:=by kernel_rfl
theorem Qd:hl prog 139 1=true:=by kernel_rfl
theorem RG:ij prog 122 5=true:=by kernel_rfl
theorem Yt:fu prog 26 27 1=true:=by kernel_rfl
theorem Zv:ic prog 27 1=true:=by kernel_rfl
theorem Rr:jG prog 26 27 1 24=true:=by kernel_rfl
theorem call84:gN prog 84=true:=by kernel_rfl
theorem call85:gN prog 85=true:=by kernel_rfl
theorem call83:gN prog 83=true:=by kernel_rfl
theorem call86:gN prog 86=true:=by kernel_rfl
theorem qR:(prog.info? 55).bind (·.zero)=some (.agg #[.int .i64 0,.int .i64 0]):=by kernel_rfl
theorem QB:(prog.info? 151).bind (·.zero)=some (.agg #[.int .i64 0,.int .i64 0,.int .i64 0,.int .i64 0]):=by kernel_rfl
theorem PQ:kA prog 151 [(0,1),(1,1),(2,1),(3,1)]=true:=by kernel_rfl
theorem QF:ic prog 151 4=true:=by kernel_rfl
theorem P5:fu prog 95 151 4=true:=by kernel_rfl
theorem GQ:jG prog 95 151 4 32=true:=by kernel_rfl
theorem uF:kA prog 55 [(0,1),(1,1)]=true:=by kernel_rfl
theorem ym:hl prog 55 2=true:=by kernel_rfl
theorem sB:ij prog 55 2=true:=by kernel_rfl
theorem yu:(prog.info? 41).bind (·.zero)=some (.agg #[.slice none 0 0,.slice none 0 0]):=by kernel_rfl
theorem P4:fu prog 64 55 2=true:=by kernel_rfl
theorem RP:(prog.info? 55).map (·.bytes)=some 16:=by kernel_rfl
theorem KX:(prog.info? 3).bind (·.zero)=some (.int .i64 0):=by kernel_rfl
theorem GY:(prog.info? 3).map (·.bytes)=some 8:=by kernel_rfl
theorem Zw:ic prog 64 1=true:=by kernel_rfl
theorem Yu:fu prog 39 64 1=true:=by kernel_rfl
theorem Rs:jG prog 39 64 1 24=true:=by kernel_rfl
theorem YU:hl prog 39 1=true:=by kernel_rfl
theorem qd:ij prog 41 2=true:=by kernel_rfl
theorem Qf:hl prog 41 2=true:=by kernel_rfl
theorem Yl:kA prog 41 [(0,1),(1,1)]=true:=by kernel_rfl
theorem P1:fu prog 104 47 1=true:=by kernel_rfl
theorem Zp:(prog.info? 178).bind (·.zero)=some (.agg (List.replicate 1000 (Value.bool false)).toArray):=by kernel_rfl
theorem P3:fu prog 47 111 2=true:=by kernel_rfl
theorem GS:ij prog 111 2=true:=by kernel_rfl
theorem KW:(prog.info? 111).bind (·.zero)=some (.agg #[.int .i64 0,.int .i64 0]):=by kernel_rfl
theorem YR:hl prog 111 2=true:=by kernel_rfl
theorem LH:yY prog 178 4 1000 1=true:=by kernel_rfl
theorem Bf:jq prog 104=true:=by kernel_rfl
theorem call92:gN prog 92=true:=by kernel_rfl
theorem uP:(prog.info? 46).bind (·.zero)=some (.agg #[.slice none 0 0,.slice none 0 0,.slice none 0 0]):=by kernel_rfl
theorem FT:kA prog 46 [(0,1),(1,1),(2,1)]=true:=by kernel_rfl
theorem F7:hl prog 46 3=true:=by kernel_rfl
theorem wA:ij prog 46 3=true:=by kernel_rfl
theorem call70:gN prog 70=true:=by kernel_rfl
theorem call71:gN prog 71=true:=by kernel_rfl
theorem MD:hM prog 46 1 1 27=true:=by kernel_rfl
theorem Th:hM prog 111 1 1 3=true:=by kernel_rfl
theorem RL:ij prog 62 2=true:=by kernel_rfl
theorem Zr:(prog.info? 62).bind (·.zero)=some (.agg #[.int .i64 0,.slice none 0 0]):=by kernel_rfl
theorem QH:ic prog 47 1=true:=by kernel_rfl
theorem Ly:jG prog 104 47 1 24=true:=by kernel_rfl
theorem Za:prog.underlying 3=some (.int .i64):=by kernel_rfl
noncomputable abbrev s0:AX prog 3 Int:=Q4 Za
theorem Zy:(prog.info? 3).bind (·.zero)=some (.int .i64 0):=by kernel_rfl
noncomputable abbrev s3:AY prog 3 Int:=Q5 Zy
theorem F9:prog.underlying 157=some (.map 3 3):=by kernel_rfl
theorem Yi:kA prog 111 [(0,1),(1,1)]=true:=by kernel_rfl
theorem Zs:ic prog 111 2=true:=by kernel_rfl
theorem Rt:jG prog 47 111 2 16=true:=by kernel_rfl
theorem call56:gN prog 56=true:=by kernel_rfl
theorem call57:gN prog 57=true:=by kernel_rfl
theorem AJ:(prog.info? 49).bind (·.zero)=some (.agg #[.slice none 0 0,.slice none 0 0,.slice none 0 0,.slice none 0 0,.slice none 0 0,.slice none 0 0,.slice none 0 0,.slice none 0 0,.slice none 0 0,.slice none 0 0,.slice none 0 0]):=by kernel_rfl
theorem qe:ij prog 49 11=true:=by kernel_rfl
theorem YV:hl prog 49 11=true:=by kernel_rfl
theorem v8:kA prog 72 [(0,4),(4,1),(5,1)]=true:=by kernel_rfl
theorem yw:ic prog 72 6=true:=by kernel_rfl
theorem AL:(prog.info? 75).bind (·.zero)=some (.agg #[.slice none 0 0,.string ⟨#[]⟩,.bool false,.int .i64 0,.int .i64 0,.int .i64 0]):=by kernel_rfl
theorem FV:kA prog 75 [(0,1),(1,4),(5,1)]=true:=by kernel_rfl
theorem GA:ic prog 75 6=true:=by kernel_rfl
theorem Ku:kA prog 78 [(0,1),(1,1),(2,1)]=true:=by kernel_rfl
theorem K2:ic prog 78 3=true:=by kernel_rfl
theorem yt:(prog.info? 25).bind (·.zero)=some (.agg #[.string ⟨#[]⟩,.slice none 0 0,.slice none 0 0,.string ⟨#[]⟩]):=by kernel_rfl
theorem Kr:kA prog 25 [(0,1),(1,1),(2,1),(3,1)]=true:=by kernel_rfl
theorem call11:gN prog 11=true:=by kernel_rfl
theorem call13:gN prog 13=true:=by kernel_rfl
theorem call21:gN prog 21=true:=by kernel_rfl
theorem call16:gN prog 16=true:=by kernel_rfl
theorem Ef:tI prog 55 [.i .i64,.i .i64]=true:=by kernel_rfl
theorem call20:gN prog 20=true:=by kernel_rfl
theorem PS:kA prog 83 [(0,1),(1,1),(2,1),(3,1)]=true:=by kernel_rfl
theorem K1:ic prog 70 4=true:=by kernel_rfl
theorem LD:jG prog 81 70 4 40=true:=by kernel_rfl
theorem YW:hl prog 81 1=true:=by kernel_rfl
theorem QI:ic prog 83 4=true:=by kernel_rfl
theorem LA:jG prog 22 83 4 56=true:=by kernel_rfl
theorem D4:jG prog 73 72 6 64=true:=by kernel_rfl
theorem GP:jG prog 76 75 6 72=true:=by kernel_rfl
theorem Qg:hl prog 76 1=true:=by kernel_rfl
theorem LB:jG prog 23 78 3 48=true:=by kernel_rfl
theorem YS:hl prog 23 1=true:=by kernel_rfl
theorem RK:ij prog 29 5=true:=by kernel_rfl
theorem YB {g:FuncId}{caps:List ab} [dp caps] (aO:gN prog g=true) {l r:List ca}{fT:ca->ca->Option Int}(h:pX fT l=some r) (aa:∀ a b v,fT a b=some v->bV prog g (.agg (bP.cells a)::.agg (bP.cells b)::caps) (none::none::caps.map λ_=>none) (ae v)):bV prog 56 [aj bP l,.cW (.func g) [] caps] [some (aj bP r),none] (.bW []):=bV.YF (e:=bP) Tryz.YG Tryz.isAgg111 Tryz.sizeOf111 aO h aa
instance:iX prog 9:={}
instance:c' prog 70 1 1 4:={}
instance:fN prog 4:={}
instance:c' prog 70 0 0 9:={}
instance:fN prog 9:={}
instance:c' prog 70 2 2 3:={}
instance:fN prog 3:={}
instance:c' prog 83 0 0 3:={}
instance:c' prog 83 2 2 81:={}
instance:fN prog 81:={}
instance:ep prog 81 70 4:={}
instance:c' prog 83 1 1 9:={}
instance:kl prog 70 4:={}
instance:AS prog:={}
instance:c' prog 75 0 0 73:={}
instance:fN prog 73:={}
instance:ep prog 73 72 6:={}
instance:kl prog 72 6:={}
instance:h2 prog 72 (.agg #[.string ⟨#[]⟩,.bool false,.int .i64 0,.int .i64 0,.string ⟨#[]⟩,.int .i64 0]):={}
instance:c' prog 72 1 4 9:={}
instance:c' prog 72 0 0 70:={}
instance:c' prog 75 1 1 70:={}
instance:c' prog 25 0 0 9:={}
instance:c' prog 25 1 1 22:={}
instance:fN prog 22:={}
instance:ep prog 22 83 4:={}
instance:kl prog 83 4:={}
instance:c' prog 25 2 2 23:={}
instance:fN prog 23:={}
instance:ep prog 23 78 3:={}
instance:kl prog 78 3:={}
instance:h2 prog 78 (.agg #[.string ⟨#[]⟩,.slice none 0 0,.int .i64 0]):={}
instance:c' prog 78 0 0 9:={}
instance:c' prog 78 1 1 76:={}
instance:fN prog 76:={}
instance:ep prog 76 75 6:={}
instance:kl prog 75 6:={}
instance:c' prog 196 4 8 3:={}
instance:c' prog 196 5 9 3:={}
instance:c' prog 196 6 10 9:={}
instance:c' prog 196 2 6 35:={}
instance:fN prog 35:={}
instance:ep prog 35 203 2:={}
instance:c' prog 203 0 0 9:={}
instance:c' prog 196 0 0 38:={}
instance:c' prog 38 0 0 34:={}
instance:fN prog 34:={}
instance:ep prog 34 128 6:={}
instance:c' prog 128 0 0 9:={}
instance:c' prog 128 1 1 4:={}
instance:c' prog 128 2 2 3:={}
instance:h2 prog 128 (.agg #[.string ⟨#[]⟩,.bool false,.int .i64 0,.int .i64 0,.int .i64 0,.string ⟨#[]⟩]):={}
instance:km prog 128 [(0,1),(1,1),(2,1),(3,1),(4,1),(5,1)]:={}
instance:AT prog 5 .u8:={}
instance:AT prog 3 .i64:={}
instance:c' prog 70 3 3 3:={}
instance:kl prog 128 6:={}
instance:jk prog 34 128 6 64:={}
instance:c' prog 196 1 5 87:={}
instance:fN prog 87:={}
instance:ep prog 87 4 1:={}
instance:jk prog 87 4 1 1:={}
instance:h2 prog 203 (.agg #[.string ⟨#[]⟩,.string ⟨#[]⟩]):={}
instance:km prog 203 [(0,1),(1,1)]:={}
instance:jk prog 35 203 2 32:={}
instance:c' prog 203 1 1 9:={}
instance:c' prog 128 3 3 3:={}
instance:c' prog 196 7 11 3:={}
instance:c' prog 128 4 4 3:={}
instance:c' prog 128 5 5 9:={}
instance:c' prog 196 3 7 194:={}
instance:fN prog 194:={}
instance:ep prog 194 9 1:={}
instance:c' prog 75 2 5 3:={}
instance:h2 prog 67 (.agg #[.int .i64 0,.slice none 0 0,.int .i64 0,.string ⟨#[]⟩,.slice none 0 0,.int .i64 0]):={}
instance:km prog 67 [(0,1),(1,1),(2,1),(3,1),(4,1),(5,1)]:={}
instance:c' prog 67 1 1 27:={}
instance:fN prog 27:={}
instance:ep prog 27 3 1:={}
instance:jk prog 27 3 1 8:={}
instance:c' prog 72 2 5 3:={}
instance:c' prog 67 3 3 9:={}
instance:c' prog 67 5 5 3:={}
instance:c' prog 196 8 12 3:={}
instance:c' prog 38 2 2 36:={}
instance:fN prog 36:={}
instance:ep prog 36 67 6:={}
instance:jk prog 36 67 6 88:={}
instance:c' prog 67 2 2 3:={}
instance:c' prog 67 4 4 27:={}
instance:kl prog 67 6:={}
instance:AT prog 192 .u64:={}
instance:ep prog 114 5 1:={}
instance:h2 prog 38 (.agg #[.slice none 0 0,.slice none 0 0,.slice none 0 0,.string ⟨#[]⟩,.string ⟨#[]⟩]):={}
instance:kl prog 25 4:={}
instance:km prog 38 [(0,1),(1,1),(2,1),(3,1),(4,1)]:={}
instance:kl prog 38 5:={}
instance:h2 prog 4 (.bool false):={}
instance:yE prog 4 1:={}
instance:h2 prog 196 (.agg #[.slice none 0 0,.slice none 0 0,.slice none 0 0,.string ⟨#[]⟩,.string ⟨#[]⟩,.slice none 0 0,.slice none 0 0,.slice none 0 0,.int .i64 0,.int .i64 0,.string ⟨#[]⟩,.int .i64 0,.int .i64 0]):={}
instance:km prog 196 [(0,5),(5,1),(6,1),(7,1),(8,1),(9,1),(10,1),(11,1),(12,1)]:={}
instance:h2 prog 83 (.agg #[.int .i64 0,.string ⟨#[]⟩,.slice none 0 0,.int .i64 0]):={}
instance:h2 prog 70 (.agg #[.string ⟨#[]⟩,.bool false,.int .i64 0,.int .i64 0]):={}
instance:km prog 70 [(0,1),(1,1),(2,1),(3,1)]:={}
instance:c' prog 78 2 2 3:={}
instance:jk prog 194 9 1 16:={}
instance:c' prog 38 1 1 35:={}
instance:kl prog 203 2:={}
instance:c' prog 25 3 3 9:={}
instance:c' prog 38 3 3 9:={}
instance:c' prog 38 4 4 9:={}
instance:c' prog 143 0 0 3:={}
instance:c' prog 143 1 1 3:={}
instance:kl prog 143 2:={}
instance:ep prog 138 143 2:={}
instance:jk prog 138 143 2 16:={}
instance:c' prog 67 0 0 3:={}
instance:h2 prog 143 (.agg #[.int .i64 0,.int .i64 0]):={}
instance:km prog 143 [(0,1),(1,1)]:={}
instance:ep prog 91 141 2:={}
instance:c' prog 141 0 0 138:={}
instance:fN prog 138:={}
instance:h2 prog 141 (.agg #[.slice none 0 0,.slice none 0 0]):={}
instance:km prog 141 [(0,1),(1,1)]:={}
instance:jk prog 91 141 2 48:={}
instance:c' prog 141 1 1 139:={}
instance:fN prog 139:={}
instance:h2 prog 154 (.agg #[.int .i64 0,.int .i64 0]):={}
instance:km prog 154 [(0,1),(1,1)]:={}
instance:ep prog 139 154 2:={}
instance:jk prog 139 154 2 16:={}
instance:c' prog 154 0 0 3:={}
instance:c' prog 154 1 1 3:={}
instance:c' prog 122 4 4 27:={}
instance:c' prog 122 2 2 3:={}
instance:c' prog 122 3 3 4:={}
instance:h2 prog 122 (.agg #[.int .i64 0,.int .i64 0,.int .i64 0,.bool false,.slice none 0 0]):={}
instance:km prog 122 [(0,1),(1,1),(2,1),(3,1),(4,1)]:={}
instance:ep prog 119 145 3:={}
instance:c' prog 145 0 0 3:={}
instance:c' prog 145 2 2 27:={}
instance:c' prog 145 1 1 3:={}
instance:kl prog 122 5:={}
instance:ep prog 92 122 5:={}
instance:jk prog 92 122 5 56:={}
instance:ep prog 26 27 1:={}
instance:h2 prog 174 (.agg #[.int .i64 0,.int .i64 0]):={}
instance:km prog 174 [(0,1),(1,1)]:={}
instance:ep prog 171 174 2:={}
instance:jk prog 171 174 2 16:={}
instance:c' prog 174 0 0 3:={}
instance:c' prog 174 1 1 3:={}
instance:jk prog 26 27 1 24:={}
instance:h2 prog 27 (.slice none 0 0):={}
instance:yE prog 27 24:={}
instance:h2 prog 145 (.agg #[.int .i64 0,.int .i64 0,.slice none 0 0]):={}
instance:km prog 145 [(0,1),(1,1),(2,1)]:={}
instance:kl prog 145 3:={}
instance:jk prog 119 145 3 40:={}
instance:h2 prog 55 (.agg #[.int .i64 0,.int .i64 0]):={}
instance:c' prog 122 0 0 3:={}
instance:c' prog 122 1 1 3:={}
instance:h2 prog 151 (.agg #[.int .i64 0,.int .i64 0,.int .i64 0,.int .i64 0]):={}
instance:km prog 151 [(0,1),(1,1),(2,1),(3,1)]:={}
instance:ep prog 95 151 4:={}
instance:jk prog 95 151 4 32:={}
instance:km prog 55 [(0,1),(1,1)]:={}
instance:kl prog 55 2:={}
instance:h2 prog 41 (.agg #[.slice none 0 0,.slice none 0 0]):={}
instance:ep prog 64 55 2:={}
instance:yE prog 55 16:={}
instance:h2 prog 3 (.int .i64 0):={}
instance:yE prog 3 8:={}
instance:c' prog 41 0 0 39:={}
instance:fN prog 39:={}
instance:ep prog 39 64 1:={}
instance:jk prog 39 64 1 24:={}
instance:c' prog 41 1 1 26:={}
instance:fN prog 26:={}
instance:kl prog 41 2:={}
instance:km prog 41 [(0,1),(1,1)]:={}
instance:ep prog 104 47 1:={}
instance:fN prog 47:={}
instance:h2 prog 178 (.agg (List.replicate 1000 (Value.bool false)).toArray):={}
instance:ep prog 47 111 2:={}
instance:kl prog 111 2:={}
instance:h2 prog 111 (.agg #[.int .i64 0,.int .i64 0]):={}
instance:c' prog 111 0 0 3:={}
instance:fN prog 104:={}
instance:h2 prog 46 (.agg #[.slice none 0 0,.slice none 0 0,.slice none 0 0]):={}
instance:km prog 46 [(0,1),(1,1),(2,1)]:={}
instance:kl prog 46 3:={}
instance:c' prog 46 2 2 27:={}
instance:c' prog 46 0 0 27:={}
instance:c' prog 46 1 1 27:={}
instance:c' prog 111 1 1 3:={}
instance:ep prog 52 62 2:={}
instance:kl prog 62 2:={}
instance:h2 prog 62 (.agg #[.int .i64 0,.slice none 0 0]):={}
instance:c' prog 62 0 0 3:={}
instance:c' prog 62 1 1 47:={}
instance:jk prog 104 47 1 24:={}
instance:h2 prog 3 (.int .i64 0):={}
instance:c' prog 55 0 0 3:={}
instance:c' prog 55 1 1 3:={}
instance:fN prog 64:={}
instance:km prog 62 [(0,1),(1,1)]:={}
instance:km prog 111 [(0,1),(1,1)]:={}
instance:jk prog 47 111 2 16:={}
instance:jk prog 52 62 2 32:={}
instance:h2 prog 49 (.agg #[.slice none 0 0,.slice none 0 0,.slice none 0 0,.slice none 0 0,.slice none 0 0,.slice none 0 0,.slice none 0 0,.slice none 0 0,.slice none 0 0,.slice none 0 0,.slice none 0 0]):={}
instance:c' prog 49 0 0 27:={}
instance:c' prog 49 1 1 46:={}
instance:c' prog 49 2 4 27:={}
instance:c' prog 49 3 5 46:={}
instance:c' prog 49 4 8 27:={}
instance:c' prog 49 5 9 27:={}
instance:c' prog 49 6 10 47:={}
instance:kl prog 49 11:={}
instance:km prog 72 [(0,4),(4,1),(5,1)]:={}
instance:h2 prog 75 (.agg #[.slice none 0 0,.string ⟨#[]⟩,.bool false,.int .i64 0,.int .i64 0,.int .i64 0]):={}
instance:km prog 75 [(0,1),(1,4),(5,1)]:={}
instance:km prog 78 [(0,1),(1,1),(2,1)]:={}
instance:h2 prog 25 (.agg #[.string ⟨#[]⟩,.slice none 0 0,.slice none 0 0,.string ⟨#[]⟩]):={}
instance:km prog 25 [(0,1),(1,1),(2,1),(3,1)]:={}
instance:c' prog 83 3 3 3:={}
instance:km prog 83 [(0,1),(1,1),(2,1),(3,1)]:={}
instance:jk prog 81 70 4 40:={}
instance:jk prog 22 83 4 56:={}
instance:jk prog 73 72 6 64:={}
instance:jk prog 76 75 6 72:={}
instance:jk prog 23 78 3 48:={}
instance:c' prog 29 0 0 3:={}
instance:c' prog 29 2 2 27:={}
instance:c' prog 29 1 1 26:={}
instance:c' prog 29 3 3 27:={}
instance:c' prog 29 4 4 4:={}
instance:kl prog 29 5:={}
instance:ep prog 33 25 4:={}
instance:hs prog 22 Decl dB:={}
instance:hs prog 23 fk gO:={}
instance:hs prog 26 (List Int) (bp ai):={}
instance:hs prog 27 Int ai:={}
instance:hs prog 33 Source hh:={}
instance:hs prog 34 bX b0:={}
instance:hs prog 35 fF bH:={}
instance:hs prog 36 Prod cE:={}
instance:hs prog 39 (List Act) (bp eh):={}
instance:hs prog 47 ca bP:={}
instance:hs prog 52 Row jJ:={}
instance:hs prog 64 Act eh:={}
instance:hs prog 73 Part e7:={}
instance:hs prog 76 Alt e2:={}
instance:hs prog 81 Sym dE:={}
instance:hs prog 87 Bool cr:={}
instance:hs prog 92 Cell iF:={}
instance:hs prog 95 fj e3:={}
instance:hs prog 104 (List ca) (bp bP):={}
instance:hs prog 114 Int qi:={}
instance:hs prog 119 k2 rV:={}
instance:hs prog 138 Item fU:={}
instance:hs prog 139 Move lF:={}
instance:hs prog 171 Trans qh:={}
instance:hs prog 194 ByteArray dx:={}
instance aad {a0:Int}{r:Bool}:bA prog 149 (CP a0=some r) [q3 a0] [none] (a_ r):=⟨λh=>by unfold CP at h; exact bV.bq (N:=⟨21,[]⟩) [0,2] (.ev 1 [2] (λ(kJ:Bool)=>[(2,a_ kJ)]) .e) func149 rfl rfl rfl rfl rfl dH⟩
instance aaf {a0:Int}{r:Bool}:bA prog 150 (CQ a0=some r) [q3 a0] [none] (a_ r):=⟨λh=>by unfold CQ at h; exact bV.bq (N:=⟨9,[]⟩) [0,2] (.ev 1 [2] (λ(c2:Bool)=>[(2,a_ c2)]) .e) func150 rfl rfl rfl rfl rfl dH⟩
instance Z' {a0:ByteArray}{aE:Int}{r:Int}:bA prog 144 (CO a0 aE=some r) [ay a0,ae aE] [none,none] (ae r):=⟨λh=>by unfold CO at h; exact bV.bq (N:=⟨43,[]⟩) [0,1,4,5,39] (.eP (λ(s1:Int)=>[(5,ae s1)]) [0,1,5] 0 (λ(x2:Int)=>[(5,ae x2)]) [5] (.ev 2 [0,1,5,39] (λ(jT:Bool)=>[(39,a_ jT)]) .e) .e) func144 rfl rfl rfl rfl rfl dH⟩
instance Z4 {a0:ByteArray}{r:Bool}:bA prog 134 (vN a0=some r) [ay a0] [none] (a_ r):=⟨λh=>by unfold vN at h; exact bV.bq (N:=⟨18,[]⟩) [0,2] (.ev 1 [2] (λ(c4:Bool)=>[(2,a_ c4)]) .e) func134 rfl rfl rfl rfl rfl dH⟩
instance aac {a0:Int}{r:Int × Bool}:bA prog 148 (z7 a0=some r) [q3 a0] [none] (.bW [q3 r.1,a_ r.2]):=⟨λh=>by unfold z7 at h; exact bV.bq (N:=⟨21,[]⟩) [0,2,3,4,5,7,9,11] (.b .e (.b .e (.b .e (.dF [0,11] (λ(Jt:Bool)=>[(11,a_ Jt)]) .e (.b .e (.ev 11 [2,3] (λ(tE:Int × Bool)=>[(2,q3 tE.1),(3,a_ tE.2)]) .e)))))) func148 rfl rfl rfl rfl rfl dH⟩
instance Z_ {a0:Sym}{aE:Bool}{a2:Bool}{r:Bool}:bA prog 143 (uw a0 aE a2=some r) [.agg (dE.cells a0),a_ aE,a_ a2] [none,none,none] (a_ r):=⟨λh=>by unfold uw at h; exact bV.bq (N:=⟨53,[]⟩) [1,2,3,6,8,10,23] (.b (.ev 2 [3,23] (λ(c4:Bool)=>[(23,a_ c4)]) .e) (.ev 6 [6] (λ(jT:Bool)=>[(6,a_ jT)]) .e)) func143 rfl rfl rfl rfl rfl dH⟩
instance Z3 {a0:Decl}{r:Bool}:bA prog 133 (xT a0=some r) [.agg (dB.cells a0)] [none] (a_ r):=⟨λh=>by unfold xT at h; exact bV.bq (N:=⟨75,[]⟩) [1,2,3,54,59,74] (.ev 1 [1,54] (λ(tB:Bool)=>[(54,a_ tB)]) (.b .e (.gw (λ(lU:Int)=>[(3,ae lU)]) [1,3] 0 (λ(eX:Unit)=>[]) [] (λ(dM:Bool)=>[(2,a_ dM)]) [2] (.b (.rd 6 [[],[0],[],[0,1,2],[0,1,2,3],[],[5],[5,6],[],[8],[8,9],aH 0 11 [],aH 0 12 []] .e) .e) .e .e))) func133 rfl rfl rfl rfl rfl dH⟩
instance aaa {a0:Sym}{r:Bool}:bA prog 145 (ux a0=some r) [.agg (dE.cells a0)] [none] (a_ r):=⟨λh=>by unfold ux at h; exact bV.bq (N:=⟨16,[]⟩) [1,2] (.ev 1 [2] (λ(jU:Bool)=>[(2,a_ jU)]) .e) func145 rfl rfl rfl rfl rfl dH⟩
instance aah {a0:ByteArray}{aE:Int}{a2:ByteArray}{r:Bool}:bA prog 152 (xV a0 aE a2=some r) [ay a0,ae aE,ay a2] [none,none,none] (a_ r):=⟨λh=>by unfold xV at h; exact bV.bq (N:=⟨25,[]⟩) [0,1,2,6] (.ev 1 [6] (λ(jU:Bool)=>[(6,a_ jU)]) .e) func152 rfl rfl rfl rfl rfl dH⟩
instance aag {a0:ByteArray}{aE:Int}{r:Int}:bA prog 151 (CR a0 aE=some r) [ay a0,ae aE] [none,none] (ae r):=⟨λh=>by unfold CR at h; exact bV.bq (N:=⟨114,[]⟩) [0,1,4,5,6,7,8,9,31,40,46,58,59,69,75,78,92,96,105,110] (.ev 1 [0,1,9] (λ(c4:Bool)=>[(9,a_ c4)]) (.b (.gw (λ(db:Int)=>[(5,ae db)]) [0,1,5] 1 (λ(b6:Unit)=>[]) [] (λ(cw:Int)=>[(4,ae cw)]) [4] (.ev 3 [0,1,5,31] (λ(wJ:Bool)=>[(31,a_ wJ)]) (.b (.rd 5 [[],[],[0,1],[],[],[3,4],aH 0 6 []] (.b .e (.b (.ev 9 [0,1,5,58] (λ(q7:Bool)=>[(58,a_ q7)]) .e) .e))) .e)) .e .e) (.b (.gw (λ(ki:Int)=>[(6,ae ki)]) [0,6] 3 (λ(dX:Unit)=>[]) [] (λ(cX:Int)=>[(4,ae cX)]) [4] .e .e .e) (.b (.eP (λ(d_:Int)=>[(7,ae d_)]) [0,7] 5 (λ(eo:Int)=>[(7,ae eo)]) [7] (.ev 21 [0,7,92] (λ(wM:Bool)=>[(92,a_ wM)]) .e) .e) (.b (.gw (λ(Az:Int)=>[(8,ae Az)]) [0,8] 7 (λ(p2:Unit)=>[]) [] (λ(oz:Int)=>[(4,ae oz)]) [4] .e .e .e) .e))))) func151 rfl rfl rfl rfl rfl dH⟩
instance aab {a0:ByteArray}{aE:Int}{r:Int}:bA prog 146 (z6 a0 aE=some r) [ay a0,ae aE] [none,none] (ae r):=⟨λh=>by unfold z6 at h; exact bV.bq (N:=⟨53,[]⟩) [0,1,4,5,6,7,21,26,31,34,39,45,51] (.ev 1 [0,1,21] (λ(c4:Bool)=>[(21,a_ c4)]) (.b .e (.gw (λ(db:Int × Int)=>[(5,ae db.1),(6,ae db.2)]) [0,5,6] 0 (λ(b6:Unit)=>[]) [] (λ(cw:Int)=>[(4,ae cw)]) [4] (.b (.b .e (.b .e (.dF [0,5,6] (λ(oq:Int)=>[(5,ae oq)]) .e (.dF [0,5,6] (λ(E6:Int)=>[(5,ae E6)]) .e .e)))) .e) .e .e))) func146 rfl rfl rfl rfl rfl dH⟩
instance Z5 {a0:Alt}{r:Bool}:bA prog 135 (xU a0=some r) [.agg (e2.cells a0)] [none] (a_ r):=⟨λh=>by unfold xU at h; exact bV.bq (N:=⟨54,[]⟩) [1,2,3,4,9,45] (.gw (λ(s1:Int)=>[(3,ae s1)]) [1,3] 0 (λ(a7:Unit)=>[]) [1] (λ(bs:Bool)=>[(2,a_ bs)]) [2] (.b (.bS 5 [[],[0],[0,1],[0,1,2],[0,1,2,3],aH 0 5 [],aH 0 6 [],aH 0 7 [],aH 0 8 [],aH 0 9 [],aH 0 10 [],aH 0 11 [],aH 0 12 [],aH 0 13 [],aH 0 14 [],aH 0 15 [],aH 0 16 [],aH 0 17 [],aH 0 18 [],aH 0 19 [],aH 0 20 [],aH 0 21 [],aH 0 19 [],aH 0 19 [22],aH 0 19 [22,23],aH 0 25 [],aH 0 26 [],aH 0 27 [],aH 0 28 []] [1,3,45] (λ(nz:Bool)=>[(45,a_ nz)]) .e) .e) (.ev 7 [2] (λ(G':Bool)=>[(2,a_ G')]) .e) .e) func135 rfl rfl rfl rfl rfl dH⟩
instance ZK {a0:Source}{r:Bool}:bA prog 103 (xR a0=some r) [.agg (hh.cells a0)] [none] (a_ r):=⟨λh=>by unfold xR at h; exact bV.bq (N:=⟨77,[]⟩) [1,2,3,4,5,6,7,13,22,27,36,41,58,63,72] (.gw (λ(s1:Int)=>[(3,ae s1)]) [1,3] 0 (λ(a7:Unit)=>[]) [1] (λ(bs:Bool)=>[(2,a_ bs)]) [2] .e (.gw (λ(dw:Int)=>[(4,ae dw)]) [1,4] 2 (λ(bI:Unit)=>[]) [1] (λ(cq:Bool)=>[(2,a_ cq)]) [2] .e (.gw (λ(nn:Int)=>[(5,ae nn)]) [1,5] 4 (λ(dP:Unit)=>[]) [1] (λ(eX:Bool)=>[(2,a_ eX)]) [2] (.b (.ev 15 [1,5,6,58] (λ(oI:Bool)=>[(58,a_ oI)]) (.b .e (.gw (λ(oZ:Int)=>[(7,ae oZ)]) [1,5,6,7] 6 (λ(cX:Unit)=>[]) [1,5] (λ(eb:Bool)=>[(2,a_ eb)]) [2] .e .e .e))) .e) .e .e) .e) .e) func103 rfl rfl rfl rfl rfl dH⟩
instance ZM {a0:dv}{aE:Int}{a2:ByteArray}{r:dv}:bA prog 105 (nV a0 aE a2=some r) [.obj (dR.cells a0),ae aE,ay a2] [some (.obj [aj b0 r.aG.ba,aj bH r.aG.b3,aj cE r.aG.bj,ay r.aG.cC,ay r.aG.cK,aj cr r.cu,aj bH r.cL,aj dx r.cb,ae r.c3,ae r.dn,ay r.dk,ae r.ct,ae r.b_]),none,none] (.bW []):=⟨λh=>by unfold nV at h; exact bV.bq (N:=⟨22,[0]⟩) [0,1,2,10] (.dF [0] (λ(jt:dv)=>[(0,.obj (dR.cells jt))]) .e .e) func105 rfl rfl rfl rfl rfl dH⟩
instance ZQ {a0:dv}{aE:ByteArray}{r:Int}:bA prog 109 (zW a0 aE=some r) [.cI ([ag b0 a0.aG.ba,ag bH a0.aG.b3,ag cE a0.aG.bj,ay a0.aG.cC,ay a0.aG.cK,ag cr a0.cu,ag bH a0.cL,ag dx a0.cb,ae a0.c3,ae a0.dn,ay a0.dk,ae a0.ct,ae a0.b_]),ay aE] [none,none] (ae r):=⟨λh=>by unfold zW at h; exact bV.bq (N:=⟨26,[]⟩) [0,1,4,5,12,24] (.gw (λ(s1:Int)=>[(5,ae s1)]) [0,1,5] 0 (λ(a7:Unit)=>[]) [] (λ(bs:Int)=>[(4,ae bs)]) [4] .e .e .e) func109 rfl rfl rfl rfl rfl dH⟩
instance ZN {a0:dv}{aE:Sym}{r:Int}:bA prog 106 (uv a0 aE=some r) [.cI ([ag b0 a0.aG.ba,ag bH a0.aG.b3,ag cE a0.aG.bj,ay a0.aG.cC,ay a0.aG.cK,ag cr a0.cu,ag bH a0.cL,ag dx a0.cb,ae a0.c3,ae a0.dn,ay a0.dk,ae a0.ct,ae a0.b_]),.agg (dE.cells aE)] [none,none] (ae r):=⟨λh=>by unfold uv at h; exact bV.bq (N:=⟨47,[]⟩) [0,3,4,5,13,45] (.gw (λ(s1:Int)=>[(5,ae s1)]) [0,3,5] 0 (λ(a7:Unit)=>[]) [] (λ(bs:Int)=>[(4,ae bs)]) [4] (.b (.bS 4 [[],[0],[0,1],[0,1,2],[0,1,2,3],[],aH 0 6 [],aH 0 7 [],aH 0 8 [],[],[9],aH 0 11 [],aH 0 12 [],aH 0 13 [],aH 0 14 [],aH 0 15 [],aH 0 16 [],aH 0 17 [],aH 0 13 [],aH 0 19 [],aH 0 20 [],aH 0 21 [],aH 0 13 [],aH 0 13 [22],aH 0 24 [],aH 0 25 [],aH 0 26 [],aH 0 27 [],aH 0 28 [],aH 0 29 []] [0,3,5,45] (λ(ik:Bool)=>[(45,a_ ik)]) .e) .e) .e .e) func106 rfl rfl rfl rfl rfl dH⟩
instance Z7 {a0:dv}{aE:Int}{r:Int}:bA prog 137 (vP a0 aE=some r) [.cI ([ag b0 a0.aG.ba,ag bH a0.aG.b3,ag cE a0.aG.bj,ay a0.aG.cC,ay a0.aG.cK,ag cr a0.cu,ag bH a0.cL,ag dx a0.cb,ae a0.c3,ae a0.dn,ay a0.dk,ae a0.ct,ae a0.b_]),ae aE] [none,none] (ae r):=⟨λh=>by unfold vP at h; exact bV.bq (N:=⟨28,[]⟩) [0,1,4,5,13,26] (.gw (λ(s1:Int)=>[(5,ae s1)]) [0,1,5] 0 (λ(a7:Unit)=>[]) [] (λ(bs:Int)=>[(4,ae bs)]) [4] .e .e .e) func137 rfl rfl rfl rfl rfl dH⟩
instance Z6 {a0:dv}{aE:Sym}{r:Int × dv}:bA prog 136 (vO a0 aE=some r) [.obj (dR.cells a0),.agg (dE.cells aE)] [some (.obj [aj b0 r.2.aG.ba,aj bH r.2.aG.b3,aj cE r.2.aG.bj,ay r.2.aG.cC,ay r.2.aG.cK,aj cr r.2.cu,aj bH r.2.cL,aj dx r.2.cb,ae r.2.c3,ae r.2.dn,ay r.2.dk,ae r.2.ct,ae r.2.b_]),none] (ae r.1):=⟨λh=>by unfold vO at h; exact bV.bq (N:=⟨66,[0]⟩) [0,3,4,5,6,11,19,29] (.b .e (.dF [0,3,6] (λ(iv:dv × Int)=>[(0,.obj (dR.cells iv.1)),(3006,ae iv.2)]) (.b (.dF [0,3,6] (λ(kS:dv)=>[(0,.obj (dR.cells kS))]) .e .e) .e) (.rd 9 [[],[],[1],[1,2],[1,2,3],[1,2,3,4],[],[6],aH 1 7 [],aH 0 9 [],aH 0 10 [],aH 0 11 [],aH 0 12 []] (.rd 10 [[],[],[1],[1,2],[1,2,3],[],[5],[5,6],aH 1 7 [],aH 0 9 [],aH 0 10 [],aH 0 11 []] .e)))) func136 rfl rfl rfl rfl rfl dH⟩
theorem Hl (v:Value) (a0:dv) (aE:Int) (a2:ByteArray) (r:dv) (h:nV a0 aE a2=some r):bV prog 105 [.obj [.lit v,aj bH a0.aG.b3,aj cE a0.aG.bj,ay a0.aG.cC,ay a0.aG.cK,aj cr a0.cu,aj bH a0.cL,aj dx a0.cb,ae a0.c3,ae a0.dn,ay a0.dk,ae a0.ct,ae a0.b_],ae aE,ay a2] [some (.obj [.lit v,aj bH r.aG.b3,aj cE r.aG.bj,ay r.aG.cC,ay r.aG.cK,aj cr r.cu,aj bH r.cL,aj dx r.cb,ae r.c3,ae r.dn,ay r.dk,ae r.ct,ae r.b_]),none,none] (.bW []):=by
 unfold nV at h;refine bV.go (N:=⟨22,[0]⟩) func105 q q q q (W.fin ?_);refine W.st [(0,.obj [.lit v,aj bH a0.aG.b3,aj cE a0.aG.bj,ay a0.aG.cC,ay a0.aG.cK,aj cr a0.cu,aj bH a0.cL,aj dx a0.cb,ae a0.c3,ae a0.dn,ay a0.dk,ae a0.ct,ae a0.b_]),(1,ae aE),(2,ay a2)] ?_;refine W.cp [0,1,2,10] ?_;refine aJ h λjt ah h=>W.fL [0] [(0,.obj [.lit v,aj bH jt.aG.b3,aj cE jt.aG.bj,ay jt.aG.cC,ay jt.aG.cK,aj cr jt.cu,aj bH jt.cL,aj dx jt.cb,ae jt.c3,ae jt.dn,ay jt.dk,ae jt.ct,ae jt.b_])] ?_ ?_
 ·clear h; have h:=ah; clear ah;refine W.b8 h q (λgH h=>?_) (λgH h=>?_)
  ·refine W.bS [0] (al (O.aX .z4)<|al (O.aX .z4)<|al (O.aX .z4)<|bZ q<|bZ q<|al (O.eT .z5)<|al O.y2<|ar.jh (G2:=[(0,_),(12,.ptr ⟨0,[]⟩ 0),(13,.ptr ⟨0,[]⟩ 0),(14,_),(15,_)]) (cs2:=[.lit v,aj bH a0.aG.b3,aj cE a0.aG.bj,ay a0.aG.cC,ay a0.aG.cK,aj cr a0.cu,aj bH a0.cL,aj dx a0.cb,ae 3,ae a0.dn,ay a0.dk,ae a0.ct,ae a0.b_]) q (.ptr q) (.k q) q uK q q q q (.b q (.p q q q q q q (.p q q q q q q (.n q q (.n q q .nil)))))<|al (O.eT .z5)<|al O.y2<|ar.jh (G2:=[(0,_),(13,.ptr ⟨0,[]⟩ 0),(15,_)]) (cs2:=[.lit v,aj bH a0.aG.b3,aj cE a0.aG.bj,ay a0.aG.cC,ay a0.aG.cK,aj cr a0.cu,aj bH a0.cL,aj dx a0.cb,ae 3,ae aE,ay a0.dk,ae a0.ct,ae a0.b_]) q (.ptr q) (.lit q) q uK q q q q (.b q (.p q q q q q q (.n q q .nil)))<|al (O.eT .z5)<|al O.y2<|ar.eD (bk.nq [0])<|bL q) ?_;exact aV h ▸ aA.dS
  ·exact W.cZ<|aV h ▸ aA.dS
 exact aV h ▸ aA.fin (Fin.ro .nil q (CF (by kernel_rfl)) (.aq q q (.no (.no .nil))) q (.inl q))
theorem Ss (a0:dv) (aE:Decl) (a2:Sym) (r:dv) (h:vK a0 aE a2=some r):bV prog 104 [.obj (dR.cells a0),.agg (dB.cells aE),.agg (dE.cells a2)] [some (.obj [aj b0 r.aG.ba,aj bH r.aG.b3,aj cE r.aG.bj,ay r.aG.cC,ay r.aG.cK,aj cr r.cu,aj bH r.cL,aj dx r.cb,ae r.c3,ae r.dn,ay r.dk,ae r.ct,ae r.b_]),none,none] (.bW []):=by
 unfold vK at h;refine bV.go (N:=⟨152,[0]⟩) func104 q q q q (W.fin ?_);refine W.st [(0,.obj (dR.cells a0)),(1,.agg (dB.cells aE)),(2,.agg (dE.cells a2))] ?_;refine W.cN [0,4,5] (al (O.box (.ds q q) q)<|al (O.box (.ds q q) q)<|bL q) ?_;refine W.bB<|W.cp [0,4,5,11] ?_;refine W.b8 h q (λnC h=>?_) (λnC h=>?_)
 ·refine aJ h λx2 iu h=>W.cN [0,4,5,6] (al (O.aX .z4)<|al O.bx<|al O.ed<|gr (cB.pZ (ys:=[.ptr ⟨0,[]⟩ 0,ay a2.Name]) q (.c (View.nU q q) (.s .nil)) (bA.go iu))<|ar.bq) ?_;refine W.bB<|W.cp [0,4,5,6,17] ?_;refine aJ h λiv ah h=>W.fL [0] [(0,.obj (dR.cells iv))] ?_ ?_
  ·clear h; have h:=ah; clear ah;refine W.b8 h q (λoO h=>?_) (λoO h=>?_)
   ·refine aJ h λbT qz h=>W.rd [[],[],[1],[1,2],[1,2,3],[],[5],[],[7],[5,6,7,8],aH 5 5 [],aH 1 10 [],aH 0 12 [],aH 0 13 [],aH 0 14 []] [(0,_)] fg (by kernel_rfl) (aD 0 (O.aX .z4)<|aD 1 (O.aX .z4)<|aD 2 (O.eT .z5)<|aD 3 O.y2<|aD 4 (O.c7 (y:=.a6 bH.z ⟨0,[6]⟩ a0.cL.length))<|aD 5 O.bx<|aD 6 O.ed<|aD 7 O.bx<|aD 8 O.ed<|aD 9 (O.ej (cs:=[ay a2.Name,ay aE.Tag]) FR DG q q q)<|bz.fh 10 (x:=ag bH [(⟨a2.Name,aE.Tag⟩:fF)]) (O.dc (ys:=[.agg [ay a2.Name,ay aE.Tag]]) bH [(⟨a2.Name,aE.Tag⟩:fF)] yj q q q q q q Gz q q) q q q q .none<|aD 11 (O.ap (en:=bH) (r:=bT) .dg q .z2 .i GO q qz)<|aD 12 (O.eT .z5)<|aD 13 O.y2<|bz.hx 14 (bk.sp [0])<|bz.fin q q q (.n q .nil)) ?_;exact aV h ▸ aA.dS
   ·refine W.bB<|aJ h λbC l' h=>W.rd [[],[0],[0,1],[0,1,2],[],aH 0 5 [],aH 0 6 [],aH 0 7 [],[],[8],aH 0 10 []] [(0,_),(5,_),(42,_)] fg (by kernel_rfl) (aD 0 (O.aX .z4)<|aD 1 (O.eT .z5)<|aD 2 O.y2<|aD 3 (O.c7 (y:=.a6 bH.z ⟨0,[6]⟩ a0.cL.length))<|aD 4 (O.aX (.lit q))<|aD 5 (O.fY (en:=bH) q .dg .bh yj l' q)<|aD 6 (O.ka (en:=bH) q .z5 MC l' q q)<|aD 7 (O.iw (en:=bH) (x':=ay bC.Tag) q .z5 wR l' q q)<|aD 8 O.bx<|aD 9 O.ed<|aD 10 (O.ov .bh .bh)<|bz.fin q q q (o4 q q q)) ?_;refine aA.bw<|aJ h λkS ah h=>W.fL [0] [(0,.obj (dR.cells kS))] ?_ ?_
    ·clear h; have h:=ah; clear ah;refine W.b8 h q (λtV h=>?_) (λtV h=>?_)
     ·refine aJ h λcw pI h=>W.bS [0] (al (O.aX .z4)<|al O.bx<|al O.ed<|al O.bx<|al O.ed<|ar.kL q (bk.call q q (hJ.nh (G2:=[]) (A:=[]) (ys:=[.ptr ⟨0,[]⟩ 0,ae a2.At,ay a2.Name]) (args:=[.obj (dR.cells a0),ae a2.At,ay a2.Name]) (cs':=dR.cells cw) (k0:=0) q q q q (.b q (.n q (.n q .nil))) q (bA.go pI) call105 .nil q q .nil .nil q))<|bL q) ?_;exact aV h ▸ aA.dS
     ·exact W.cZ<|aV h ▸ aA.dS
    exact aV h ▸ aA.dS
  exact aA.bw<|W.rt<|aA.hZ<|aV h ▸ aA.fin (Fin.ro .nil q (CF (by kernel_rfl)) (.aq q q (.no (.no .nil))) q (.inr q))
 ·refine W.cZ<|aA.bw<|aJ h λbI qx h=>W.cN [0,4,5,7] (al (O.aX .z4)<|al (O.ek (cs':=dE.cells a2) q .z4 tz q q)<|ar.kL q (bk.call q q (hJ.nh (G2:=[(4,.obj (dB.cells aE)),(5,.obj (dE.cells a2))]) (A:=[]) (ys:=[.ptr ⟨0,[]⟩ 0,.agg (dE.cells a2)]) (args:=[.obj (dR.cells a0),.agg (dE.cells a2)]) (cs':=dR.cells bI.2) (k0:=0) q q q q (.b q (.n q .nil)) q (bA.go qx) call136 (kX q q) q q (kX q q) .nil q))<|ar.bq) ?_;refine aJ h λcq lN h=>W.rs [(0,_),(4,_),(5,_),(7,_),(8,.ptr ⟨0,[0]⟩ (bI.1.toNat * b0.z+0))] (al (O.aX .z4)<|al (O.eT .z5)<|al O.y2<|al O.y2<|al (O.c7 (y:=.a6 b0.z ⟨0,[0]⟩ bI.2.aG.ba.length))<|bZ q<|al (O.fY (en:=b0) q .dg .bh F2 lN q)<|al (O.az .z5)<|gT (.n q (.n q (.n q (.n q (.r q (di.el (en:=b0) q lN q) jx .nil)))))) ?_;refine W.bB<|W.rs [(0,_),(4,_),(5,_),(7,_),(8,.ptr ⟨0,[0]⟩ (bI.1.toNat * b0.z+0)),(61,_)] (al O.bx<|al O.ed<|al (O.neq .bh .cD)<|gT (.n q (.n q (.n q (.n q (.r q (di.el (en:=b0) q lN q) jx (.n q .nil))))))) ?_;refine aJ h λeO ah h=>W.fL [0,4,5,7,8] [(0,.obj (dR.cells eO))] ?_ ?_
  ·clear h; have h:=ah; clear ah;refine W.b8 h q (λoN h=>?_) (λoN h=>?_)
   ·refine W.bB<|W.rs [(0,_),(4,_),(5,_),(7,_),(8,.ptr ⟨0,[0]⟩ (bI.1.toNat * b0.z+0)),(66,_)] (al (O.aX .z5)<|al (O.eT .z5)<|al (O.ka (en:=b0) q .z5 MA lN q q)<|al (O.iw (en:=b0) (x':=ae cq.Level) q .z5 nA lN q q)<|al (O.gtr .bh .cD)<|gT (.n q (.n q (.n q (.n q (.r q (di.el (en:=b0) q lN q) jx (.n q .nil))))))) ?_;refine aJ h λde ah h=>W.fL [0,4,5,7,8] [(0,.obj (dR.cells de))] ?_ ?_
    ·clear h; have h:=ah; clear ah;refine W.b8 h q (λkd h=>?_) (λkd h=>?_)
     ·refine aJ h λcd pF h=>W.rx [(0,_),(4,_),(5,_),(7,_),(8,.ptr ⟨0,[0]⟩ (bI.1.toNat * b0.z+0))] (al (O.aX .z4)<|al O.bx<|al O.ed<|al O.bx<|al O.ed<|ar.kL (G2:=[(8,.ptr ⟨0,[0]⟩ (bI.1.toNat * b0.z+0))]++[(72,.bW []),(0,.obj [aj b0 bI.2.aG.ba,aj bH cd.aG.b3,aj cE cd.aG.bj,ay cd.aG.cC,ay cd.aG.cK,aj cr cd.cu,aj bH cd.cL,aj dx cd.cb,ae cd.c3,ae cd.dn,ay cd.dk,ae cd.ct,ae cd.b_]),(4,.obj (dB.cells aE)),(5,.obj (dE.cells a2)),(7,ae bI.1)]) q (bk.eS (r:=0) (k0:=0) (y:=aj b0 bI.2.aG.ba) (cs5:=[aj b0 bI.2.aG.ba,aj bH cd.aG.b3,aj cE cd.aG.bj,ay cd.aG.cC,ay cd.aG.cK,aj cr cd.cu,aj bH cd.cL,aj dx cd.cb,ae cd.c3,ae cd.dn,ay cd.dk,ae cd.ct,ae cd.b_]) (G1:=λv=>[(0,.obj [.lit v,aj bH bI.2.aG.b3,aj cE bI.2.aG.bj,ay bI.2.aG.cC,ay bI.2.aG.cK,aj cr bI.2.cu,aj bH bI.2.cL,aj dx bI.2.cb,ae bI.2.c3,ae bI.2.dn,ay bI.2.dk,ae bI.2.ct,ae bI.2.b_]),(4,.obj (dB.cells aE)),(5,.obj (dE.cells a2)),(7,ae bI.1),(67,.ptr ⟨0,[]⟩ 0),(69,ae a2.At),(71,ay a2.Name)]) (G4:=λv=>[(72,.bW []),(0,.obj [.lit v,aj bH cd.aG.b3,aj cE cd.aG.bj,ay cd.aG.cC,ay cd.aG.cK,aj cr cd.cu,aj bH cd.cL,aj dx cd.cb,ae cd.c3,ae cd.dn,ay cd.dk,ae cd.ct,ae cd.b_]),(4,.obj (dB.cells aE)),(5,.obj (dE.cells a2)),(7,ae bI.1)]) (c4:=λv=>[.lit v,aj bH cd.aG.b3,aj cE cd.aG.bj,ay cd.aG.cC,ay cd.aG.cK,aj cr cd.cu,aj bH cd.cL,aj dx cd.cb,ae cd.c3,ae cd.dn,ay cd.dk,ae cd.ct,ae cd.b_]) (G5:=[(72,.bW []),(0,.obj [aj b0 bI.2.aG.ba,aj bH cd.aG.b3,aj cE cd.aG.bj,ay cd.aG.cC,ay cd.aG.cK,aj cr cd.cu,aj bH cd.cL,aj dx cd.cb,ae cd.c3,ae cd.dn,ay cd.dk,ae cd.ct,ae cd.b_]),(4,.obj (dB.cells aE)),(5,.obj (dE.cells a2)),(7,ae bI.1)]) (A:=[(8,.ptr ⟨0,[0]⟩ (bI.1.toNat * b0.z+0))]) q q q q (λv=>(.b q (.n q q (.n q q (.n q q (.p q q q q q q (.n q q (.n q q .nil)))))))) (λv=>hJ.nh (G2:=[(4,.obj (dB.cells aE)),(5,.obj (dE.cells a2)),(7,ae bI.1)]) (A:=[]) (ys:=[.ptr ⟨0,[]⟩ 0,ae a2.At,ay a2.Name]) (args:=[.obj [.lit v,aj bH bI.2.aG.b3,aj cE bI.2.aG.bj,ay bI.2.aG.cC,ay bI.2.aG.cK,aj cr bI.2.cu,aj bH bI.2.cL,aj dx bI.2.cb,ae bI.2.c3,ae bI.2.dn,ay bI.2.dk,ae bI.2.ct,ae bI.2.b_],ae a2.At,ay a2.Name]) (cs':=[.lit v,aj bH cd.aG.b3,aj cE cd.aG.bj,ay cd.aG.cC,ay cd.aG.cK,aj cr cd.cu,aj bH cd.cL,aj dx cd.cb,ae cd.c3,ae cd.dn,ay cd.dk,ae cd.ct,ae cd.b_]) (k0:=0) q q q q (.b q (.n q (.n q .nil))) q (Hl v bI.2 a2.At a2.Name _ pF) call105 (o4 q q q) q q (o4 q q q) .nil q) (λv=>q) (λv=>q) (λv=>q) (λv=>(.n q q (.b q (.n q q (.n q q (.n q q .nil)))))) q (.c (en:=b0) (L:=bI.2.aG.ba) q q lN q q q .nil))<|gT (.n q (.n q (.n q (.n q (.r q (di.el (en:=b0) q lN q) jx .nil)))))) ?_;exact aV h ▸ aA.dF (.n q (.n q (.n q (.n q (.r q (di.el (en:=b0) q lN q) jx .nil)))))
     ·exact W.cZ<|aV h ▸ aA.dF (.n q (.n q (.n q (.n q (.r q (di.el (en:=b0) q lN q) jx .nil)))))
    refine aJ h λbU lg h=>aA.bw<|W.rd [[],[],[],[2],[2,3],[2,3,4],[],[6],[6,7],[0,2,3,4,5],[0,2,3,4,5,9],[0,2,3,4,5,9,10],aH 0 12 [],aH 0 13 [],aH 0 14 []] [(0,_),(4,_),(5,_),(7,_),(8,.ptr ⟨0,[0]⟩ (bI.1.toNat * b0.z+0))] fg (by kernel_rfl) (aD 0 (O.aX .z5)<|aD 1 (O.aX .z5)<|aD 2 (O.aX .z4)<|aD 3 (O.eT .z5)<|aD 4 O.y2<|aD 5 O.ed<|aD 6 O.bx<|aD 7 O.ed<|aD 8 (O.sub .bh .cD)<|aD 9 (O.eT .z5)<|aD 10 (O.ka (en:=b0) q .z5 MA lg q q)<|bz.ej 11 (G2:=[(0,.obj [aj b0 (de.aG.ba.set bI.1.toNat (⟨bU.Name,bU.Lit,bU.bR,de.ct,bU.fv,bU.Tag⟩:bX)),aj bH de.aG.b3,aj cE de.aG.bj,ay de.aG.cC,ay de.aG.cK,aj cr de.cu,aj bH de.cL,aj dx de.cb,ae de.c3,ae de.dn,ay de.dk,ae de.ct,ae de.b_]),(4,.obj (dB.cells aE)),(5,.obj (dE.cells a2)),(7,ae bI.1),(8,.ptr ⟨0,[0]⟩ (bI.1.toNat * b0.z+0))]) (U:=[(8,81,some (ae (aL (aE.Kind - 1)))),(7,80,some (ae aE.Kind)),(6,79,some (.ptr ⟨4,[]⟩ 0)),(1,74,some (.ptr ⟨0,[0]⟩ (bI.1.toNat * b0.z+0)))]) (iz.v (bk.j' (bk.td (en:=b0) (y2:=(⟨bU.Name,bU.Lit,bU.bR,de.ct,bU.fv,bU.Tag⟩:bX)) (cs':=[ae de.ct]) (x2:=.obj [aj b0 (de.aG.ba.set bI.1.toNat (⟨bU.Name,bU.Lit,bU.bR,de.ct,bU.fv,bU.Tag⟩:bX)),aj bH de.aG.b3,aj cE de.aG.bj,ay de.aG.cC,ay de.aG.cK,aj cr de.cu,aj bH de.cL,aj dx de.cb,ae de.c3,ae de.dn,ay de.dk,ae de.ct,ae de.b_]) q q (.ptr q) (.lit q) q lg uK q q q q q q q (.b q (.n q q (.n q q (.n q q (.e q q (.mk (en:=b0) q lg q (om lg) q) q .nil)))))))) q q (by kernel_rfl) q q q (.c (.inr (.inl ⟨_,q⟩)) q q q q q (fw.wanted .none) (O.sub .bh .cD) (.c (.inr (.inl ⟨_,q⟩)) q q q q q (fw.wanted .none) (O.oW q .z5 nA q) (.c (.inr (.inr (.inr (.inl ⟨4,_,_,q,q,hW q,by simp,_,q,hW q⟩)))) q q q q q (fw.wanted .none) (O.kt q .z4 Tt q) (.c (.inr (.inr (.inl ⟨8,_,_,q,q,q,by simp⟩))) q q q q q (fw.wanted .none) (O.aX .z5) .nil)))) (by kernel_rfl)<|aD 12 (O.eT .z5)<|aD 13 (O.ka (en:=b0) q .z5 Ti (om lg) q q)<|bz.hx 14 (G2:=[(0,.obj [aj b0 ((de.aG.ba.set bI.1.toNat (⟨bU.Name,bU.Lit,bU.bR,de.ct,bU.fv,bU.Tag⟩:bX)).set bI.1.toNat (⟨(⟨bU.Name,bU.Lit,bU.bR,de.ct,bU.fv,bU.Tag⟩:bX).Name,(⟨bU.Name,bU.Lit,bU.bR,de.ct,bU.fv,bU.Tag⟩:bX).Lit,(⟨bU.Name,bU.Lit,bU.bR,de.ct,bU.fv,bU.Tag⟩:bX).bR,(⟨bU.Name,bU.Lit,bU.bR,de.ct,bU.fv,bU.Tag⟩:bX).Level,aL (aE.Kind - 1),(⟨bU.Name,bU.Lit,bU.bR,de.ct,bU.fv,bU.Tag⟩:bX).Tag⟩:bX)),aj bH de.aG.b3,aj cE de.aG.bj,ay de.aG.cC,ay de.aG.cK,aj cr de.cu,aj bH de.cL,aj dx de.cb,ae de.c3,ae de.dn,ay de.dk,ae de.ct,ae de.b_]),(4,.obj (dB.cells aE)),(5,.obj (dE.cells a2)),(7,ae bI.1),(8,.ptr ⟨0,[0]⟩ (bI.1.toNat * b0.z+0))]) (bk.td (en:=b0) (y2:=(⟨(⟨bU.Name,bU.Lit,bU.bR,de.ct,bU.fv,bU.Tag⟩:bX).Name,(⟨bU.Name,bU.Lit,bU.bR,de.ct,bU.fv,bU.Tag⟩:bX).Lit,(⟨bU.Name,bU.Lit,bU.bR,de.ct,bU.fv,bU.Tag⟩:bX).bR,(⟨bU.Name,bU.Lit,bU.bR,de.ct,bU.fv,bU.Tag⟩:bX).Level,aL (aE.Kind - 1),(⟨bU.Name,bU.Lit,bU.bR,de.ct,bU.fv,bU.Tag⟩:bX).Tag⟩:bX)) (cs':=[ae (aL (aE.Kind - 1))]) (x2:=.obj [aj b0 ((de.aG.ba.set bI.1.toNat (⟨bU.Name,bU.Lit,bU.bR,de.ct,bU.fv,bU.Tag⟩:bX)).set bI.1.toNat (⟨(⟨bU.Name,bU.Lit,bU.bR,de.ct,bU.fv,bU.Tag⟩:bX).Name,(⟨bU.Name,bU.Lit,bU.bR,de.ct,bU.fv,bU.Tag⟩:bX).Lit,(⟨bU.Name,bU.Lit,bU.bR,de.ct,bU.fv,bU.Tag⟩:bX).bR,(⟨bU.Name,bU.Lit,bU.bR,de.ct,bU.fv,bU.Tag⟩:bX).Level,aL (aE.Kind - 1),(⟨bU.Name,bU.Lit,bU.bR,de.ct,bU.fv,bU.Tag⟩:bX).Tag⟩:bX)),aj bH de.aG.b3,aj cE de.aG.bj,ay de.aG.cC,ay de.aG.cK,aj cr de.cu,aj bH de.cL,aj dx de.cb,ae de.c3,ae de.dn,ay de.dk,ae de.ct,ae de.b_]) q q (.ptr q) (.lit q) q (om lg) uK q q q q q q q (.b q (.n q q (.n q q (.n q q (.e q q (.mk (en:=b0) q (om lg) q (om (om lg)) q) q .nil))))))<|bz.fin q q q (.n q (.n q (.n q (.n q (.r q (di.el (en:=b0) q (om (om lg)) q) jx .nil)))))) ?_;exact aV h ▸ aA.dF (.n q (.n q (.n q (.n q (.r q (di.el (en:=b0) q (om (om lg)) q) jx .nil)))))
   ·exact W.cZ<|aV h ▸ aA.dF (.n q (.n q (.n q (.n q (.r q (di.el (en:=b0) q lN q) jx .nil)))))
  refine aJ h λdP m_ h=>aA.bw<|W.bB<|W.rs [(0,_),(4,_),(5,_),(7,_),(8,.ptr ⟨0,[0]⟩ (bI.1.toNat * b0.z+0)),(88,_)] (al O.bx<|al O.ed<|al (O.gtr .bh .cD)<|gT (.n q (.n q (.n q (.n q (.r q (di.el (en:=b0) q m_ q) jx (.n q .nil))))))) ?_;refine aJ h λfc ah h=>W.fL [0,4,5,8] [(0,.obj (dR.cells fc))] ?_ ?_
  ·clear h; have h:=ah; clear ah;refine W.b8 h q (λqp h=>?_) (λqp h=>?_)
   ·refine W.bB<|aJ h λHa ah h=>W.kh [0,4,5,7,8,106] [(106,a_ Ha)] ?_ ?_
    ·refine bZ q<|al (O.eql .bh .cD)<|al (O.aX (.lit q)) ?_;rcases fq ah with ⟨lI,ah⟩ | ⟨lI,ah⟩
     ·exact aV ah ▸ (gg lI<|gg lI<|gg lI<|gg lI<|gg lI<|gg lI<|gg lI<|al (O.hG .bh lI .cD)<|bZ q<|gg q<|gg q<|gg q<|gg q<|gg q<|al (O.hG .bh q .cD)<|gT (.n q (.n q (.n q (.n q (.r q (di.el (en:=b0) q m_ q) jx (.n q .nil)))))))
     ·refine cc lI (O.aX .z4)<|cc lI (O.eT .z5)<|cc lI O.y2<|cc lI (O.c7 (y:=.a6 cr.z ⟨0,[5]⟩ eO.cu.length))<|cc lI (O.aX (.lit q)) ?_;refine aJ ah λfZ zA ah=>cc lI (O.fY (en:=cr) q .dg .bh rG zA q)<|cc lI (O.iw (en:=cr) (x':=a_ fZ) q .z5 y_ zA q q)<|al (O.dA .bh lI .bh)<|al (O.aX (.lit q)) ?_;rcases fq ah with ⟨lJ,ah⟩ | ⟨lJ,ah⟩
      ·exact aV ah ▸ (gg lJ<|gg lJ<|gg lJ<|gg lJ<|gg lJ<|al (O.hG .bh lJ .cD)<|gT (.n q (.n q (.n q (.n q (.r q (di.el (en:=b0) q m_ q) jx (.n q .nil)))))))
      ·refine cc lJ (O.aX .z4)<|cc lJ O.bx<|cc lJ O.ed ?_;exact aJ ah λgb sb ah=>aV ah ▸ (ar.c (cB.pZ (ys:=[.ptr ⟨0,[]⟩ 0,ae a2.bR]) q (.c (View.nU q q) (.s .nil)) (bA.go sb)) q q (.fi q q lJ)<|cc lJ (O.geq .bh .cD)<|al (O.dA .bh lJ .bh)<|gT (.n q (.n q (.n q (.n q (.r q (di.el (en:=b0) q m_ q) jx (.n q .nil)))))))
    refine aJ h λdZ ah h=>W.fL [0,4,5,7,8] [(0,.obj (dR.cells dZ))] ?_ ?_
    ·clear h; have h:=ah; clear ah;refine W.b8 h q (λUF h=>?_) (λUF h=>?_)
     ·refine aJ h λcX zB h=>W.rx [(0,_),(4,_),(5,_),(7,_),(8,.ptr ⟨0,[0]⟩ (bI.1.toNat * b0.z+0))] (al (O.aX .z4)<|al O.bx<|al O.ed<|al O.bx<|al O.ed<|ar.kL (G2:=[(8,.ptr ⟨0,[0]⟩ (bI.1.toNat * b0.z+0))]++[(112,.bW []),(0,.obj [aj b0 eO.aG.ba,aj bH cX.aG.b3,aj cE cX.aG.bj,ay cX.aG.cC,ay cX.aG.cK,aj cr cX.cu,aj bH cX.cL,aj dx cX.cb,ae cX.c3,ae cX.dn,ay cX.dk,ae cX.ct,ae cX.b_]),(4,.obj (dB.cells aE)),(5,.obj (dE.cells a2)),(7,ae bI.1)]) q (bk.eS (r:=0) (k0:=0) (y:=aj b0 eO.aG.ba) (cs5:=[aj b0 eO.aG.ba,aj bH cX.aG.b3,aj cE cX.aG.bj,ay cX.aG.cC,ay cX.aG.cK,aj cr cX.cu,aj bH cX.cL,aj dx cX.cb,ae cX.c3,ae cX.dn,ay cX.dk,ae cX.ct,ae cX.b_]) (G1:=λv=>[(0,.obj [.lit v,aj bH eO.aG.b3,aj cE eO.aG.bj,ay eO.aG.cC,ay eO.aG.cK,aj cr eO.cu,aj bH eO.cL,aj dx eO.cb,ae eO.c3,ae eO.dn,ay eO.dk,ae eO.ct,ae eO.b_]),(4,.obj (dB.cells aE)),(5,.obj (dE.cells a2)),(7,ae bI.1),(107,.ptr ⟨0,[]⟩ 0),(109,ae a2.At),(111,ay a2.Name)]) (G4:=λv=>[(112,.bW []),(0,.obj [.lit v,aj bH cX.aG.b3,aj cE cX.aG.bj,ay cX.aG.cC,ay cX.aG.cK,aj cr cX.cu,aj bH cX.cL,aj dx cX.cb,ae cX.c3,ae cX.dn,ay cX.dk,ae cX.ct,ae cX.b_]),(4,.obj (dB.cells aE)),(5,.obj (dE.cells a2)),(7,ae bI.1)]) (c4:=λv=>[.lit v,aj bH cX.aG.b3,aj cE cX.aG.bj,ay cX.aG.cC,ay cX.aG.cK,aj cr cX.cu,aj bH cX.cL,aj dx cX.cb,ae cX.c3,ae cX.dn,ay cX.dk,ae cX.ct,ae cX.b_]) (G5:=[(112,.bW []),(0,.obj [aj b0 eO.aG.ba,aj bH cX.aG.b3,aj cE cX.aG.bj,ay cX.aG.cC,ay cX.aG.cK,aj cr cX.cu,aj bH cX.cL,aj dx cX.cb,ae cX.c3,ae cX.dn,ay cX.dk,ae cX.ct,ae cX.b_]),(4,.obj (dB.cells aE)),(5,.obj (dE.cells a2)),(7,ae bI.1)]) (A:=[(8,.ptr ⟨0,[0]⟩ (bI.1.toNat * b0.z+0))]) q q q q (λv=>(.b q (.n q q (.n q q (.n q q (.p q q q q q q (.n q q (.n q q .nil)))))))) (λv=>hJ.nh (G2:=[(4,.obj (dB.cells aE)),(5,.obj (dE.cells a2)),(7,ae bI.1)]) (A:=[]) (ys:=[.ptr ⟨0,[]⟩ 0,ae a2.At,ay a2.Name]) (args:=[.obj [.lit v,aj bH eO.aG.b3,aj cE eO.aG.bj,ay eO.aG.cC,ay eO.aG.cK,aj cr eO.cu,aj bH eO.cL,aj dx eO.cb,ae eO.c3,ae eO.dn,ay eO.dk,ae eO.ct,ae eO.b_],ae a2.At,ay a2.Name]) (cs':=[.lit v,aj bH cX.aG.b3,aj cE cX.aG.bj,ay cX.aG.cC,ay cX.aG.cK,aj cr cX.cu,aj bH cX.cL,aj dx cX.cb,ae cX.c3,ae cX.dn,ay cX.dk,ae cX.ct,ae cX.b_]) (k0:=0) q q q q (.b q (.n q (.n q .nil))) q (Hl v eO a2.At a2.Name _ zB) call105 (o4 q q q) q q (o4 q q q) .nil q) (λv=>q) (λv=>q) (λv=>q) (λv=>(.n q q (.b q (.n q q (.n q q (.n q q .nil)))))) q (.c (en:=b0) (L:=eO.aG.ba) q q m_ q q q .nil))<|gT (.n q (.n q (.n q (.n q (.r q (di.el (en:=b0) q m_ q) jx .nil)))))) ?_;exact aV h ▸ aA.dF (.n q (.n q (.n q (.n q (.r q (di.el (en:=b0) q m_ q) jx .nil)))))
     ·exact W.cZ<|aV h ▸ aA.dF (.n q (.n q (.n q (.n q (.r q (di.el (en:=b0) q m_ q) jx .nil)))))
    refine aJ h λeb oR h=>aA.bw<|W.rs [(0,_),(4,_),(5,_),(7,_),(8,.ptr ⟨0,[0]⟩ (bI.1.toNat * b0.z+0))] (al (O.aX .z5)<|al O.bx<|al O.ed<|al (O.eT .z5)<|al (O.ka (en:=b0) q .z5 Mz oR q q)<|ar.kL (G2:=[(0,.obj [aj b0 (dZ.aG.ba.set bI.1.toNat (⟨eb.Name,eb.Lit,a2.bR,eb.Level,eb.fv,eb.Tag⟩:bX)),aj bH dZ.aG.b3,aj cE dZ.aG.bj,ay dZ.aG.cC,ay dZ.aG.cK,aj cr dZ.cu,aj bH dZ.cL,aj dx dZ.cb,ae dZ.c3,ae dZ.dn,ay dZ.dk,ae dZ.ct,ae dZ.b_]),(4,.obj (dB.cells aE)),(5,.obj (dE.cells a2)),(7,ae bI.1),(8,.ptr ⟨0,[0]⟩ (bI.1.toNat * b0.z+0))]) q (bk.td (en:=b0) (y2:=(⟨eb.Name,eb.Lit,a2.bR,eb.Level,eb.fv,eb.Tag⟩:bX)) (cs':=[ae a2.bR]) (x2:=.obj [aj b0 (dZ.aG.ba.set bI.1.toNat (⟨eb.Name,eb.Lit,a2.bR,eb.Level,eb.fv,eb.Tag⟩:bX)),aj bH dZ.aG.b3,aj cE dZ.aG.bj,ay dZ.aG.cC,ay dZ.aG.cK,aj cr dZ.cu,aj bH dZ.cL,aj dx dZ.cb,ae dZ.c3,ae dZ.dn,ay dZ.dk,ae dZ.ct,ae dZ.b_]) q q (.ptr q) (.lit q) q oR uK q q q q q q q (.b q (.n q q (.n q q (.n q q (.e q q (.mk (en:=b0) q oR q (om oR) q) q .nil))))))<|gT (.n q (.n q (.n q (.n q (.r q (di.el (en:=b0) q (om oR) q) jx .nil)))))) ?_;refine aJ h λhI rj h=>W.rx [(0,_),(4,_),(5,_),(8,.ptr ⟨0,[0]⟩ (bI.1.toNat * b0.z+0))] (al (O.aX .z4)<|al (O.eT .z5)<|al O.y2<|al (O.c7 (y:=.a6 cr.z ⟨0,[5]⟩ dZ.cu.length))<|bZ q<|al (O.fY (en:=cr) q .dg .bh rG rj q)<|ar.kL (G2:=[(0,.obj [aj b0 (dZ.aG.ba.set bI.1.toNat (⟨eb.Name,eb.Lit,a2.bR,eb.Level,eb.fv,eb.Tag⟩:bX)),aj bH dZ.aG.b3,aj cE dZ.aG.bj,ay dZ.aG.cC,ay dZ.aG.cK,aj cr (dZ.cu.set bI.1.toNat true),aj bH dZ.cL,aj dx dZ.cb,ae dZ.c3,ae dZ.dn,ay dZ.dk,ae dZ.ct,ae dZ.b_]),(4,.obj (dB.cells aE)),(5,.obj (dE.cells a2)),(8,.ptr ⟨0,[0]⟩ (bI.1.toNat * b0.z+0))]) q (bk.td (en:=cr) (y2:=true) (cs':=[a_ true]) (x2:=.obj [aj b0 (dZ.aG.ba.set bI.1.toNat (⟨eb.Name,eb.Lit,a2.bR,eb.Level,eb.fv,eb.Tag⟩:bX)),aj bH dZ.aG.b3,aj cE dZ.aG.bj,ay dZ.aG.cC,ay dZ.aG.cK,aj cr (dZ.cu.set bI.1.toNat true),aj bH dZ.cL,aj dx dZ.cb,ae dZ.c3,ae dZ.dn,ay dZ.dk,ae dZ.ct,ae dZ.b_]) q q (.ptr q) (.k q) q rj Qe q q q q q q q (.b q (.n q q (.n q q (.e q q (.mk (en:=b0) q (om oR) q (om oR) q) q .nil)))))<|gT (.n q (.n q (.n q (.r q (di.el (en:=b0) q (om oR) q) jx .nil))))) ?_;exact aV h ▸ aA.dF (.n q (.n q (.n q (.r q (di.el (en:=b0) q (om oR) q) jx .nil))))
   ·exact W.cZ<|aV h ▸ aA.dF (.n q (.n q (.n q (.r q (di.el (en:=b0) q m_ q) jx .nil))))
  refine aJ h λkY nO h=>aA.bw<|W.rs [(0,_),(4,_),(5,_),(8,.ptr ⟨0,[0]⟩ (bI.1.toNat * b0.z+0)),(126,_)] (al O.bx<|al O.ed<|al (O.ov .bh .cD)<|gT (.n q (.n q (.n q (.r q (di.el (en:=b0) q nO q) jx (.n q .nil)))))) ?_;refine aJ h λpM ah h=>W.fL [0] [(0,.obj (dR.cells pM))] ?_ ?_
  ·clear h; have h:=ah; clear ah;refine W.b8 h q (λnD h=>?_) (λnD h=>?_)
   ·refine W.bB<|W.bB<|aJ h λtD ah h=>W.rd [[],[0],[0,1],[0,1,2],[0,1,2,3],aH 0 5 [],aH 0 6 [],aH 0 7 [],aH 0 8 [],aH 0 9 [],aH 0 6 [],aH 0 6 [10],aH 0 12 [],aH 0 13 []] [(0,.obj (dR.cells fc)),(4,.obj (dB.cells aE)),(5,.obj (dE.cells a2)),(8,.ptr ⟨0,[0]⟩ (bI.1.toNat * b0.z+0)),(140,a_ tD)] fg (by kernel_rfl) ?_ ?_
    ·refine aD 0 (O.aX .z5)<|aD 1 (O.eT .z5)<|aD 2 (O.ka (en:=b0) q .z5 Hw nO q q)<|aD 3 (O.iw (en:=b0) (x':=ay kY.Tag) q .z5 wR nO q q)<|aD 4 (O.ov .bh .cD)<|aD 5 (O.aX (.lit q)) ?_;rcases fq ah with ⟨jN,ah⟩ | ⟨jN,ah⟩
     ·exact aV ah ▸ (iV 6 jN (O.aX .z5)<|iV 7 jN (O.eT .z5)<|iV 8 jN (O.ka (en:=b0) q .z5 Hw nO q q)<|iV 9 jN (O.iw (en:=b0) (x':=ay kY.Tag) q .z5 wR nO q q)<|iV 10 jN O.bx<|iV 11 jN O.ed<|iV 12 jN (O.ov .bh .bh)<|aD 13 (O.hG .bh jN .bh)<|bz.fin q q q (.n q (.n q (.n q (.r q (di.el (en:=b0) q nO q) jx (.n q .nil))))))
     ·exact aV ah ▸ (ig 6 jN<|ig 7 jN<|ig 8 jN<|ig 9 jN<|ig 10 jN<|ig 11 jN<|ig 12 jN<|aD 13 (O.dA .bh jN .cD)<|bz.fin q q q (.n q (.n q (.n q (.r q (di.el (en:=b0) q nO q) jx (.n q .nil))))))
    refine aA.bw<|aJ h λnf ah h=>W.fL [0,4,8] [(0,.obj (dR.cells nf))] ?_ ?_
    ·clear h; have h:=ah; clear ah;refine W.b8 h q (λpz h=>?_) (λpz h=>?_)
     ·refine aJ h λc0 xn h=>W.rx [(0,_),(4,_),(8,.ptr ⟨0,[0]⟩ (bI.1.toNat * b0.z+0))] (al (O.aX .z4)<|al O.bx<|al O.ed<|al O.bx<|al O.ed<|ar.kL (G2:=[(8,.ptr ⟨0,[0]⟩ (bI.1.toNat * b0.z+0))]++[(146,.bW []),(0,.obj [aj b0 fc.aG.ba,aj bH c0.aG.b3,aj cE c0.aG.bj,ay c0.aG.cC,ay c0.aG.cK,aj cr c0.cu,aj bH c0.cL,aj dx c0.cb,ae c0.c3,ae c0.dn,ay c0.dk,ae c0.ct,ae c0.b_]),(4,.obj (dB.cells aE))]) q (bk.eS (r:=0) (k0:=0) (y:=aj b0 fc.aG.ba) (cs5:=[aj b0 fc.aG.ba,aj bH c0.aG.b3,aj cE c0.aG.bj,ay c0.aG.cC,ay c0.aG.cK,aj cr c0.cu,aj bH c0.cL,aj dx c0.cb,ae c0.c3,ae c0.dn,ay c0.dk,ae c0.ct,ae c0.b_]) (G1:=λv=>[(0,.obj [.lit v,aj bH fc.aG.b3,aj cE fc.aG.bj,ay fc.aG.cC,ay fc.aG.cK,aj cr fc.cu,aj bH fc.cL,aj dx fc.cb,ae fc.c3,ae fc.dn,ay fc.dk,ae fc.ct,ae fc.b_]),(4,.obj (dB.cells aE)),(141,.ptr ⟨0,[]⟩ 0),(143,ae a2.At),(145,ay a2.Name)]) (G4:=λv=>[(146,.bW []),(0,.obj [.lit v,aj bH c0.aG.b3,aj cE c0.aG.bj,ay c0.aG.cC,ay c0.aG.cK,aj cr c0.cu,aj bH c0.cL,aj dx c0.cb,ae c0.c3,ae c0.dn,ay c0.dk,ae c0.ct,ae c0.b_]),(4,.obj (dB.cells aE))]) (c4:=λv=>[.lit v,aj bH c0.aG.b3,aj cE c0.aG.bj,ay c0.aG.cC,ay c0.aG.cK,aj cr c0.cu,aj bH c0.cL,aj dx c0.cb,ae c0.c3,ae c0.dn,ay c0.dk,ae c0.ct,ae c0.b_]) (G5:=[(146,.bW []),(0,.obj [aj b0 fc.aG.ba,aj bH c0.aG.b3,aj cE c0.aG.bj,ay c0.aG.cC,ay c0.aG.cK,aj cr c0.cu,aj bH c0.cL,aj dx c0.cb,ae c0.c3,ae c0.dn,ay c0.dk,ae c0.ct,ae c0.b_]),(4,.obj (dB.cells aE))]) (A:=[(8,.ptr ⟨0,[0]⟩ (bI.1.toNat * b0.z+0))]) q q q q (λv=>(.b q (.n q q (.p q q q q q q (.n q q (.n q q .nil)))))) (λv=>hJ.nh (G2:=[(4,.obj (dB.cells aE))]) (A:=[]) (ys:=[.ptr ⟨0,[]⟩ 0,ae a2.At,ay a2.Name]) (args:=[.obj [.lit v,aj bH fc.aG.b3,aj cE fc.aG.bj,ay fc.aG.cC,ay fc.aG.cK,aj cr fc.cu,aj bH fc.cL,aj dx fc.cb,ae fc.c3,ae fc.dn,ay fc.dk,ae fc.ct,ae fc.b_],ae a2.At,ay a2.Name]) (cs':=[.lit v,aj bH c0.aG.b3,aj cE c0.aG.bj,ay c0.aG.cC,ay c0.aG.cK,aj cr c0.cu,aj bH c0.cL,aj dx c0.cb,ae c0.c3,ae c0.dn,ay c0.dk,ae c0.ct,ae c0.b_]) (k0:=0) q q q q (.b q (.n q (.n q .nil))) q (Hl v fc a2.At a2.Name _ xn) call105 (.n q .nil) q q (.n q .nil) .nil q) (λv=>q) (λv=>q) (λv=>q) (λv=>(.n q q (.b q (.n q q .nil)))) q (.c (en:=b0) (L:=fc.aG.ba) q q nO q q q .nil))<|gT (.n q (.n q (.r q (di.el (en:=b0) q nO q) jx .nil)))) ?_;exact aV h ▸ aA.dF (.n q (.n q (.r q (di.el (en:=b0) q nO q) jx .nil)))
     ·exact W.cZ<|aV h ▸ aA.dF (.n q (.n q (.r q (di.el (en:=b0) q nO q) jx .nil)))
    refine aJ h λgl qy h=>aA.bw<|W.bS [0] (al (O.aX .z5)<|al O.bx<|al O.ed<|al (O.eT .z5)<|al (O.ka (en:=b0) q .z5 Hw qy q q)<|ar.eD (bk.rF (en:=b0) (y2:=(⟨gl.Name,gl.Lit,gl.bR,gl.Level,gl.fv,aE.Tag⟩:bX)) [0] qy)<|bL q) ?_;exact aV h ▸ aA.dS
   ·exact W.cZ<|aV h ▸ aA.dS
  exact aV h ▸ aA.fin (Fin.ro .nil q (CF (by kernel_rfl)) (.aq q q (.no (.no .nil))) q (.inl q))
instance ZL {a0:dv}{aE:Decl}{a2:Sym}{r:dv}:bA prog 104 (vK a0 aE a2=some r) [.obj (dR.cells a0),.agg (dB.cells aE),.agg (dE.cells a2)] [some (.obj [aj b0 r.aG.ba,aj bH r.aG.b3,aj cE r.aG.bj,ay r.aG.cC,ay r.aG.cK,aj cr r.cu,aj bH r.cL,aj dx r.cb,ae r.c3,ae r.dn,ay r.dk,ae r.ct,ae r.b_]),none,none] (.bW []):=⟨Ss a0 aE a2 _⟩
instance ZO {a0:dv}{aE:ByteArray}{r:Int}:bA prog 107 (s6 a0 aE=some r) [.cI ([ag b0 a0.aG.ba,ag bH a0.aG.b3,ag cE a0.aG.bj,ay a0.aG.cC,ay a0.aG.cK,ag cr a0.cu,ag bH a0.cL,ag dx a0.cb,ae a0.c3,ae a0.dn,ay a0.dk,ae a0.ct,ae a0.b_]),ay aE] [none,none] (ae r):=⟨λh=>by unfold s6 at h; exact bV.bq (N:=⟨25,[]⟩) [0,1,4,5,12,23] (.gw (λ(s1:Int)=>[(5,ae s1)]) [0,1,5] 0 (λ(a7:Unit)=>[]) [] (λ(bs:Int)=>[(4,ae bs)]) [4] .e .e .e) func107 rfl rfl rfl rfl rfl dH⟩
instance Z8 {a0:dv}{aE:Sym}{r:Int × dv}:bA prog 138 (s8 a0 aE=some r) [.obj (dR.cells a0),.agg (dE.cells aE)] [some (.obj [aj b0 r.2.aG.ba,aj bH r.2.aG.b3,aj cE r.2.aG.bj,ay r.2.aG.cC,ay r.2.aG.cK,aj cr r.2.cu,aj bH r.2.cL,aj dx r.2.cb,ae r.2.c3,ae r.2.dn,ay r.2.dk,ae r.2.ct,ae r.2.b_]),none] (ae r.1):=⟨λh=>by unfold s8 at h; exact bV.bq (N:=⟨32,[0]⟩) [0,3,4,5,6,8,17,24] .e func138 rfl rfl rfl rfl rfl dH⟩
theorem St (a0:dv) (aE:ByteArray) (a2:Alt) (r:dv) (h:vL a0 aE a2=some r):bV prog 108 [.obj (dR.cells a0),ay aE,.agg (e2.cells a2)] [some (.obj [aj b0 r.aG.ba,aj bH r.aG.b3,aj cE r.aG.bj,ay r.aG.cC,ay r.aG.cK,aj cr r.cu,aj bH r.cL,aj dx r.cb,ae r.c3,ae r.dn,ay r.dk,ae r.ct,ae r.b_]),none,none] (.bW []):=by
 unfold vL at h;refine bV.go (N:=⟨173,[0]⟩) func108 q q q q (W.fin ?_);refine W.st [(0,.obj (dR.cells a0)),(1,ay aE),(2,.agg (e2.cells a2))] ?_;refine W.cN [0,1,5] (al (O.box (.ds q q) q)<|bL q) ?_;refine W.bB<|aJ h λa8 hV h=>W.rd [[],[],[0,1],[0,1,2],[],[4],aH 0 6 [],[],aH 0 8 []] [(0,_),(5,_),(6,_)] fg (by kernel_rfl) (aD 0 (O.aX .z4)<|aD 1 (O.aX (.lit q))<|iW 2 (cB.pZ (ys:=[.ptr ⟨0,[]⟩ 0,ay aE]) q (.c (View.nU q q) (.s .nil)) (bA.go hV))<|aD 3 (O.add .cD .bh)<|aD 4 O.bx<|aD 5 O.ed<|aD 6 (O.ej (cs:=[ae (aL (1+a8)),.aK,ae (-1),ay a',.aK,ae a2.At]) Kt DH q q q)<|aD 7 (O.fp (cs:=[ae 0,.aK,ae 0,ay a',.aK,ae 0]) DH q q)<|bz.hx 8 (bk.gp [0,5,6])<|bz.fin q q q (o4 q q q)) ?_;refine aA.bw<|W.bB<|W.cp [0,5,6,7] ?_;refine W.b2<|aJ h λa7 ak h=>W.gK (a0,([]:List Int),a',a2.At,0) (λ(s2:dv × List Int × ByteArray × Int × Int)=>[(0,.obj (dR.cells s2.1)),(6,.obj [ae (aL (1+a8)),aj ai s2.2.1,ae (-1),ay s2.2.2.1,.aK,ae s2.2.2.2.1]),(7,ae s2.2.2.2.2)]) [0,5,6,7] 0 (λ(a7:dv × List Int × ByteArray × Int)=>[(0,.obj (dR.cells a7.1)),(6,.obj [ae (aL (1+a8)),aj ai a7.2.1,ae (-1),ay a7.2.2.1,.aK,ae a7.2.2.2])]) [0,5,6] ak (λs2 o h=>?_) ?_
 ·clear ak;refine W.bB<|W.cp [0,5,6,7,21] ?_;refine W.b8 h q (λnE h=>?_) (λnE h=>?_)
  ·refine W.cZ<|aA.bw<|W.bB<|aJ h λkR ah h=>W.fL [0,5,6,7] [(0,.obj (dR.cells kR.1)),(6,.obj [ae (aL (1+a8)),aj ai kR.2.1,ae (-1),ay kR.2.2.1,.aK,ae kR.2.2.2])] ?_ ?_
   ·clear h; have h:=ah; clear ah;refine W.b2<|aJ h λbQ na h=>W.cN [0,5,6,7,8] (al O.bx<|al (O.c7 (y:=ag e7 a2.ht))<|bZ q<|al (O.eK na)<|al (O.ng (cs':=e7.cells bQ) .n1 yZ q q)<|al (O.fp (cs:=[ay a',a_ false,ae 0,ae 0,ay a',ae 0]) qS q q)<|ar.eD (bk.gp [0,5,6,7,8])<|bL q) ?_;refine aJ h λff ah h=>W.fL [0,5,6,7] [(0,.obj (dR.cells ff.1)),(6,.obj [ae (aL (1+a8)),aj ai ff.2.1,ae (-1),ay ff.2.2.1,.aK,ae ff.2.2.2])] ?_ ?_
    ·clear h; have h:=ah; clear ah;refine W.b2<|W.cp [0,5,6,7,8,82] ?_;refine aJ h λqB ah h=>W.fL [0,5,6,7] [(0,.obj (dR.cells qB.1)),(6,.obj [ae (aL (1+a8)),aj ai qB.2.1,ae (-1),ay qB.2.2.1,.aK,ae qB.2.2.2])] ?_ ?_
     ·clear h; have h:=ah; clear ah;refine W.b8 h q (λBG h=>?_) (λBG h=>?_)
      ·refine aJ h λcq lN h=>aJ h λeF ui h=>W.rd [[],[0],[],[],[3],[2,3,4],[2,3,4,5],aH 0 7 [],aH 0 8 [],aH 0 9 []] [(0,_),(5,_),(6,_),(7,_)] fg (by kernel_rfl) (aD 0 O.bx<|aD 1 (O.c7 (y:=.a6 ai.z ⟨6,[1]⟩ s2.2.1.length))<|aD 2 (O.aX .z4)<|aD 3 O.bx<|aD 4 (O.ek (cs':=dE.cells bQ.Sym) q .z5 tz q q)<|bz.ej 5 (G2:=(6,.obj [ae (aL (1+a8)),aj ai s2.2.1,ae (-1),ay s2.2.2.1,.aK,ae s2.2.2.2.1])::[(91,ae cq.1),(0,.obj (dR.cells cq.2)),(5,.obj (e2.cells a2)),(7,ae s2.2.2.2.2)]) (U:=[(1,87,some (.a6 ai.z ⟨6,[1]⟩ s2.2.1.length)),(0,86,some (.ptr ⟨6,[]⟩ 1))]) (o_.box (r:=6) (G1:=[(0,.obj (dR.cells s2.1)),(5,.obj (e2.cells a2)),(7,ae s2.2.2.2.2),(88,.ptr ⟨0,[]⟩ 0),(90,.agg (dE.cells bQ.Sym))]) (G2:=[(91,ae cq.1),(0,.obj (dR.cells cq.2)),(5,.obj (e2.cells a2)),(7,ae s2.2.2.2.2)]) (bk.call q q (hJ.nh (G2:=[(5,.obj (e2.cells a2)),(7,ae s2.2.2.2.2)]) (A:=[]) (ys:=[.ptr ⟨0,[]⟩ 0,.agg (dE.cells bQ.Sym)]) (args:=[.obj (dR.cells s2.1),.agg (dE.cells bQ.Sym)]) (cs':=dR.cells cq.2) (k0:=0) q q q q (.b q (.n q .nil)) q (bA.go lN) call138 (kX q q) q q (kX q q) .nil q)) q (.n q (.n q (.n q (.q q q q (.n q .nil))))) q q q) q q (by kernel_rfl) q q q (.c (.inl ⟨6,[1],_,_,_,_,q,by simp [so],q,q,Nat.le_refl _⟩) q q q q q (fw.wanted .none) (O.mA (y:=.a6 ai.z ⟨6,[1]⟩ s2.2.1.length) q .z5 u3 q q) (.c (.inr (.inr (.inr (.inl ⟨6,_,_,q,q,hW q,by simp,_,q,hW q⟩)))) q q q q q (fw.wanted .none) (O.kt q .z4 ME q) .nil)) (by kernel_rfl)<|bz.fh 6 (x:=ag ai [cq.1]) (O.dc (ys:=[ae cq.1]) ai [cq.1] gk q q q q q q lq q q) q q q q .none<|aD 7 (O.ap (en:=ai) (r:=eF) .dg q .z2 .i n_ q ui)<|aD 8 O.bx<|bz.hx 9 (bk.sp [0,5,6,7])<|bz.fin q q q (ox q q q q)) ?_;exact aV h ▸ aA.dS
      ·refine W.cp [0,5,6,7,8,95] ?_;refine aJ h λiI ah h=>W.fL [0,5,6,7] [(0,.obj [aj b0 s2.1.aG.ba,aj bH s2.1.aG.b3,aj cE iI.1,ay s2.1.aG.cC,ay s2.1.aG.cK,aj cr s2.1.cu,aj bH s2.1.cL,aj dx s2.1.cb,ae s2.1.c3,ae s2.1.dn,ay s2.1.dk,ae s2.1.ct,ae iI.2.1]),(6,.obj [ae (aL (1+a8)),aj ai iI.2.2.1,ae (-1),ay iI.2.2.2.1,.aK,ae iI.2.2.2.2])] ?_ ?_
       ·clear h; have h:=ah; clear ah;refine W.b8 h q (λkN h=>?_) (λkN h=>?_)
        ·refine W.rd [[],[0],[],[2],[0,1],[0,1,4],aH 0 6 [],aH 0 7 []] [(0,_),(5,_),(6,_),(7,_)] fg (by kernel_rfl) (aD 0 O.bx<|aD 1 O.ed<|aD 2 O.bx<|aD 3 O.ed<|aD 4 O.bx<|bz.ej 5 (G2:=[(0,.obj (dR.cells s2.1)),(5,.obj (e2.cells a2)),(6,.obj [ae (aL (1+a8)),aj ai s2.2.1,ae (-1),ay bQ.Code,.aK,ae s2.2.2.2.1]),(7,ae s2.2.2.2.2),(8,.obj (e7.cells bQ))]) (U:=[(3,105,some (ae bQ.At)),(2,104,some (.ptr ⟨8,[]⟩ 5))]) (iz.v (bk.j' (bk.jh (G2:=[(0,.obj (dR.cells s2.1)),(5,.obj (e2.cells a2)),(6,.obj [ae (aL (1+a8)),aj ai s2.2.1,ae (-1),ay bQ.Code,.aK,ae s2.2.2.2.1]),(7,ae s2.2.2.2.2),(8,.obj (e7.cells bQ))]) (cs2:=[ae (aL (1+a8)),aj ai s2.2.1,ae (-1),ay bQ.Code,.aK,ae s2.2.2.2.1]) q q q (.ptr q) (.lit q) q Qh q q q q (.n q q (.n q q (.b q (.n q q (.n q q .nil)))))))) q q (by kernel_rfl) q q q (.c (.inr (.inl ⟨_,q⟩)) q q q q q (fw.wanted .none) (O.oW q .z5 nA q) (.c (.inr (.inr (.inr (.inl ⟨8,_,_,q,q,hW q,by simp,_,q,hW q⟩)))) q q q q q (fw.wanted .none) (O.kt q .z4 Ts q) .nil)) (by kernel_rfl)<|aD 6 O.bx<|bz.hx 7 (bk.nq [0,5,6,7])<|bz.fin q q q (ox q q q q)) ?_;exact aV h ▸ aA.dS
        ·refine W.cN [0,5,6,7,8] (al (O.aX .z4)<|al (O.eT .z5)<|al O.y2<|al O.ed<|al (O.add .bh .cD)<|al (O.eT .z5)<|al O.y2<|ar.eD (bk.nq [0,5,6,7,8])<|bL q) ?_;refine W.bB<|aJ h λcQ mx h=>aJ h λcd pF h=>W.rd [[],[],[1],[1,2],[1,2,3],[1,2,3,4],[],[6],[6,7],[6,7,8],[6,7,8,9],[],[11],[11,12],[11,12,13],aH 6 9 [],[],[16],[],[],[19],[18,19,20],[],[22],aH 6 18 [],aH 6 19 [],aH 1 25 [],aH 0 27 [],aH 0 28 [],aH 0 29 [],aH 0 30 []] [(0,_),(5,_),(6,_),(7,_)] fg (by kernel_rfl) (aD 0 (O.aX .z4)<|aD 1 (O.aX .z4)<|aD 2 (O.eT .z5)<|aD 3 O.y2<|aD 4 O.y2<|aD 5 (O.c7 (y:=.a6 cE.z ⟨0,[2]⟩ s2.1.aG.bj.length))<|aD 6 (O.aX .z4)<|aD 7 (O.eT .z5)<|aD 8 O.y2<|aD 9 (O.c7 (y:=.a6 dx.z ⟨0,[7]⟩ s2.1.cb.length))<|aD 10 (O.mB .dg F0)<|aD 11 (O.aX .z4)<|aD 12 (O.eT .z5)<|aD 13 O.y2<|aD 14 O.ed<|aD 15 (O.add .bh .bh)<|aD 16 O.bx<|aD 17 O.ed<|aD 18 (O.dc (ys:=[]) ai ([]:List Int) gk q q q q q q lq q q)<|aD 19 O.bx<|aD 20 (O.c7 (y:=.a6 ai.z ⟨6,[1]⟩ s2.2.1.length))<|aD 21 (O.ap (en:=ai) (r:=cQ) .z3 q .dg (.flat ai q) n_ q mx)<|aD 22 O.bx<|aD 23 O.ed<|aD 24 (O.ej (cs:=[ae (aL ((s2.1.cb.length:Int)+(aL (s2.1.b_+1)))),.aK,ae (-1),ay bQ.Code,.a6 ai.z ⟨57,[]⟩ (([]:List Int).length+s2.2.1.length),ae bQ.At]) Kt DH q q q)<|aD 25 (O.wG (ys:=[.agg [ae (aL ((s2.1.cb.length:Int)+(aL (s2.1.b_+1)))),.aK,ae (-1),ay bQ.Code,.a6 ai.z ⟨57,[]⟩ (([]:List Int).length+s2.2.1.length),ae bQ.At]]) (cs:=[ae (aL ((s2.1.cb.length:Int)+(aL (s2.1.b_+1)))),.aK,ae (-1),ay bQ.Code,.a6 ai.z ⟨57,[]⟩ (([]:List Int).length+s2.2.1.length),ae bQ.At]) F3 q q q q q K0 q q)<|aD 26 (O.Rv (en:=cE) (M:=[(⟨aL ((s2.1.cb.length:Int)+(aL (s2.1.b_+1))),([]:List Int),(-1),bQ.Code,([]:List Int)++s2.2.1,bQ.At⟩:Prod)]) (r:=cd) .dg q .z3 q q q q LC q pF (vF (by kernel_rfl) (by kernel_rfl)))<|aD 27 (O.eT .z5)<|aD 28 O.y2<|aD 29 O.y2<|bz.hx 30 (G2:=[(0,.obj [aj b0 s2.1.aG.ba,aj bH s2.1.aG.b3,aj cE (s2.1.aG.bj++[(⟨aL ((s2.1.cb.length:Int)+(aL (s2.1.b_+1))),([]:List Int),(-1),bQ.Code,([]:List Int)++s2.2.1,bQ.At⟩:Prod)]),ay s2.1.aG.cC,ay s2.1.aG.cK,aj cr s2.1.cu,aj bH s2.1.cL,aj dx s2.1.cb,ae s2.1.c3,ae s2.1.dn,ay s2.1.dk,ae s2.1.ct,ae (aL (s2.1.b_+1))]),(5,.obj (e2.cells a2)),(6,.obj [ae (aL (1+a8)),aj ai s2.2.1,ae (-1),ay s2.2.2.1,.aK,ae s2.2.2.2.1]),(7,ae s2.2.2.2.2)]) (bk.F5 (g1:=_) (en:=cE) (M:=[(⟨aL ((s2.1.cb.length:Int)+(aL (s2.1.b_+1))),([]:List Int),(-1),bQ.Code,([]:List Int)++s2.2.1,bQ.At⟩:Prod)]) (cs2:=[aj b0 s2.1.aG.ba,aj bH s2.1.aG.b3,aj cE (s2.1.aG.bj++[(⟨aL ((s2.1.cb.length:Int)+(aL (s2.1.b_+1))),([]:List Int),(-1),bQ.Code,([]:List Int)++s2.2.1,bQ.At⟩:Prod)]),ay s2.1.aG.cC,ay s2.1.aG.cK,aj cr s2.1.cu,aj bH s2.1.cL,aj dx s2.1.cb,ae s2.1.c3,ae s2.1.dn,ay s2.1.dk,ae s2.1.ct,ae (aL (s2.1.b_+1))]) q q (.ptr q) (.bM q) q q q (.f (.f (.f (.f (.h' q q q .ky (.f .nil)))))) (.f (.z (.f (.f (.z (hv:=i'.h' q q) (.f .nil)))))) q q YT q q q q (.b q (.n q q (.n q q (.n q q .nil)))))<|bz.fin q q q (ox q q q q)) ?_;refine aA.bw<|aJ h λbU lg h=>W.rd [[],[0],[],[2],[2,3],[2,3,4],[2,3,4,5],aH 2 5 [],[],[8],[8,9],[8,9,10],aH 2 10 [],aH 2 11 [],aH 0 14 [],aH 0 15 [],aH 0 16 []] [(0,_),(5,_),(6,_),(7,_)] fg (by kernel_rfl) (aD 0 O.bx<|aD 1 (O.c7 (y:=.a6 ai.z ⟨6,[1]⟩ s2.2.1.length))<|aD 2 (O.aX .z4)<|aD 3 (O.eT .z5)<|aD 4 O.y2<|aD 5 (O.c7 (y:=.a6 dx.z ⟨0,[7]⟩ s2.1.cb.length))<|aD 6 (O.mB .dg F0)<|aD 7 (O.add .cD .bh)<|aD 8 (O.aX .z4)<|aD 9 (O.eT .z5)<|aD 10 O.y2<|aD 11 O.ed<|aD 12 (O.add .bh .bh)<|bz.fh 13 (x:=ag ai [aL ((aL (1000+(s2.1.cb.length:Int)))+(aL (s2.1.b_+1)))]) (O.dc (ys:=[ae (aL ((aL (1000+(s2.1.cb.length:Int)))+(aL (s2.1.b_+1))))]) ai [aL ((aL (1000+(s2.1.cb.length:Int)))+(aL (s2.1.b_+1)))] gk q q q q q q lq q q) q q q q .none<|aD 14 (O.ap (en:=ai) (r:=bU) .dg q .z2 .i n_ q lg)<|aD 15 O.bx<|bz.hx 16 (bk.sp [0,5,6,7])<|bz.fin q q q (ox q q q q)) ?_;exact aV h ▸ aA.dS
       exact aV h ▸ aA.dS
     exact aA.b2<|aV h ▸ aA.dS
    exact aA.b2<|aV h ▸ aA.dS
   refine aA.bw<|W.bS [0,5,6,7] (bZ q<|al (O.add .bh .cD)<|ar.bS [0,5,6,23] q<|ar.bq) ?_;exact aV h ▸ aA.gt
  ·exact W.fb<|aA.e'<|aV h ▸ aA.t1
 refine aA.e8<|aA.bw<|W.bB<|W.cp [0,5,6,9] ?_;refine W.b2<|aJ h λeX ak h=>W.gK ((-1),0) (λ(np:Int × Int)=>[(6,.obj [ae (aL (1+a8)),aj ai a7.2.1,ae np.1,ay a7.2.2.1,.aK,ae a7.2.2.2]),(9,ae np.2)]) [0,5,6,9] 3 (λ(eX:Int)=>[(6,.obj [ae (aL (1+a8)),aj ai a7.2.1,ae eX,ay a7.2.2.1,.aK,ae a7.2.2.2])]) [0,5,6] ak (λnp o h=>?_) ?_
 ·clear ak;refine W.bB<|W.cp [0,5,6,9,112] ?_;refine W.b8 h q (λlI h=>?_) (λlI h=>?_)
  ·refine W.cZ<|aA.bw<|W.bB<|aJ h λmz ah h=>W.fL [0,5,6,9] [(6,.obj [ae (aL (1+a8)),aj ai a7.2.1,ae mz,ay a7.2.2.1,.aK,ae a7.2.2.2])] ?_ ?_
   ·clear h; have h:=ah; clear ah;refine W.b2<|aJ h λfB sa h=>W.cN [0,5,6,9,120] (al O.bx<|al (O.c7 (y:=.a6 ai.z ⟨6,[1]⟩ a7.2.1.length))<|bZ q<|al (O.fY (en:=ai) q .dg .bh gk sa q)<|al (O.iw (en:=ai) (x':=ae fB) q .z5 nA sa q q)<|ar.bq) ?_;refine aJ h λxx ah h=>W.fL [0,5,6,9] [(6,.obj [ae (aL (1+a8)),aj ai a7.2.1,ae xx,ay a7.2.2.1,.aK,ae a7.2.2.2])] ?_ ?_
    ·clear h; have h:=ah; clear ah;refine W.b8 h q (λH7 h=>?_) (λH7 h=>?_)
     ·refine aJ h λgC sV h=>W.bS [0,5,6,9] (al O.bx<|al (O.c7 (y:=.a6 ai.z ⟨6,[1]⟩ a7.2.1.length))<|bZ q<|al (O.fY (en:=ai) q .dg .bh gk sV q)<|al (O.iw (en:=ai) (x':=ae gC) q .z5 nA sV q q)<|al O.bx<|ar.eD (bk.nq [0,5,6,9])<|bL q) ?_;exact aV h ▸ aA.dS
     ·exact W.cZ<|aV h ▸ aA.dS
    exact aA.b2<|aV h ▸ aA.dS
   refine aA.bw<|W.bS [0,5,6,9] (bZ q<|al (O.add .bh .cD)<|ar.bS [0,5,6,114] q<|ar.bq) ?_;exact aV h ▸ aA.gt
  ·exact W.fb<|aA.e'<|aV h ▸ aA.t1
 refine aA.e8<|aA.bw<|W.bB<|W.cp [0,5,6,130] ?_;refine aJ h λjY ah h=>W.fL [0,6] [(0,.obj (dR.cells jY.1)),(6,.obj [ae (aL (1+a8)),aj ai a7.2.1,ae jY.2,ay a7.2.2.1,.aK,ae a7.2.2.2])] ?_ ?_
 ·clear h; have h:=ah; clear ah;refine W.b8 h q (λBI h=>?_) (λBI h=>?_)
  ·refine W.cN [0,5,6] (al O.bx<|ar.eD (bk.nq [0,5,6])<|bL q) ?_;refine aJ h λtC ah h=>W.kh [0,5,6,142] [(142,a_ tC)] ?_ ?_
   ·refine al O.bx<|al O.y2<|al O.ed<|al (O.aX (.lit q)) ?_;rcases fq ah with ⟨zj,ah⟩ | ⟨zj,ah⟩
    ·exact aV ah ▸ ar.bq
    ·refine cc zj (O.aX .z4)<|cc zj O.bx<|cc zj O.y2<|cc zj O.ed ?_;exact aJ ah λhI rj ah=>aV ah ▸ (ar.c (cB.pZ (ys:=[.ptr ⟨0,[]⟩ 0,ay a2.Prec.Name]) q (.c (View.nU q q) (.s .nil)) (bA.go rj)) q q (.fi q q zj)<|ar.bq)
   refine aJ h λpM ah h=>W.fL [0,6] [(0,.obj (dR.cells pM.1)),(6,.obj [ae (aL (1+a8)),aj ai a7.2.1,ae pM.2,ay a7.2.2.1,.aK,ae a7.2.2.2])] ?_ ?_
   ·clear h; have h:=ah; clear ah;refine W.b8 h q (λnD h=>?_) (λnD h=>?_)
    ·refine aJ h λj2 sd h=>W.bS [0,6] (al (O.aX .z4)<|al O.bx<|al (O.ek (cs':=dE.cells a2.Prec) q .z5 tz q q)<|ar.kL q (bk.call q q (hJ.nh (G2:=[(6,.obj [ae (aL (1+a8)),aj ai a7.2.1,ae (-1),ay a7.2.2.1,.aK,ae a7.2.2.2])]) (A:=[]) (ys:=[.ptr ⟨0,[]⟩ 0,.agg (dE.cells a2.Prec)]) (args:=[.obj (dR.cells a7.1),.agg (dE.cells a2.Prec)]) (cs':=dR.cells j2.2) (k0:=0) q q q q (.b q (.n q .nil)) q (bA.go sd) call138 (.n q .nil) q q (.n q .nil) .nil q))<|al O.bx<|ar.eD (bk.nq [0,6])<|bL q) ?_;exact aV h ▸ aA.dS
    ·refine aJ h λeo I6 h=>W.bS [0,6] (al (O.aX .z4)<|al O.bx<|al O.y2<|al O.ed<|al O.bx<|al O.y2<|al O.ed<|ar.kL q (bk.call q q (hJ.nh (G2:=[(6,.obj [ae (aL (1+a8)),aj ai a7.2.1,ae (-1),ay a7.2.2.1,.aK,ae a7.2.2.2])]) (A:=[]) (ys:=[.ptr ⟨0,[]⟩ 0,ae a2.Prec.At,ay a2.Prec.Name]) (args:=[.obj (dR.cells a7.1),ae a2.Prec.At,ay a2.Prec.Name]) (cs':=dR.cells eo) (k0:=0) q q q q (.b q (.n q (.n q .nil))) q (bA.go I6) call105 (.n q .nil) q q (.n q .nil) .nil q))<|bL q) ?_;exact aV h ▸ aA.dS
   exact aV h ▸ aA.dS
  ·exact W.cZ<|aV h ▸ aA.dS
 refine aA.bw<|aJ h λp1 xm h=>W.cN [0,6] (al (O.dc (ys:=[]) ai ([]:List Int) gk q q q q q q lq q q)<|al O.bx<|al (O.c7 (y:=.a6 ai.z ⟨6,[1]⟩ a7.2.1.length))<|al (O.ap (en:=ai) (r:=p1) .z3 q .dg (.flat ai q) n_ q xm)<|al O.bx<|ar.eD (bk.sp [0,6])<|bL q) ?_;refine W.dN (G1:=[(0,_),(6,.obj [ae (aL (1+a8)),ag ai a7.2.1,ae jY.2,ay a7.2.2.1,aj ai (([]:List Int)++a7.2.1),ae a7.2.2.2])]) [6] (.n q q (.z q q (fo.obj (.f (.z (.f (.f (.f (.f .nil))))))) .nil)) ?_;refine W.dN (G1:=[(0,_),(6,.obj [ae (aL (1+a8)),ag ai a7.2.1,ae jY.2,ay a7.2.2.1,ag ai (([]:List Int)++a7.2.1),ae a7.2.2.2])]) [6] (.n q q (.z q q (fo.obj (.f (.f (.f (.f (.z (.f .nil))))))) .nil)) ?_;refine aJ h λj3 pG h=>W.rd [[],[],[1],[1,2],[1,2,3],[1,2,3,4],[],[6],aH 1 7 [],aH 0 9 [],aH 0 10 [],aH 0 11 [],aH 0 12 []] [(0,_)] fg (by kernel_rfl) (aD 0 (O.aX .z4)<|aD 1 (O.aX .z4)<|aD 2 (O.eT .z5)<|aD 3 O.y2<|aD 4 O.y2<|aD 5 (O.c7 (y:=.a6 cE.z ⟨0,[2]⟩ jY.1.aG.bj.length))<|aD 6 (O.ek (cs':=[ae (aL (1+a8)),ag ai a7.2.1,ae jY.2,ay a7.2.2.1,ag ai (([]:List Int)++a7.2.1),ae a7.2.2.2]) q .z4 LL q q)<|bz.fh 7 (x:=ag cE [(⟨aL (1+a8),a7.2.1,jY.2,a7.2.2.1,([]:List Int)++a7.2.1,a7.2.2.2⟩:Prod)]) (O.dc (ys:=[.agg [ae (aL (1+a8)),ag ai a7.2.1,ae jY.2,ay a7.2.2.1,ag ai (([]:List Int)++a7.2.1),ae a7.2.2.2]]) cE [(⟨aL (1+a8),a7.2.1,jY.2,a7.2.2.1,([]:List Int)++a7.2.1,a7.2.2.2⟩:Prod)] F3 q q q q q q K0 q q) q q q q .none<|aD 8 (O.ap (en:=cE) (r:=j3) .dg q .z2 .i LC q pG)<|aD 9 (O.eT .z5)<|aD 10 O.y2<|aD 11 O.y2<|bz.hx 12 (bk.sp [0])<|bz.fin q q q (.n q .nil)) ?_;exact aV h ▸ aA.fin (Fin.ro .nil q (CF (by kernel_rfl)) (.aq q q (.no (.no .nil))) q (.inl q))
instance ZP {a0:dv}{aE:ByteArray}{a2:Alt}{r:dv}:bA prog 108 (vL a0 aE a2=some r) [.obj (dR.cells a0),ay aE,.agg (e2.cells a2)] [some (.obj [aj b0 r.aG.ba,aj bH r.aG.b3,aj cE r.aG.bj,ay r.aG.cC,ay r.aG.cK,aj cr r.cu,aj bH r.cL,aj dx r.cb,ae r.c3,ae r.dn,ay r.dk,ae r.ct,ae r.b_]),none,none] (.bW []):=⟨St a0 aE a2 _⟩
instance ZS {a0:Int}{r:ByteArray}:bA prog 110 (CK a0=some r) [ae a0] [none] (ay r):=⟨λh=>by unfold CK at h; exact bV.bq (N:=⟨32,[]⟩) [0,2,3,4,8,16,28] (.dF [0,3] (λ(jt:Int)=>[(3,.lit (.int .u64 jt))]) .e (.eP (λ(ea:Int × ByteArray)=>[(3,.lit (.int .u64 ea.1)),(4,ay ea.2)]) [0,3,4] 0 (λ(bs:ByteArray)=>[(4,ay bs)]) [0,4] (.ev 5 [0,3,4,16] (λ(kJ:Bool)=>[(16,a_ kJ)]) .e) .e)) func110 rfl rfl rfl rfl rfl dH⟩
theorem SO (a0:Source) (r:bO × Int × Int × ByteArray) (h:vY a0=some r):bV prog 77 [.agg (hh.cells a0)] [none] (.bW [.agg (dt.cells r.1),ae r.2.1,ae r.2.2.1,ay r.2.2.2]):=by
 unfold vY at h;refine bV.go (N:=⟨435,[]⟩) func77 q q q q (W.fin ?_);refine W.st [(0,.agg (hh.cells a0))] ?_;refine W.cN [1,2] (al (O.box (.ds q q) q)<|al (O.fp (cs:=[.aK,.aK,.aK,ay a',ay a']) tg q q)<|ar.bq) ?_;refine W.bB<|aJ h λa8 hV h=>W.cN [1,2,28] (al (O.ek (cs':=hh.cells a0) q .z4 wz q q)<|gr (cB.eY (.cm (.ds q q) .nil) (bA.go hV))<|ar.bq) ?_;refine W.b8 h q (λgH h=>?_) (λgH h=>?_)
 ·refine W.cN [2,3,4,5] (al (O.ej (cs:=[.aK,.aK,.aK,ay a',ay a']) Ks tg q q q)<|ar.eD (bk.gp [2])<|ar.bq) ?_;refine W.dN (G1:=[(2,.obj [ag b0 ([]:List bX),ag bH ([]:List fF),ag cE ([]:List Prod),ay a',ay a']),(3,_),(4,_),(5,_)]) [2] (.z q q (fo.obj (.z (.z (.z (.f (.f .nil)))))) (.n q q (.n q q (.n q q .nil)))) ?_;exact W.rt<|aA.hZ<|aV h ▸ i_ (.c (ys0:=[ag b0 ([]:List bX),ag bH ([]:List fF),ag cE ([]:List Prod),ay a',ay a']) q ja q q q (.f q (.f q (.f q (.f q (.f q .nil))))) (.f q q (.f q q (.f q q .nil))))
 ·refine W.cZ<|aA.bw<|aJ h λa7 js h=>W.cN [1,2,6] (al (O.mk (en:=cr) (z0:=false) rG .cD .cD KY q q js GZ q)<|al (O.ej (cs:=[.aK,.aK,.aK,ay a',ay a',.a6 cr.z ⟨30,[]⟩ a7.length,.aK,.aK,ae 0,ae 0,ay a',ae 0,ae 0]) Yk Zq q q q)<|al (O.box (.ds q q) q)<|ar.q9 (G2:=[(1,.obj (hh.cells a0)),(2,.obj [.aK,.aK,.aK,ay a',ay a'])]) q (bk.A6 (y':=.obj [.aK,.aK,.aK,ay a',ay a',aj cr a7,.aK,.aK,ae 0,ae 0,ay a',ae 0,ae 0]) q q (.obj q) (.b q (.f (.f (.f (.f (.f (.r q (.f (.f (.f (.f (.f (.f (.f .nil))))))))))))) .nil) .refl (kX q q) q q)<|bL q) ?_;refine W.cN [1,2,6] (al (O.aX .z4)<|al (O.ej (cs:=[ay (⟨#[36,101,110,100]⟩),a_ false,ae 0,ae 0,ae 0,ay a']) Kq Gx q q q)<|al (O.ej (cs:=[ay (⟨#[101,114,114,111,114]⟩),a_ false,ae (-1),ae 0,ae 0,ay a']) Kq Gx q q q)<|al (O.ej (cs:=[ay (⟨#[36,117,110,107]⟩),a_ false,ae (-1),ae 0,ae 0,ay a']) Kq Gx q q q)<|al (O.dc (ys:=[.agg [ay (⟨#[36,101,110,100]⟩),a_ false,ae 0,ae 0,ae 0,ay a'],.agg [ay (⟨#[101,114,114,111,114]⟩),a_ false,ae (-1),ae 0,ae 0,ay a'],.agg [ay (⟨#[36,117,110,107]⟩),a_ false,ae (-1),ae 0,ae 0,ay a']]) b0 [(⟨⟨#[36,101,110,100]⟩,false,0,0,0,a'⟩:bX),(⟨⟨#[101,114,114,111,114]⟩,false,(-1),0,0,a'⟩:bX),(⟨⟨#[36,117,110,107]⟩,false,(-1),0,0,a'⟩:bX)] F2 q q q q q q Zt q q)<|al (O.eT .z5)<|al O.y2<|al O.y2<|ar.eD (bk.te [1,2,6])<|bL q) ?_;refine W.cp [1,2,6,7] ?_;refine W.bB<|W.cp [1,2,6,7,8] ?_;refine W.b2<|aJ h λbT ak h=>W.gK ((⟨(⟨[(⟨⟨#[36,101,110,100]⟩,false,0,0,0,a'⟩:bX),(⟨⟨#[101,114,114,111,114]⟩,false,(-1),0,0,a'⟩:bX),(⟨⟨#[36,117,110,107]⟩,false,(-1),0,0,a'⟩:bX)],[],[],a',a'⟩:bO),a7,[],[],0,0,a',0,0⟩:dv),a',0) (λ(cY:dv × ByteArray × Int)=>[(6,.obj (dR.cells cY.1)),(7,ay cY.2.1),(8,ae cY.2.2)]) [1,2,6,7,8] 0 (λ(bT:dv × ByteArray)=>[(6,.obj (dR.cells bT.1)),(7,ay bT.2)]) [1,2,6,7] ak (λcY o h=>?_) ?_
  ·clear ak;refine W.bB<|W.cp [1,2,6,7,8,45] ?_;refine W.b8 h q (λnF h=>?_) (λnF h=>?_)
   ·refine W.cZ<|aA.bw<|W.bB<|W.b2<|aJ h λb6 oT h=>W.cN [1,2,6,7,8,9] (al O.bx<|al (O.c7 (y:=ag dB a0.Decls))<|bZ q<|al (O.eK oT)<|al (O.ng (cs':=dB.cells b6) .n1 GV q q)<|al (O.fp (cs:=[ae 0,ay a',.aK,ae 0]) Gy q q)<|ar.eD (bk.gp [1,2,6,7,8,9])<|bL q) ?_;refine W.bB<|aJ h λik ah h=>W.kh [1,2,6,7,8,9,60] [(60,a_ ik)] ?_ ?_
    ·refine al O.bx<|al O.ed<|al (O.geq .bh .cD)<|al (O.aX (.lit q)) ?_;rcases fq ah with ⟨nG,ah⟩ | ⟨nG,ah⟩
     ·exact aV ah ▸ ar.bq
     ·exact aV ah ▸ ar.bq
    refine aJ h λju ah h=>W.fL [1,2,6,7,8,9] [(6,.obj [aj b0 cY.1.aG.ba,aj bH cY.1.aG.b3,aj cE cY.1.aG.bj,ay cY.1.aG.cC,ay cY.1.aG.cK,aj cr cY.1.cu,aj bH cY.1.cL,aj dx cY.1.cb,ae cY.1.c3,ae cY.1.dn,ay cY.1.dk,ae ju,ae cY.1.b_])] ?_ ?_
    ·clear h; have h:=ah; clear ah;refine W.b8 h q (λil h=>?_) (λil h=>?_)
     ·refine W.bS [1,2,6,7,8,9] (al (O.aX .z4)<|al (O.eT .z5)<|al O.y2<|al O.ed<|al (O.add .bh .cD)<|al (O.eT .z5)<|al O.y2<|ar.eD (bk.nq [1,2,6,7,8,9])<|bL q) ?_;exact aV h ▸ aA.dS
     ·exact W.cZ<|aV h ▸ aA.dS
    refine aA.bw<|W.cp [1,2,6,7,8,9,10] ?_;refine W.b2<|aJ h λeg ak h=>W.gK ((⟨cY.1.aG,cY.1.cu,cY.1.cL,cY.1.cb,cY.1.c3,cY.1.dn,cY.1.dk,ju,cY.1.b_⟩:dv),cY.2.1,0) (λ(e_:dv × ByteArray × Int)=>[(6,.obj (dR.cells e_.1)),(7,ay e_.2.1),(10,ae e_.2.2)]) [1,2,6,7,8,9,10] 2 (λ(eg:dv × ByteArray)=>[(6,.obj (dR.cells eg.1)),(7,ay eg.2)]) [1,2,6,7,8] ak (λe_ o h=>?_) ?_
    ·clear ak;refine W.bB<|W.cp [1,2,6,7,8,9,10,72] ?_;refine W.b8 h q (λmu h=>?_) (λmu h=>?_)
     ·refine W.cZ<|aA.bw<|W.bB<|aJ h λCl ah h=>W.fL [1,2,6,7,8,9,10] [(6,.obj (dR.cells Cl.1)),(7,ay Cl.2)] ?_ ?_
      ·clear h; have h:=ah; clear ah;refine W.b2<|W.bB<|W.cp [1,2,6,7,8,9,10,77] ?_;refine W.b8 h q (λgv h=>?_) (λgv h=>?_)
       ·refine W.bB<|aJ h λeX oi h=>aJ h λdM uj h=>W.rd [[],[],[],[2],[],[2,3,4],[2,3,4,5],aH 0 7 []] [(1,_),(2,_),(6,_),(7,_),(8,_),(9,_),(10,_)] fg (by kernel_rfl) (aD 0 (O.aX .z4)<|aD 1 (O.ek (cs':=dB.cells b6) q .z4 GV q q)<|aD 2 O.bx<|aD 3 (O.c7 (y:=ag dE b6.eM))<|aD 4 (O.aX (.lit q))<|aD 5 (O.eK oi)<|aD 6 (O.ng (cs':=dE.cells eX) .n1 tz q q)<|bz.hx 7 (G2:=[(85,.bW []),(6,.obj (dR.cells dM)),(1,.obj (hh.cells a0)),(2,.obj [.aK,.aK,.aK,ay a',ay a']),(7,ay e_.2.1),(8,ae cY.2.2),(9,.obj (dB.cells b6)),(10,ae e_.2.2)]) (bk.call q q (hJ.nh (G2:=[(1,.obj (hh.cells a0)),(2,.obj [.aK,.aK,.aK,ay a',ay a']),(7,ay e_.2.1),(8,ae cY.2.2),(9,.obj (dB.cells b6)),(10,ae e_.2.2)]) (A:=[]) (ys:=[.ptr ⟨6,[]⟩ 0,.agg (dB.cells b6),.agg (dE.cells eX)]) (args:=[.obj (dR.cells e_.1),.agg (dB.cells b6),.agg (dE.cells eX)]) (cs':=dR.cells dM) (k0:=0) q q q q (.b q (.n q (.n q .nil))) q (bA.go uj) call104 (nX q q q q q q) q q (nX q q q q q q) .nil q))<|bz.fin q q q (ss q q q q q q q)) ?_;exact aA.bw<|W.fb<|aA.e'<|aA.e8<|aV h ▸ aA.dS
       ·refine W.cZ<|aA.bw<|W.bB<|W.cp [1,2,6,8,9,10,87] ?_;refine aJ h λnR ah h=>W.fL [1,2,6,8,9,10] [(6,.obj (dR.cells nR))] ?_ ?_
        ·clear h; have h:=ah; clear ah;refine W.b8 h q (λqq h=>?_) (λqq h=>?_)
         ·refine aJ h λfB sa h=>aJ h λgb sb h=>aJ h λhS sc h=>W.rd [[],[],[1],[],[1,2,3],[1,2,3,4],aH 1 5 [],[],[7],[],[7,8,9],[7,8,9,10],aH 7 5 [],aH 0 13 []] [(1,_),(2,_),(6,_),(8,_),(9,_),(10,_)] fg (by kernel_rfl) (aD 0 (O.aX .z4)<|aD 1 O.bx<|aD 2 (O.c7 (y:=ag dE b6.eM))<|aD 3 (O.aX (.lit q))<|aD 4 (O.eK sa)<|aD 5 O.iK<|aD 6 (O.fI (x:=ae fB.At))<|aD 7 O.bx<|aD 8 (O.c7 (y:=ag dE b6.eM))<|aD 9 (O.aX (.lit q))<|aD 10 (O.eK sb)<|aD 11 O.iK<|aD 12 (O.fI (x:=ay gb.Name))<|bz.hx 13 (G2:=[(101,.bW []),(6,.obj (dR.cells hS)),(1,.obj (hh.cells a0)),(2,.obj [.aK,.aK,.aK,ay a',ay a']),(8,ae cY.2.2),(9,.obj (dB.cells b6)),(10,ae e_.2.2)]) (bk.call q q (hJ.nh (G2:=[(1,.obj (hh.cells a0)),(2,.obj [.aK,.aK,.aK,ay a',ay a']),(8,ae cY.2.2),(9,.obj (dB.cells b6)),(10,ae e_.2.2)]) (A:=[]) (ys:=[.ptr ⟨6,[]⟩ 0,ae fB.At,ay gb.Name]) (args:=[.obj (dR.cells e_.1),ae fB.At,ay gb.Name]) (cs':=dR.cells hS) (k0:=0) q q q q (.b q (.n q (.n q .nil))) q (bA.go sc) call105 (jR q q q q q) q q (jR q q q q q) .nil q))<|bz.fin q q q (nX q q q q q q)) ?_;exact aV h ▸ aA.dS
         ·exact W.cZ<|aV h ▸ aA.dS
        refine aA.bw<|aJ h λgC sV h=>W.Rn [1,2,6,7,8,9,10] ?_;exact aA.b2<|aV h ▸ aA.dS
      refine aA.bw<|W.bS [1,2,6,7,8,9,10] (bZ q<|al (O.add .bh .cD)<|ar.bS [1,2,6,7,8,9,74] q<|ar.bq) ?_;exact aV h ▸ aA.gt
     ·exact W.fb<|aA.e'<|aV h ▸ aA.t1
    refine aA.e8<|aA.b2<|aA.bw<|W.bS [1,2,6,7,8] (bZ q<|al (O.add .bh .cD)<|ar.bS [1,2,6,7,47] q<|ar.bq) ?_;exact aV h ▸ aA.gt
   ·exact W.fb<|aA.e'<|aV h ▸ aA.t1
  refine aA.e8<|aA.bw<|W.bB<|W.cp [1,2,6,7,11] ?_;refine W.b2<|aJ h λcX ak h=>W.gK (bT.1,0) (λ(qL:dv × Int)=>[(6,.obj (dR.cells qL.1)),(11,ae qL.2)]) [1,2,6,7,11] 4 (λ(cX:dv)=>[(6,.obj (dR.cells cX))]) [1,2,6,7] ak (λqL o h=>?_) ?_
  ·clear ak;refine W.bB<|W.cp [1,2,6,7,11,112] ?_;refine W.b8 h q (λH8 h=>?_) (λH8 h=>?_)
   ·refine W.cZ<|aA.bw<|W.bB<|aJ h λsi ah h=>W.fL [1,2,6,7,11] [(6,.obj (dR.cells si))] ?_ ?_
    ·clear h; have h:=ah; clear ah;refine W.b2<|aJ h λcR xl h=>W.cN [1,2,6,7,11,12] (al O.bx<|al (O.c7 (y:=ag gO a0.dG))<|bZ q<|al (O.eK xl)<|al (O.ng (cs':=gO.cells cR) .n1 LM q q)<|al (O.fp (cs:=[ay a',.aK,ae 0]) DI q q)<|ar.eD (bk.gp [1,2,6,7,11,12])<|bL q) ?_;refine W.bB<|aJ h λfa oj h=>W.cN [1,2,6,7,11,12,125] (al (O.aX .z4)<|al O.bx<|al O.ed<|al (O.ej (cs:=[ay cR.Left,a_ false,ae 0,ae 0]) FU AK q q q)<|gr (cB.pZ (ys:=[.ptr ⟨6,[]⟩ 0,.agg [ay cR.Left,a_ false,ae 0,ae 0]]) q (.c (View.nU q q) (.c (.mO (.s (.s (.s (.s .nil))))) .nil)) (bA.go oj))<|ar.bq) ?_;refine aJ h λiR ah h=>W.fL [1,2,6,7,11,12] [(6,.obj (dR.cells iR))] ?_ ?_
     ·clear h; have h:=ah; clear ah;refine W.b8 h q (λH_ h=>?_) (λH_ h=>?_)
      ·refine aJ h λp1 xm h=>W.bS [1,2,6,7,11,12] (al (O.aX .z4)<|al O.bx<|al O.ed<|al O.bx<|al O.ed<|ar.kL q (bk.call q q (hJ.nh (G2:=[(1,.obj (hh.cells a0)),(2,.obj [.aK,.aK,.aK,ay a',ay a']),(7,ay bT.2),(11,ae qL.2),(12,.obj (gO.cells cR))]) (A:=[]) (ys:=[.ptr ⟨6,[]⟩ 0,ae cR.At,ay cR.Left]) (args:=[.obj (dR.cells qL.1),ae cR.At,ay cR.Left]) (cs':=dR.cells p1) (k0:=0) q q q q (.b q (.n q (.n q .nil))) q (bA.go xm) call105 (jR q q q q q) q q (jR q q q q q) .nil q))<|bL q) ?_;exact aV h ▸ aA.dS
      ·exact W.cZ<|aV h ▸ aA.dS
     refine aA.bw<|aJ h λj3 pG h=>W.cN [1,2,6,7,11,12,136] (al (O.aX .z4)<|al O.bx<|al O.ed<|gr (cB.pZ (ys:=[.ptr ⟨6,[]⟩ 0,ay cR.Left]) q (.c (View.nU q q) (.s .nil)) (bA.go pG))<|ar.bq) ?_;refine aJ h λJs ah h=>W.fL [1,2,6,7,11] [(6,.obj [aj b0 iR.aG.ba,aj bH iR.aG.b3,aj cE iR.aG.bj,ay iR.aG.cC,ay iR.aG.cK,aj cr iR.cu,aj bH iR.cL,aj dx Js,ae iR.c3,ae iR.dn,ay iR.dk,ae iR.ct,ae iR.b_])] ?_ ?_
     ·clear h; have h:=ah; clear ah;refine W.b8 h q (λUG h=>?_) (λUG h=>?_)
      ·refine aJ h λrJ um h=>W.rd [[],[],[1],[1,2],[1,2,3],[],[5],[5,6],aH 1 7 [],aH 0 9 [],aH 0 10 [],aH 0 11 []] [(1,_),(2,_),(6,_),(7,_),(11,_)] fg (by kernel_rfl) (aD 0 (O.aX .z4)<|aD 1 (O.aX .z4)<|aD 2 (O.eT .z5)<|aD 3 O.y2<|aD 4 (O.c7 (y:=.a6 dx.z ⟨6,[7]⟩ iR.cb.length))<|aD 5 O.bx<|aD 6 O.ed<|bz.fh 7 (x:=ag dx [cR.Left]) (O.dc (ys:=[ay cR.Left]) dx [cR.Left] F0 q q q q q q Zx q q) q q q q .none<|aD 8 (O.ap (en:=dx) (r:=rJ) .dg q .z2 .i Rq q um)<|aD 9 (O.eT .z5)<|aD 10 O.y2<|bz.hx 11 (bk.sp [1,2,6,7,11])<|bz.fin q q q (jR q q q q q)) ?_;exact aV h ▸ aA.dS
      ·exact W.cZ<|aV h ▸ aA.dS
     exact aA.b2<|aV h ▸ aA.dS
    refine aA.bw<|W.bS [1,2,6,7,11] (bZ q<|al (O.add .bh .cD)<|ar.bS [1,2,6,7,114] q<|ar.bq) ?_;exact aV h ▸ aA.gt
   ·exact W.fb<|aA.e'<|aV h ▸ aA.t1
  refine aA.e8<|aA.bw<|W.bB<|W.cp [1,2,6,7,13] ?_;refine W.b2<|aJ h λhd ak h=>W.gK (cX,0) (λ(qM:dv × Int)=>[(6,.obj (dR.cells qM.1)),(13,ae qM.2)]) [1,2,6,7,13] 6 (λ(hd:dv)=>[(6,.obj (dR.cells hd))]) [1,2,6,7] ak (λqM o h=>?_) ?_
  ·clear ak;refine W.bB<|W.cp [1,2,6,7,13,152] ?_;refine W.b8 h q (λUJ h=>?_) (λUJ h=>?_)
   ·refine W.cZ<|aA.bw<|W.bB<|W.b2<|W.cp [1,2,6,7,13,14] ?_;refine W.b2<|aJ h λoz ak h=>W.gK (qM.1,0) (λ(qN:dv × Int)=>[(6,.obj (dR.cells qN.1)),(14,ae qN.2)]) [1,2,6,7,13,14] 8 (λ(oz:dv)=>[(6,.obj (dR.cells oz))]) [1,2,6,7,13] ak (λqN o h=>?_) ?_
    ·clear ak;refine W.bB<|aJ h λwg Oh h=>W.cp [1,2,6,7,13,14,163] ?_;refine W.b8 h q (λUK h=>?_) (λUK h=>?_)
     ·refine W.cZ<|aA.bw<|W.bB<|aJ h λJv ah h=>W.fL [1,2,6,7,13,14] [(6,.obj (dR.cells Jv))] ?_ ?_
      ·clear h; have h:=ah; clear ah;refine W.b2<|aJ h λwh zD h=>aJ h λp3 vv h=>W.cN [1,2,6,7,13,14,15] (al O.bx<|al (O.c7 (y:=ag dB a0.Decls))<|bZ q<|al (O.eK zD)<|al O.iK<|al (O.fI (x:=ag dE wh.eM))<|bZ q<|al (O.eK vv)<|al (O.ng (cs':=dE.cells p3) .n1 tz q q)<|al (O.fp (cs:=[ay a',a_ false,ae 0,ae 0]) AK q q)<|ar.eD (bk.gp [1,2,6,7,13,14,15])<|bL q) ?_;refine aJ h λHf ah h=>W.kh [1,2,6,7,13,14,15,188] [(188,a_ Hf)] ?_ ?_
       ·refine al O.bx<|al (O.c7 (y:=ag dB a0.Decls))<|al (O.aX (.lit q)) ?_;refine aJ ah λKP Wm ah=>al (O.eK Wm)<|al O.iK<|al (O.fI (x:=ae KP.Kind))<|al (O.geq .bh .cD)<|al (O.aX (.lit q)) ?_;rcases fq ah with ⟨BK,ah⟩ | ⟨BK,ah⟩
        ·refine cc BK (O.aX .z4)<|cc BK O.bx<|cc BK O.ed ?_;exact aJ ah λkB pH ah=>aV ah ▸ (ar.c (cB.pZ (ys:=[.ptr ⟨6,[]⟩ 0,ay p3.Name]) q (.c (View.nU q q) (.s .nil)) (bA.go pH)) q q (.fi q q BK)<|ar.bq)
        ·exact aV ah ▸ ar.bq
       refine aJ h λJw ah h=>W.fL [1,2,6,7,13,14] [(6,.obj (dR.cells Jw))] ?_ ?_
       ·clear h; have h:=ah; clear ah;refine W.b8 h q (λUN h=>?_) (λUN h=>?_)
        ·refine aJ h λAI Jb h=>W.bS [1,2,6,7,13,14] (al (O.aX .z4)<|al O.bx<|al O.ed<|al O.bx<|al O.ed<|ar.kL q (bk.call q q (hJ.nh (G2:=[(1,.obj (hh.cells a0)),(2,.obj [.aK,.aK,.aK,ay a',ay a']),(7,ay bT.2),(13,ae qM.2),(14,ae qN.2)]) (A:=[]) (ys:=[.ptr ⟨6,[]⟩ 0,ae p3.At,ay p3.Name]) (args:=[.obj (dR.cells qN.1),ae p3.At,ay p3.Name]) (cs':=dR.cells AI) (k0:=0) q q q q (.b q (.n q (.n q .nil))) q (bA.go Jb) call105 (jR q q q q q) q q (jR q q q q q) .nil q))<|bL q) ?_;exact aV h ▸ aA.dS
        ·exact W.cZ<|aV h ▸ aA.dS
       exact aA.b2<|aV h ▸ aA.dS
      refine aA.bw<|W.bS [1,2,6,7,13,14] (bZ q<|al (O.add .bh .cD)<|ar.bS [1,2,6,7,13,165] q<|ar.bq) ?_;exact aV h ▸ aA.gt
     ·exact W.fb<|aA.e'<|aV h ▸ aA.t1
    refine aA.e8<|aA.b2<|aA.bw<|W.bS [1,2,6,7,13] (bZ q<|al (O.add .bh .cD)<|ar.bS [1,2,6,7,154] q<|ar.bq) ?_;exact aV h ▸ aA.gt
   ·exact W.fb<|aA.e'<|aV h ▸ aA.t1
  refine aA.e8<|aA.bw<|W.bB<|W.cp [1,2,6,7,196] ?_;refine aJ h λxz ah h=>W.fL [1,2,6,7] [(7,ay xz)] ?_ ?_
  ·clear h; have h:=ah; clear ah;refine W.b8 h q (λUP h=>?_) (λUP h=>?_)
   ·refine aJ h λwi Cf h=>W.bS [1,2,6,7] (al O.bx<|al (O.c7 (y:=ag gO a0.dG))<|al (O.rl .z2 .cD uH Cf)<|al O.iK<|al (O.fI (x:=ay wi.Left))<|ar.bS [1,2,6,201] q<|ar.bq) ?_;exact aV h ▸ aA.dS
   ·exact W.cZ<|aV h ▸ aA.dS
  refine aA.bw<|aJ h λmH Ws h=>W.cN [1,2,6] (al (O.aX .z4)<|al (O.aX .z4)<|bZ q<|gr (cB.pZ (ys:=[.ptr ⟨6,[]⟩ 0,ay xz]) q (.c (View.nU q q) (.s .nil)) (bA.go Ws))<|al (O.add .cD .bh)<|ar.fh (x:=ag ai [aL (1001+mH)]) (O.dc (ys:=[ae (aL (1001+mH))]) ai [aL (1001+mH)] gk q q q q q q lq q q) q q .none<|ar.fh (x:=.agg [ae 0,ag ai [aL (1001+mH)],ae (-1),ay a',ag ai ([]:List Int),ae 0]) (O.ej (cs:=[ae 0,ag ai [aL (1001+mH)],ae (-1),ay a',.aK,ae 0]) Kt DH q q q) q q .none<|al (O.dc (ys:=[.agg [ae 0,ag ai [aL (1001+mH)],ae (-1),ay a',ag ai ([]:List Int),ae 0]]) cE [(⟨0,[aL (1001+mH)],(-1),a',([]:List Int),0⟩:Prod)] F3 q q q q q q K0 q q)<|al (O.eT .z5)<|al O.y2<|al O.y2<|ar.eD (bk.te [1,2,6])<|bL q) ?_;refine W.bB<|W.cp [1,2,6,16] ?_;refine W.b2<|aJ h λbu ak h=>W.gK ((⟨(⟨hd.aG.ba,hd.aG.b3,[(⟨0,[aL (1001+mH)],(-1),a',([]:List Int),0⟩:Prod)],hd.aG.cC,hd.aG.cK⟩:bO),hd.cu,hd.cL,hd.cb,hd.c3,hd.dn,hd.dk,hd.ct,hd.b_⟩:dv),0) (λ(pW:dv × Int)=>[(6,.obj (dR.cells pW.1)),(16,ae pW.2)]) [1,2,6,16] 10 (λ(bu:dv)=>[(6,.obj (dR.cells bu))]) [1,2,6] ak (λpW o h=>?_) ?_
  ·clear ak;refine W.bB<|W.cp [1,2,6,16,217] ?_;refine W.b8 h q (λUQ h=>?_) (λUQ h=>?_)
   ·refine W.cZ<|aA.bw<|W.bB<|W.b2<|W.cp [1,2,6,16,17] ?_;refine W.b2<|aJ h λkC ak h=>W.gK (pW.1,0) (λ(rD:dv × Int)=>[(6,.obj (dR.cells rD.1)),(17,ae rD.2)]) [1,2,6,16,17] 12 (λ(kC:dv)=>[(6,.obj (dR.cells kC))]) [1,2,6,16] ak (λrD o h=>?_) ?_
    ·clear ak;refine W.bB<|aJ h λDC Oj h=>W.cp [1,2,6,16,17,228] ?_;refine W.b8 h q (λUS h=>?_) (λUS h=>?_)
     ·refine W.cZ<|aA.bw<|W.bB<|W.b2<|aJ h λDD Wu h=>aJ h λKS Wv h=>aJ h λDE Ww h=>aJ h λGu Wx h=>W.rd [[],[],[1],[],[1,2,3],[1,2,3,4],aH 1 5 [],[],[7],[],[7,8,9],[7,8,9,10],aH 7 5 [],[],aH 7 7 [],aH 7 8 [],aH 0 16 []] [(1,_),(2,_),(6,_),(16,_),(17,_)] fg (by kernel_rfl) (aD 0 (O.aX .z4)<|aD 1 O.bx<|aD 2 (O.c7 (y:=ag gO a0.dG))<|aD 3 (O.aX (.lit q))<|aD 4 (O.eK Wu)<|aD 5 O.iK<|aD 6 (O.fI (x:=ay DD.Left))<|aD 7 O.bx<|aD 8 (O.c7 (y:=ag gO a0.dG))<|aD 9 (O.aX (.lit q))<|aD 10 (O.eK Wv)<|aD 11 O.iK<|aD 12 (O.fI (x:=ag e2 KS.eL))<|aD 13 (O.aX (.lit q))<|aD 14 (O.eK Ww)<|aD 15 (O.ng (cs':=e2.cells DE) .n1 GU q q)<|bz.hx 16 (G2:=[(247,.bW []),(6,.obj (dR.cells Gu)),(1,.obj (hh.cells a0)),(2,.obj [.aK,.aK,.aK,ay a',ay a']),(16,ae pW.2),(17,ae rD.2)]) (bk.call q q (hJ.nh (G2:=[(1,.obj (hh.cells a0)),(2,.obj [.aK,.aK,.aK,ay a',ay a']),(16,ae pW.2),(17,ae rD.2)]) (A:=[]) (ys:=[.ptr ⟨6,[]⟩ 0,ay DD.Left,.agg (e2.cells DE)]) (args:=[.obj (dR.cells rD.1),ay DD.Left,.agg (e2.cells DE)]) (cs':=dR.cells Gu) (k0:=0) q q q q (.b q (.n q (.n q .nil))) q (bA.go Wx) call108 (ox q q q q) q q (ox q q q q) .nil q))<|bz.fin q q q (jR q q q q q)) ?_;refine aA.b2<|aA.bw<|W.bS [1,2,6,16,17] (bZ q<|al (O.add .bh .cD)<|ar.bS [1,2,6,16,230] q<|ar.bq) ?_;exact aV h ▸ aA.gt
     ·exact W.fb<|aA.e'<|aV h ▸ aA.t1
    refine aA.e8<|aA.b2<|aA.bw<|W.bS [1,2,6,16] (bZ q<|al (O.add .bh .cD)<|ar.bS [1,2,6,219] q<|ar.bq) ?_;exact aV h ▸ aA.gt
   ·exact W.fb<|aA.e'<|aV h ▸ aA.t1
  refine aA.e8<|aA.bw<|W.bB<|W.cp [1,2,6,252] ?_;refine W.b8 h q (λUT h=>?_) (λUT h=>?_)
  ·refine W.bB<|W.rd [[],[],[1],[1,2],[1,2,3],[],[5],[5,6],[5,6,7],[],[9],[9,10],[9,10,11],[0],aH 0 5 [13],aH 0 9 [13,14],aH 0 16 []] [(2,_),(3,_),(4,_),(5,_)] fg (by kernel_rfl) (aD 0 (O.ej (cs:=[.aK,.aK,.aK,ay a',ay a']) Ks tg q q q)<|aD 1 (O.aX .z4)<|aD 2 (O.eT .z5)<|aD 3 O.y2<|aD 4 O.ed<|aD 5 (O.aX .z4)<|aD 6 (O.eT .z5)<|aD 7 O.y2<|aD 8 O.ed<|aD 9 (O.aX .z4)<|aD 10 (O.eT .z5)<|aD 11 O.y2<|aD 12 O.ed<|bz.ej 13 (G2:=[(2,.obj [.aK,.aK,.aK,ay a',ay a']),(6,.obj (dR.cells bu))]) (U:=[(12,265,some (ay bu.dk)),(11,264,some (.ptr ⟨6,[]⟩ 10)),(10,263,some (.ptr ⟨6,[]⟩ 0)),(9,262,some (.ptr ⟨6,[]⟩ 0)),(8,261,some (ae bu.dn)),(7,260,some (.ptr ⟨6,[]⟩ 9)),(6,259,some (.ptr ⟨6,[]⟩ 0)),(5,258,some (.ptr ⟨6,[]⟩ 0)),(4,257,some (ae bu.c3)),(3,256,some (.ptr ⟨6,[]⟩ 8)),(2,255,some (.ptr ⟨6,[]⟩ 0)),(1,254,some (.ptr ⟨6,[]⟩ 0))]) (iz.v (bk.j' (bk.jh (G2:=[(2,.obj [.aK,.aK,.aK,ay a',ay a']),(6,.obj (dR.cells bu))]) (cs2:=[.aK,.aK,.aK,ay a',ay a']) q q q (.obj q) (.ds q q) q F6 q q q q (.b q (.n q q .nil))))) q q (by kernel_rfl) q q q (.c (.inr (.inl ⟨_,q⟩)) q q q q q (fw.wanted .none) (O.oW q .z5 wR q) (.c (.inr (.inr (.inr (.inl ⟨6,_,_,q,q,hW q,by simp,_,q,hW q⟩)))) q q q q q (fw.wanted .none) (O.kt q .z5 Tl q) (.c (.inr (.inr (.inr (.inl ⟨6,_,_,q,q,hW q,by simp,_,q,hW q⟩)))) q q q q q (fw.wanted .none) (O.eT .z5) (.c (.inr (.inr (.inr (.inl ⟨6,_,_,q,q,hW q,by simp,_,q,hW q⟩)))) q q q q q (fw.wanted .none) (O.aX .z4) (.c (.inr (.inl ⟨_,q⟩)) q q q q q (fw.wanted .none) (O.oW q .z5 nA q) (.c (.inr (.inr (.inr (.inl ⟨6,_,_,q,q,hW q,by simp,_,q,hW q⟩)))) q q q q q (fw.wanted .none) (O.kt q .z5 Tk q) (.c (.inr (.inr (.inr (.inl ⟨6,_,_,q,q,hW q,by simp,_,q,hW q⟩)))) q q q q q (fw.wanted .none) (O.eT .z5) (.c (.inr (.inr (.inr (.inl ⟨6,_,_,q,q,hW q,by simp,_,q,hW q⟩)))) q q q q q (fw.wanted .none) (O.aX .z4) (.c (.inr (.inl ⟨_,q⟩)) q q q q q (fw.wanted .none) (O.oW q .z5 nA q) (.c (.inr (.inr (.inr (.inl ⟨6,_,_,q,q,hW q,by simp,_,q,hW q⟩)))) q q q q q (fw.wanted .none) (O.kt q .z5 Tj q) (.c (.inr (.inr (.inr (.inl ⟨6,_,_,q,q,hW q,by simp,_,q,hW q⟩)))) q q q q q (fw.wanted .none) (O.eT .z5) (.c (.inr (.inr (.inr (.inl ⟨6,_,_,q,q,hW q,by simp,_,q,hW q⟩)))) q q q q q (fw.wanted .none) (O.aX .z4) .nil)))))))))))) (by kernel_rfl)<|aD 14 (O.az (.lit q))<|aD 15 (O.az (.lit q))<|aD 16 (O.az (.lit q))<|bz.fin q q q (ox q q q q)) ?_;refine aA.bw<|W.dN (G1:=[(2,.obj [ag b0 ([]:List bX),ag bH ([]:List fF),ag cE ([]:List Prod),ay a',ay a']),(3,_),(4,_),(5,_)]) [2] (.z q q (fo.obj (.z (.z (.z (.f (.f .nil)))))) (.n q q (.n q q (.n q q .nil)))) ?_;exact W.rt<|aA.hZ<|aV h ▸ i_ (.c (ys0:=[ag b0 ([]:List bX),ag bH ([]:List fF),ag cE ([]:List Prod),ay a',ay a']) q ja q q q (.f q (.f q (.f q (.f q (.f q .nil))))) (.f q q (.f q q (.f q q .nil))))
  ·refine W.cZ<|aA.bw<|W.cN [1,2,6] (al (O.aX .z4)<|al (O.ej (cs:=[ay (⟨#[36,97,99,99,101,112,116]⟩),ay a']) FR DG q q q)<|al (O.dc (ys:=[.agg [ay (⟨#[36,97,99,99,101,112,116]⟩),ay a']]) bH [(⟨⟨#[36,97,99,99,101,112,116]⟩,a'⟩:fF)] yj q q q q q q Gz q q)<|al (O.eT .z5)<|al O.y2<|al O.y2<|ar.eD (bk.te [1,2,6])<|bL q) ?_;refine W.bB<|W.cp [1,2,6,18] ?_;refine W.b2<|aJ h λuN ak h=>W.gK ([(⟨⟨#[36,97,99,99,101,112,116]⟩,a'⟩:fF)],0) (λ(rE:List fF × Int)=>[(6,.obj [aj b0 bu.aG.ba,aj bH rE.1,aj cE bu.aG.bj,ay bu.aG.cC,ay bu.aG.cK,aj cr bu.cu,aj bH bu.cL,aj dx bu.cb,ae bu.c3,ae bu.dn,ay bu.dk,ae bu.ct,ae bu.b_]),(18,ae rE.2)]) [1,2,6,18] 14 (λ(uN:List fF)=>[(6,.obj [aj b0 bu.aG.ba,aj bH uN,aj cE bu.aG.bj,ay bu.aG.cC,ay bu.aG.cK,aj cr bu.cu,aj bH bu.cL,aj dx bu.cb,ae bu.c3,ae bu.dn,ay bu.dk,ae bu.ct,ae bu.b_])]) [1,2,6] ak (λrE o h=>?_) ?_
   ·clear ak;refine W.bB<|W.cp [1,2,6,18,278] ?_;refine W.b8 h q (λUU h=>?_) (λUU h=>?_)
    ·refine W.cZ<|aA.bw<|W.bB<|W.b2<|aJ h λqQ Ol h=>W.cN [1,2,6,18,19] (al (O.aX .z4)<|al (O.eT .z5)<|al O.y2<|al (O.c7 (y:=.a6 dx.z ⟨6,[7]⟩ bu.cb.length))<|bZ q<|al (O.fY (en:=dx) q .dg .bh F0 Ol q)<|al (O.iw (en:=dx) (x':=ay qQ) q .z5 wR Ol q q)<|al (O.ej (cs:=[ay qQ,ay a']) FR DG q q q)<|al (O.fp (cs:=[ay a',ay a']) DG q q)<|ar.eD (bk.gp [1,2,6,18,19])<|bL q) ?_;refine W.bB<|aJ h λyr Wy h=>W.cN [1,2,6,18,19,20] (al (O.aX .z4)<|al O.bx<|al O.ed<|gr (cB.pZ (ys:=[.ptr ⟨6,[]⟩ 0,ay qQ]) q (.c (View.nU q q) (.s .nil)) (bA.go Wy))<|ar.bq) ?_;refine W.cp [1,2,6,18,19,20,294] ?_;refine aJ h λuq ah h=>W.fL [1,2,6,18,19] [(19,.obj [ay qQ,ay uq])] ?_ ?_
     ·clear h; have h:=ah; clear ah;refine W.b8 h q (λUW h=>?_) (λUW h=>?_)
      ·refine aJ h λKT Jc h=>W.bS [1,2,6,18,19] (al (O.aX .z4)<|al (O.eT .z5)<|al O.y2<|al (O.c7 (y:=.a6 bH.z ⟨6,[6]⟩ bu.cL.length))<|bZ q<|al (O.fY (en:=bH) q .dg .bh yj Jc q)<|al (O.ka (en:=bH) q .z5 MC Jc q q)<|al (O.iw (en:=bH) (x':=ay KT.Tag) q .z5 wR Jc q q)<|al O.bx<|ar.eD (bk.nq [1,2,6,18,19])<|bL q) ?_;exact aV h ▸ aA.dS
      ·exact W.cZ<|aV h ▸ aA.dS
     refine aA.bw<|aJ h λQy Wz h=>W.rd [[],[],[1],[1,2],[1,2,3],[1,2,3,4],[],[6],aH 1 7 [],aH 0 9 [],aH 0 10 [],aH 0 11 [],aH 0 12 []] [(1,_),(2,_),(6,_),(18,_)] fg (by kernel_rfl) (aD 0 (O.aX .z4)<|aD 1 (O.aX .z4)<|aD 2 (O.eT .z5)<|aD 3 O.y2<|aD 4 O.y2<|aD 5 (O.c7 (y:=.a6 bH.z ⟨6,[1]⟩ rE.1.length))<|aD 6 (O.ek (cs':=[ay qQ,ay uq]) q .z4 RJ q q)<|bz.fh 7 (x:=ag bH [(⟨qQ,uq⟩:fF)]) (O.dc (ys:=[.agg [ay qQ,ay uq]]) bH [(⟨qQ,uq⟩:fF)] yj q q q q q q Gz q q) q q q q .none<|aD 8 (O.ap (en:=bH) (r:=Qy) .dg q .z2 .i GO q Wz)<|aD 9 (O.eT .z5)<|aD 10 O.y2<|aD 11 O.y2<|bz.hx 12 (bk.sp [1,2,6,18])<|bz.fin q q q (ox q q q q)) ?_;refine aA.b2<|aA.bw<|W.bS [1,2,6,18] (bZ q<|al (O.add .bh .cD)<|ar.bS [1,2,6,280] q<|ar.bq) ?_;exact aV h ▸ aA.gt
    ·exact W.fb<|aA.e'<|aV h ▸ aA.t1
   refine aA.e8<|aA.bw<|W.bB<|W.cp [1,2,6,21] ?_;refine W.b2<|aJ h λkZ ak h=>W.gK (uN,1) (λ(sq:List fF × Int)=>[(6,.obj [aj b0 bu.aG.ba,aj bH sq.1,aj cE bu.aG.bj,ay bu.aG.cC,ay bu.aG.cK,aj cr bu.cu,aj bH bu.cL,aj dx bu.cb,ae bu.c3,ae bu.dn,ay bu.dk,ae bu.ct,ae bu.b_]),(21,ae sq.2)]) [1,2,6,21] 16 (λ(kZ:List fF)=>[(6,.obj [aj b0 bu.aG.ba,aj bH kZ,aj cE bu.aG.bj,ay bu.aG.cC,ay bu.aG.cK,aj cr bu.cu,aj bH bu.cL,aj dx bu.cb,ae bu.c3,ae bu.dn,ay bu.dk,ae bu.ct,ae bu.b_])]) [1,2,6] ak (λsq o h=>?_) ?_
   ·clear ak;refine W.bB<|W.cp [1,2,6,21,321] ?_;refine W.b8 h q (λUX h=>?_) (λUX h=>?_)
    ·refine W.cZ<|aA.bw<|W.bB<|W.b2<|aJ h λGv WA h=>aJ h λwj WB h=>aJ h λQz WC h=>W.rd [[],[],[1],[1,2],[1,2,3],[1,2,3,4],[],[6],[6,7],[6,7,8],[6,7,8,9],aH 1 10 [],aH 0 12 [],aH 0 13 [],aH 0 14 [],aH 0 15 []] [(1,_),(2,_),(6,_),(21,_)] fg (by kernel_rfl) (aD 0 (O.aX .z4)<|aD 1 (O.aX .z4)<|aD 2 (O.eT .z5)<|aD 3 O.y2<|aD 4 O.y2<|aD 5 (O.c7 (y:=.a6 bH.z ⟨6,[1]⟩ sq.1.length))<|aD 6 (O.aX (.lit q))<|iW 7 (cB.eY (.cm (.lit q) .nil) (bA.go WA))<|aD 8 (O.cat .cD .bh WB)<|aD 9 (O.ej (cs:=[ay wj,ay a']) FR DG q q q)<|bz.fh 10 (x:=ag bH [(⟨wj,a'⟩:fF)]) (O.dc (ys:=[.agg [ay wj,ay a']]) bH [(⟨wj,a'⟩:fF)] yj q q q q q q Gz q q) q q q q .none<|aD 11 (O.ap (en:=bH) (r:=Qz) .dg q .z2 .i GO q WC)<|aD 12 (O.eT .z5)<|aD 13 O.y2<|aD 14 O.y2<|bz.hx 15 (bk.sp [1,2,6,21])<|bz.fin q q q (ox q q q q)) ?_;refine aA.b2<|aA.bw<|W.bS [1,2,6,21] (bZ q<|al (O.add .bh .cD)<|ar.bS [1,2,6,323] q<|ar.bq) ?_;exact aV h ▸ aA.gt
    ·exact W.fb<|aA.e'<|aV h ▸ aA.t1
   refine aA.e8<|aA.bw<|W.cp [1,2,6,22] ?_;refine W.bB<|W.cp [1,2,6,22,23] ?_;refine W.b2<|aJ h λmf ak h=>W.gK (bu.aG.ba,57346,3) (λ(mc:List bX × Int × Int)=>[(6,.obj [aj b0 mc.1,aj bH kZ,aj cE bu.aG.bj,ay bu.aG.cC,ay bu.aG.cK,aj cr bu.cu,aj bH bu.cL,aj dx bu.cb,ae bu.c3,ae bu.dn,ay bu.dk,ae bu.ct,ae bu.b_]),(22,ae mc.2.1),(23,ae mc.2.2)]) [1,2,6,22,23] 18 (λ(mf:List bX)=>[(6,.obj [aj b0 mf,aj bH kZ,aj cE bu.aG.bj,ay bu.aG.cC,ay bu.aG.cK,aj cr bu.cu,aj bH bu.cL,aj dx bu.cb,ae bu.c3,ae bu.dn,ay bu.dk,ae bu.ct,ae bu.b_])]) [1,2,6] ak (λmc o h=>?_) ?_
   ·clear ak;refine W.bB<|W.cp [1,2,6,22,23,346] ?_;refine W.b8 h q (λUY h=>?_) (λUY h=>?_)
    ·refine W.cZ<|aA.bw<|W.bB<|aJ h λCm ah h=>W.fL [1,2,6,22,23] [(6,.obj [aj b0 Cm.1,aj bH kZ,aj cE bu.aG.bj,ay bu.aG.cC,ay bu.aG.cK,aj cr bu.cu,aj bH bu.cL,aj dx bu.cb,ae bu.c3,ae bu.dn,ay bu.dk,ae bu.ct,ae bu.b_]),(22,ae Cm.2)] ?_ ?_
     ·clear h; have h:=ah; clear ah;refine W.b2<|aJ h λKN Og h=>W.cN [1,2,6,22,23,356] (al (O.aX .z4)<|al (O.eT .z5)<|al O.y2<|al (O.c7 (y:=.a6 cr.z ⟨6,[5]⟩ bu.cu.length))<|bZ q<|al (O.fY (en:=cr) q .dg .bh rG Og q)<|al (O.iw (en:=cr) (x':=a_ KN) q .z5 y_ Og q q)<|ar.bq) ?_;refine aJ h λCk ah h=>W.fL [1,2,6,22,23] [(6,.obj [aj b0 Ck.1,aj bH kZ,aj cE bu.aG.bj,ay bu.aG.cC,ay bu.aG.cK,aj cr bu.cu,aj bH bu.cL,aj dx bu.cb,ae bu.c3,ae bu.dn,ay bu.dk,ae bu.ct,ae bu.b_]),(22,ae Ck.2)] ?_ ?_
      ·clear h; have h:=ah; clear ah;refine W.b8 h q (λUA h=>?_) (λUA h=>?_)
       ·refine aJ h λsu I4 h=>W.cN [1,2,6,22,23] (al (O.aX .z4)<|al (O.eT .z5)<|al O.y2<|al O.y2<|al (O.c7 (y:=.a6 b0.z ⟨6,[0]⟩ mc.1.length))<|bZ q<|bZ q<|al (O.fY (en:=b0) q .dg .bh F2 I4 q)<|al (O.ka (en:=b0) q .z5 Mz I4 q q)<|ar.eD (bk.rF (en:=b0) (y2:=(⟨su.Name,su.Lit,mc.2.1,su.Level,su.fv,su.Tag⟩:bX)) [1,2,6,22,23] I4)<|bL q) ?_;refine W.bS [1,2,6,22,23] (bZ q<|al (O.add .bh .cD)<|ar.bS [1,2,6,23,367] q<|ar.bq) ?_;exact aV h ▸ aA.dS
       ·exact W.cZ<|aV h ▸ aA.dS
      exact aA.b2<|aV h ▸ aA.dS
     refine aA.bw<|W.bS [1,2,6,22,23] (bZ q<|al (O.add .bh .cD)<|ar.bS [1,2,6,22,348] q<|ar.bq) ?_;exact aV h ▸ aA.gt
    ·exact W.fb<|aA.e'<|aV h ▸ aA.t1
   refine aA.e8<|aA.bw<|aJ h λu2 ah h=>W.kh [1,2,6,24] [(24,a_ u2)] ?_ ?_
   ·refine al (O.aX .z4)<|al (O.eT .z5)<|al O.y2<|al O.y2<|al (O.c7 (y:=.a6 b0.z ⟨6,[0]⟩ mf.length))<|al (O.mB .dg F2)<|al (O.gtr .bh .cD)<|al (O.aX (.lit q)) ?_;rcases fq ah with ⟨tR,ah⟩ | ⟨tR,ah⟩
    ·exact aV ah ▸ ar.bq
    ·refine cc tR (O.aX .z4)<|cc tR (O.eT .z5)<|cc tR O.y2<|cc tR O.y2<|cc tR (O.c7 (y:=.a6 bH.z ⟨6,[1]⟩ kZ.length))<|cc tR (O.mB .dg yj)<|cc tR (O.gtr .bh .cD)<|al (O.dA .bh tR .bh)<|al (O.aX (.lit q)) ?_;rcases fq ah with ⟨Nl,ah⟩ | ⟨Nl,ah⟩
     ·exact aV ah ▸ ar.bq
     ·exact aV ah ▸ (cc Nl (O.aX .z4)<|ar.bq)
   refine W.bB<|W.cp [1,2,6,24,25] ?_;refine W.b2<|aJ h λAH ak h=>W.gK (u2,0) (λ(ta:Bool × Int)=>[(24,a_ ta.1),(25,ae ta.2)]) [1,2,6,24,25] 20 (λ(AH:Bool)=>[(24,a_ AH)]) [1,2,6,24] ak (λta o h=>?_) ?_
   ·clear ak;refine W.bB<|W.cp [1,2,6,24,25,400] ?_;refine W.b8 h q (λUB h=>?_) (λUB h=>?_)
    ·refine W.cZ<|aA.bw<|W.bB<|W.b2<|aJ h λG8 ah h=>W.rx [(1,.obj (hh.cells a0)),(2,.obj [.aK,.aK,.aK,ay a',ay a']),(6,.obj [aj b0 mf,aj bH kZ,aj cE bu.aG.bj,ay bu.aG.cC,ay bu.aG.cK,aj cr bu.cu,aj bH bu.cL,aj dx bu.cb,ae bu.c3,ae bu.dn,ay bu.dk,ae bu.ct,ae bu.b_]),(24,a_ G8),(25,ae ta.2)] ?_ ?_
     ·refine bZ q<|al (O.aX (.lit q)) ?_;rcases fq ah with ⟨kc,ah⟩ | ⟨kc,ah⟩
      ·exact aV ah ▸ (gg kc<|gg kc<|gg kc<|gg kc<|gg kc<|gg kc<|gg kc<|gg kc<|gg kc<|gg kc<|gg kc<|al (O.hG .bh kc .cD)<|ar.bS [1,2,6,25,416] q<|ar.bq)
      ·refine cc kc (O.aX .z4)<|cc kc (O.eT .z5)<|cc kc O.y2<|cc kc O.y2<|cc kc (O.c7 (y:=.a6 cE.z ⟨6,[2]⟩ bu.aG.bj.length))<|cc kc (O.aX (.lit q)) ?_;exact aJ ah λKO I5 ah=>aV ah ▸ (cc kc (O.fY (en:=cE) q .dg .bh F3 I5 q)<|cc kc (O.ka (en:=cE) q .z5 ME I5 q q)<|cc kc (O.iw (en:=cE) (x':=ag ai KO.eI) q .z5 u3 I5 q q)<|cc kc O.iy<|cc kc (O.gtr .bh .cD)<|al (O.dA .bh kc .bh)<|ar.bS [1,2,6,25,416] q<|ar.bq)
     refine aA.b2<|aA.bw<|W.bS [1,2,6,24,25] (bZ q<|al (O.add .bh .cD)<|ar.bS [1,2,6,24,402] q<|ar.bq) ?_;exact aV h ▸ aA.gt
    ·exact W.fb<|aA.e'<|aV h ▸ aA.t1
   refine aA.e8<|aA.bw<|W.bB<|W.cp [1,2,6,417] ?_;refine W.b8 h q (λUC h=>?_) (λUC h=>?_)
   ·refine W.cN [2,3,4,5] (al (O.ej (cs:=[.aK,.aK,.aK,ay a',ay a']) Ks tg q q q)<|ar.eD (bk.gp [2])<|ar.bq) ?_;refine W.dN (G1:=[(2,.obj [ag b0 ([]:List bX),ag bH ([]:List fF),ag cE ([]:List Prod),ay a',ay a']),(3,_),(4,_),(5,_)]) [2] (.z q q (fo.obj (.z (.z (.z (.f (.f .nil)))))) (.n q q (.n q q (.n q q .nil)))) ?_;exact W.rt<|aA.hZ<|aV h ▸ i_ (.c (ys0:=[ag b0 ([]:List bX),ag bH ([]:List fF),ag cE ([]:List Prod),ay a',ay a']) q ja q q q (.f q (.f q (.f q (.f q (.f q .nil))))) (.f q q (.f q q (.f q q .nil))))
   ·refine W.cZ<|aA.bw<|W.bB<|W.rd [[],[],[],[2],[],[4],[0,2,3],[0,2,3,6],[0,2,3,6,7],[0,2,3,6,7,8],aH 0 10 [],aH 0 11 [],aH 0 12 [],aH 0 13 []] [(2,_),(6,_)] fg (by kernel_rfl) (aD 0 (O.aX .z4)<|aD 1 (O.aX .z4)<|aD 2 O.bx<|aD 3 O.ed<|aD 4 O.bx<|aD 5 O.ed<|aD 6 (O.eT .z5)<|aD 7 O.y2<|aD 8 O.y2<|bz.ej 9 (G2:=[(1,.obj (hh.cells a0)),(2,.obj [.aK,.aK,.aK,ay a',ay a']),(6,.obj [aj b0 mf,aj bH kZ,aj cE bu.aG.bj,ay a0.cC,ay bu.aG.cK,aj cr bu.cu,aj bH bu.cL,aj dx bu.cb,ae bu.c3,ae bu.dn,ay bu.dk,ae bu.ct,ae bu.b_])]) (U:=[(5,424,some (ay a0.cK)),(4,423,some (.ptr ⟨1,[]⟩ 3)),(1,420,some (.ptr ⟨6,[]⟩ 0))]) (iz.v (bk.j' (bk.jh (G2:=[(1,.obj (hh.cells a0)),(2,.obj [.aK,.aK,.aK,ay a',ay a']),(6,.obj [aj b0 mf,aj bH kZ,aj cE bu.aG.bj,ay a0.cC,ay bu.aG.cK,aj cr bu.cu,aj bH bu.cL,aj dx bu.cb,ae bu.c3,ae bu.dn,ay bu.dk,ae bu.ct,ae bu.b_])]) (cs2:=[aj b0 mf,aj bH kZ,aj cE bu.aG.bj,ay a0.cC,ay bu.aG.cK,aj cr bu.cu,aj bH bu.cL,aj dx bu.cb,ae bu.c3,ae bu.dn,ay bu.dk,ae bu.ct,ae bu.b_]) q q q (.ptr q) (.lit q) q Qh q q q q (.n q q (.n q q (.b q .nil)))))) q q (by kernel_rfl) q q q (.c (.inr (.inl ⟨_,q⟩)) q q q q q (fw.wanted .none) (O.oW q .z5 wR q) (.c (.inr (.inr (.inr (.inl ⟨1,_,_,q,q,hW q,by simp,_,q,hW q⟩)))) q q q q q (fw.wanted .none) (O.kt q .z4 Tm q) (.c (.inr (.inr (.inr (.inl ⟨6,_,_,q,q,hW q,by simp,_,q,hW q⟩)))) q q q q q (fw.wanted .none) (O.aX .z4) .nil))) (by kernel_rfl)<|aD 10 (O.eT .z5)<|aD 11 O.y2<|aD 12 O.y2<|bz.hx 13 (bk.nq [2,6])<|bz.fin q q q (kX q q)) ?_;refine aA.bw<|W.bB<|W.dN (G1:=[(2,_),(6,.obj [ag b0 mf,ag bH kZ,ag cE bu.aG.bj,ay a0.cC,ay a0.cK,aj cr bu.cu,aj bH bu.cL,aj dx bu.cb,ae bu.c3,ae bu.dn,ay bu.dk,ae bu.ct,ae bu.b_])]) [6] (.n q q (.z q q (fo.obj (.z (.z (.z (.f (.f (.f (.f (.f (.f (.f (.f (.f (.f .nil)))))))))))))) .nil)) ?_;refine W.bS [2,3,4,5] (al (O.aX .z4)<|al (O.eT .z5)<|al O.y2<|al (O.ek (cs':=[ag b0 mf,ag bH kZ,ag cE bu.aG.bj,ay a0.cC,ay a0.cK]) q .z5 ja q q)<|ar.eD (bk.gp [2])<|ar.bq) ?_;exact aA.bw<|W.rt<|aV h ▸ i_ (.c (ys0:=[ag b0 mf,ag bH kZ,ag cE bu.aG.bj,ay a0.cC,ay a0.cK]) q ja q q q (.f q (.f q (.f q (.f q (.f q .nil))))) (.f q q (.f q q (.f q q .nil))))
instance abc {a0:Source}{r:bO × Int × Int × ByteArray}:bA prog 77 (vY a0=some r) [.agg (hh.cells a0)] [none] (.bW [.agg (dt.cells r.1),ae r.2.1,ae r.2.2.1,ay r.2.2.2]):=⟨SO a0 _⟩
instance aa2 {a0:Source}{r:bO × Bool}:bA prog 62 (x3 a0=some r) [.agg (hh.cells a0)] [none] (.bW [.agg (dt.cells r.1),a_ r.2]):=⟨λh=>by unfold x3 at h; exact bV.bq (N:=⟨18,[]⟩) [1,2,3,4,5] .e func62 rfl rfl rfl rfl rfl dH⟩
instance aa1 {a0:(List Int)}{aE:Int}{r:(List Int)}:bA prog 61 (pU a0 aE=some r) [ag ai a0,ae aE] [none,none] (ag ai r):=⟨λh=>by unfold pU at h; exact bV.bq (N:=⟨47,[]⟩) [0,1,4,5,6,19,32] (.eP (λ(s1:Int)=>[(5,ae s1)]) [0,1,5] 0 (λ(x2:Int)=>[(5,ae x2)]) [0,1,5] (.ev 2 [0,1,5,19] (λ(oJ:Bool)=>[(19,a_ oJ)]) .e) (.ev 4 [0,1,5,32] (λ(ik:Bool)=>[(32,a_ ik)]) (.b .e (.rd 7 [[],[],[1],[0,1,2],[],[],[4,5],aH 0 7 [],aH 0 8 []] .e)))) func61 rfl rfl rfl rfl rfl dH⟩
end Go.Proofs
